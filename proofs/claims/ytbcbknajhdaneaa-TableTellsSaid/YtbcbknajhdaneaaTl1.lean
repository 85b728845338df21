/- What is proved: plain laws of TableTells: what rows have; values compared by the document; values that are spoilt. the walk of the law TableTells. -/
import Derived.Test.YtbcbknajhdaneaaTj1
import Derived.Deep.RegionLawGrows
import Derived.Deep.CutRange
import Derived.Deep.CutBlock
namespace Go.Proofs.Ytbcbknajhdaneaa
open Go.RowKit
set_option linter.unusedVariables false
set_option linter.unusedSimpArgs false
theorem vs_no {t : Tab} {row : Int} (h : atE t row ≠ 0) : vsE t row = atE t row ∧ vsL t row = [] := by
  have h1 : vsE t row = atE t row := by unfold vsE; rw [if_neg h]
  exact ⟨h1, by unfold vsL; rw [if_neg (by rw [h1]; exact h)]⟩
theorem vs_in {t : Tab} {r : Nat} (h : atE t (r : Int) = 0) : vsE t (r : Int) = 0 ∧ vsL t (r : Int) = rowL t.F r := by
  have h1 : vsE t (r : Int) = 0 := by unfold vsE; rw [if_pos h]; exact each_get_zero h
  refine ⟨h1, ?_⟩
  obtain ⟨hb, h0, hl⟩ := atE_zero h
  obtain ⟨_, _, _, hc, _⟩ := tabB_parts hb
  unfold vsL rowL
  rw [if_pos h1, eachL_map]
  refine List.map_congr_left fun x hx => ?_
  obtain ⟨hc1, hc2⟩ := hc x hx
  unfold getL
  rw [if_pos (by unfold getE; rw [hc1, if_pos rfl, if_pos ⟨h0, by rw [hc2]; exact hl⟩]), Int.toNat_natCast]
theorem tg_no {t : Tab} {row id : Int} (h : atE t row ≠ 0) : tgE t row id = atE t row ∧ tgL t row id = [] := by
  have h1 : plE t row id = atE t row := by unfold plE; rw [if_neg h]
  exact ⟨by unfold tgE; rw [if_neg (by rw [h1]; exact h), h1], by unfold tgL; rw [if_neg (by rw [h1]; exact h)]⟩
theorem tg_none {t : Tab} {row id : Int} (h : atE t row = 0) (hk : ixD t.ty id < 0) : tgE t row id = 4 ∧ tgL t row id = [] := by
  have h0 := (tse_none (v := default) h hk).1
  have h1 : plE t row id = 4 := by
    unfold tseE at h0
    split at h0
    · rename_i h2
      have h3 := (plE_zero h2).2
      exfalso
      have hI := (tyR_iff _).1 (tabB_parts (atE_zero h).1).1
      have hm := (ibIn_iff id hI).1 h3
      obtain ⟨k, hk2⟩ := List.getElem?_of_mem hm
      have h4 := ixGo_at id t.ty 0 k hk2 (fun j x hj hx => by
        subst hx
        have e1 := ibAt_at hI hj
        have e2 := ibAt_at hI hk2
        omega)
      unfold ixD at hk
      omega
    · exact h0
  exact ⟨by unfold tgE; rw [if_neg (by rw [h1]; decide), h1], by unfold tgL; rw [if_neg (by rw [h1]; decide)]⟩
theorem tg_at {t : Tab} {r k : Nat} {id : Int} {x : Col} (h : atE t (r : Int) = 0) (hk : ibAt t.ty id = k) (hin : ibIn t.ty id = true) (hx : t.F[k]? = some x) : tgE t (r : Int) id = 0 ∧ (vsL t (r : Int))[k]? = some (tgL t (r : Int) id) := by
  obtain ⟨hb, h0, hl⟩ := atE_zero h
  obtain ⟨_, _, _, hc, _⟩ := tabB_parts hb
  obtain ⟨hc1, hc2⟩ := hc x (List.mem_of_getElem? hx)
  have hp : plE t (r : Int) id = 0 := by unfold plE; rw [if_pos h, hin]; rfl
  have hca : colAt t k = x := by unfold colAt; rw [hx]
  have hg : getE x (r : Int) = 0 := by unfold getE; rw [hc1, if_pos rfl, if_pos ⟨h0, by rw [hc2]; exact hl⟩]
  refine ⟨by unfold tgE; rw [if_pos hp, hk, hca]; exact hg, ?_⟩
  rw [(vs_in h).2, rowL_get hx]
  unfold tgL getL
  rw [if_pos hp, hk, hca, if_pos hg, Int.toNat_natCast]
theorem vsL_le4 {t : Tab} (row : Int) : ∀ l ∈ vsL t row, l.length ≤ 4 := by
  intro l hl
  by_cases h : atE t row = 0
  · obtain ⟨hb, h0, _⟩ := atE_zero h
    obtain ⟨r, rfl⟩ := Int.eq_ofNat_of_zero_le h0
    rw [(vs_in h).2] at hl
    have h9 := allR_small hb (r + 1) (rowL t.F r) (by rw [allR_succ]; simp)
    exact h9 l hl
  · rw [(vs_no h).2] at hl; cases hl
/-- two rows of values that hold the same are found the same by the document -/
theorem veq_same4 {A A2 : Option Addr} {c c2 : Nat} {F G : List Rw} {ls : List (List Int)} {w : World} {b b2 : Nat} (ho : w.ownsRow b 44 1 (.slice A F.length c) F.length (rws F)) (ho2 : w.ownsRow b2 44 1 (.slice A2 G.length c2) G.length (rws G))
    (hF : ∀ x ∈ F, RwFresh w b x) (hG : ∀ x ∈ G, RwFresh w b2 x) (h1 : F.map Rw.l = ls) (h2 : G.map Rw.l = ls) (hls : ∀ l ∈ ls, l.length ≤ 65535) (hn : ls.length ≤ 65535) :
    Calls Try.prog 24 #[.slice A F.length c, .slice A2 G.length c2, .func (.func 25) #[] #[]] w fun e w' => e = .returned (.bool true) ∧ Below w.heap.size w w' := by
  have q1 : ∀ x ∈ F, RwOk w w.heap.size x ∧ x.n ≤ 281474976710656 := fun x hx => by
    have h3 := rwOk_fresh (hF x hx)
    have h4 := hls x.l (by rw [← h1]; exact List.mem_map_of_mem hx)
    rw [h3.len] at h4
    exact ⟨h3, by omega⟩
  have q2 : ∀ x ∈ G, RwOk w w.heap.size x ∧ x.n ≤ 281474976710656 := fun x hx => by
    have h3 := rwOk_fresh (hG x hx)
    have h4 := hls x.l (by rw [← h2]; exact List.mem_map_of_mem hx)
    rw [h3.len] at h4
    exact ⟨h3, by omega⟩
  have l1 := congrArg List.length h1
  have l2 := congrArg List.length h2
  rw [List.length_map] at l1 l2
  have h9 := veq4_any A F.length c F A2 G.length c2 G w (Reads.of_own ho) (Reads.of_own ho2) q1 q2 (by omega) (by omega)
  rw [h1, h2, show (ls == ls) = true from by simp] at h9
  exact h9
/-- what was wanted of a row's values -/
def WantV (er : Int) (vL : List (List Int)) (W : World) (s18 s19 : Value) (wx : World) : Prop :=
  s18 = .int .i64 er ∧ Below W.heap.size W wx ∧ ∃ A c G, s19 = .slice A G.length c ∧ wx.ownsRow W.heap.size 44 1 (.slice A G.length c) G.length (rws G) ∧ G.map Rw.l = vL ∧ ∀ x ∈ G, RwFresh wx W.heap.size x
theorem wantV_nil (er : Int) {W wx : World} (h : Below W.heap.size W wx) : WantV er [] W (.int .i64 er) (.slice none 0 0) wx :=
  ⟨rfl, h, none, 0, [], rfl, World.ownsRow_nil _ _ _ _, rfl, by simp⟩
/-- values of the call's own that are spoilt -/
structure SpV (A : Option Addr) (c : Nat) (G : List Rw) (base : Nat) (w : World) : Prop where
  own : w.ownsRow base 44 1 (.slice A G.length c) G.length (rws G)
  ints : ∀ x ∈ G, IntS w base 26 x.A x.n
theorem SpV.below {A : Option Addr} {c : Nat} {G : List Rw} {base : Nat} {w w' : World} (h : SpV A c G base w) (hb : Below w.heap.size w w') : SpV A c G base w' := ⟨own_below h.own hb, fun x hx => (h.ints x hx).below hb⟩
theorem SpV.set {A : Option Addr} {c g j base : Nat} {G : List Rw} {w : World} {cur : Array Value} {y : Int} (h : SpV A c G base w) (hg : w.heap[g]? = some (.cells cur 26 (0, 0))) (hy : Word y) : SpV A c G base (w.setCell ⟨g, j, none⟩ (.int .u64 y)) :=
  ⟨own_far_of h.own hg (by decide) _, fun x hx => intS_set (h.ints x hx) hg hy⟩
end Go.Proofs.Ytbcbknajhdaneaa
namespace Go.Proofs.Ytbcbknajhdaneaa
open Go.RowKit Go.Deep
set_option linter.unusedVariables false
set_option linter.unusedSimpArgs false
theorem blk_cells1 {w : World} {g : Nat} {t : TypeId} {v : Value} (h : Blk w g t #[v]) : ∀ j u, [v][j]? = some u → w.cell? ((⟨g, 0, none⟩ : Addr).add j) = some u := fun j x hx => by
  rw [add_none, Nat.zero_add, h.cell]
  simpa using hx
theorem ids_all {w : World} {B n : Nat} {A : Option Addr} {l : List Int} (h : Reads w B 1 A n (ids l)) : ∀ b, A = some b → ∀ j u, (ids l)[j]? = some u → w.cell? (b.add j) = some u := fun b hA j u hu => by
  have h1 := h.1
  have h2 := (List.getElem?_eq_some_iff.1 hu).1
  obtain ⟨a, e, _, h3⟩ := h.2 (by omega)
  rw [hA] at e
  injection e with e
  rw [e]
  exact h3 j u hu
theorem ids_none {w : World} {B n : Nat} {A : Option Addr} {l : List Int} (h : Reads w B 1 A n (ids l)) : A = none → n = 0 ∧ n = 0 := fun hA => by
  rcases Nat.eq_zero_or_pos n with h0 | h0
  · exact ⟨h0, h0⟩
  · obtain ⟨a, e, _⟩ := h.2 h0
    rw [hA] at e; cases e
set_option maxRecDepth 100000 in
set_option maxHeartbeats 64000000 in
theorem tells_walk (t : Tab) (QA : Option Addr) (qn qc : Nat) (qs : List Int) (RA : Option Addr) (rn rc : Nat) (rs : List Int) (w : World) (h : TabOk w w.heap.size t) (hRq : Reads w w.heap.size 1 QA qn (ids qs)) (hqn : qn ≤ 281474976710656) (hRr : Reads w w.heap.size 1 RA rn (ins rs)) (hrn : rn ≤ 281474976710656) :
    Calls Try.prog 4 #[t.V, .slice QA qn qc, .slice RA rn rc] w fun en w' => en = .returned (.bool true) ∧ Below w.heap.size w w' := by
  have hbx := (Below.refl w.heap.size w).alloc (Nat.le_refl _) (.cells #[.slice t.TA t.Tn t.Tc, .slice t.CA t.Cn t.Cc, .slice t.EA t.En t.Ec] 25)
  have kx := Blk.new w 25 #[.slice t.TA t.Tn t.Tc, .slice t.CA t.Cn t.Cc, .slice t.EA t.En t.Ec]
  have cown := fun (W : World) (hb : Below w.heap.size w W) => own_any t W ((h.keep hb).more hb.size)
  have hpo := psm_own t.p
  have hqo := own_q t.p
  unfold OwnT at cown
  generalize ownP t.p = p0 at *
  generalize hpost : (fun en w' => en = Ending.returned (.bool true) ∧ Below w.heap.size w w') = POST
  have HPO := Lib.hid hpost
  have HP0 := Lib.hid hpo
  have HQ0 := Lib.hid hqo
  have HKX := Lib.hid kx
  have HRR := Lib.hid hRr
  have HRQ := Lib.hid hRq
  have HRS := Lib.hid (show rs.length = rn from by have h1 := hRr.1; rw [ins_len] at h1; omega)
  have HQS := Lib.hid (show qs.length = qn from by have h1 := hRq.1; rw [ids_len] at h1; omega)
  unfold Tab.V at cown ⊢
  obtain ⟨TA, Tn, Tc, ty, CA, Cn, Cc, Fc, EA, En, Ec, es⟩ := t
  simp only at *
  clear hpost hpo hqo kx h hRr hRq
  go_enter Try.func4, Try.ntmps4
  go_upto_region 4 with (first
    | (go_at_call 13; ((with_reducible refine (wakes_any _).mono ?_); rintro en w1 ⟨rfl, hb1⟩; have hbw1 := hbx.trans (hb1.mono hbx.size); obtain ⟨⟨x0, x1, x2⟩, _⟩ := blk_cells3 (blk_below HKX.out hb1)))
    | (go_at_call 14; ((with_reducible refine (cown _ hbw1).mono ?_); rintro en w2 ⟨t0, rfl, hp0, hf0, hb2⟩; have hbw2 := hbw1.trans (hb2.mono hbw1.size); (try unfold Tab.V)))
    | fail)
  obtain ⟨W4, hW4⟩ : ∃ W4, W4 = w2.alloc (.cells #[.slice t0.TA t0.Tn t0.Tc, .slice t0.CA t0.Cn t0.Cc, .slice t0.EA t0.En t0.Ec] 25) := ⟨_, rfl⟩
  rw [← hW4]
  have hb34 : Below w2.heap.size w2 W4 := by rw [hW4]; exact (Below.refl _ _).alloc (Nat.le_refl _) _
  have k4 : Blk W4 w2.heap.size 25 #[.slice t0.TA t0.Tn t0.Tc, .slice t0.CA t0.Cn t0.Cc, .slice t0.EA t0.En t0.Ec] := by rw [hW4]; exact Blk.new _ _ _
  have hbw4 : Below w.heap.size w W4 := hbw2.trans (hb34.mono hbw2.size)
  have hT0 : TabOk W4 W4.heap.size t0 := (hf0.below hb34).ok
  have hPS : PSm t0.p := by rw [hp0]; exact HP0.out.1
  have hsm := psm_sm hT0 hPS
  have crt := fun (W : World) (hb : Below W4.heap.size W4 W) => rtab_any t0 W ((hT0.keep hb).more hb.size) ⟨hsm.1.1, hsm.1.2.1, hsm.1.2.2.1⟩
  obtain ⟨bt, hbt⟩ : ∃ bt, tabB t0 = bt := ⟨_, rfl⟩
  have HBT := Lib.hid hbt
  rw [hbt] at crt
  have kx4 := blk_below (blk_below (blk_below HKX.out hb1) hb2) hb34
  have HC4 := Lib.hid (fun (W : World) (hb : Below W4.heap.size W4 W) => And.intro (blk_cells3 (blk_below k4 hb)).1 (blk_cells3 (blk_below kx4 hb)).1)
  have HT4 := Lib.hid hT0
  have HPP := Lib.hid hp0
  have HPS := Lib.hid hPS
  have HSM := Lib.hid hsm
  have HBW4 := Lib.hid hbw4
  have HL7 := Lib.hid k4.lt
  obtain ⟨⟨y0, y1, y2⟩, _⟩ := HC4.out W4 (Below.refl _ _)
  unfold Tab.V at crt
  clear hW4 hf0 hp0 hbw2 hb2 hb1 hbw1 hT0 hPS hsm k4 kx4 hbt hbw4 hb34
  generalize w2.heap.size = b7 at *
  go_upto_block 0 with (first
    | (go_at_call 17; ((with_reducible refine (crt _ (Below.refl _ _)).mono ?_); rintro en WL ⟨rfl, hbL⟩))
    | fail)
  have HBL := Lib.hid (HBW4.out.trans (hbL.mono HBW4.out.size))
  have HCL := Lib.hid (fun (W : World) (hb : Below WL.heap.size WL W) => HC4.out W (hbL.trans (hb.mono hbL.size)))
  have HTL := Lib.hid ((HT4.out.keep hbL).more hbL.size)
  have HN0 := Lib.hid HTL.out.nl
  have HLN := Lib.hid HTL.out.len
  have CSB := Lib.hid (fun (tB : Tab) (W : World) (hpB : tB.p = p0) (hTB : TabOk W W.heap.size tB) (hb : Below WL.heap.size WL W) => (show Calls Try.prog 22 #[t0.V, tB.V] W (fun e w' => e = .returned (.bool true) ∧ Below W.heap.size W w') from by
    have hpp : t0.p = tB.p := HPP.out.trans hpB.symm
    have h9 := rtsame_any t0 tB W ((HTL.out.keep hb).more hb.size) hTB HSM.out.1 (psm_sm hTB (by rw [← hpp]; exact HPS.out)).1
    rw [tabQ_p hpp] at h9
    exact h9))
  clear hbL y0 y1 y2 crt
  go_cut [] from 36 to 76 (fun wx => Below WL.heap.size WL wx)
  case first =>
    go_wp2_with fail
    go_loopw [36] (fun i wr => ∃ k : Nat, k ≤ qn ∧ i = .int .i64 k ∧ Below WL.heap.size WL wr) (fun i _ => qn - (intOf i).toNat)
    case atStart => exact ⟨0, Nat.zero_le _, rfl, Below.refl _ _⟩
    case round =>
      obtain ⟨k, hk, rfl, hb⟩ := hrel
      by_cases hlt : k < qn
      · have e1 := List.getElem?_eq_getElem (l := qs) (i := k) (by rw [HQS.out]; exact hlt)
        generalize qs[k]'(by rw [HQS.out]; exact hlt) = who at e1
        obtain ⟨b, off, rfl, hbl, g⟩ := ids_cell HRQ.out e1
        have hcell := cell_below' (HBL.out.trans (hb.mono HBL.out.size)) g hbl
        have i1 : (k : Int) < (qn : Int) := by omega
        clear e1 g hbl
        by_cases hk8 : k = 8
        · subst hk8
          go_wp2_with fail
          go_meet
          case rel => exact hb
        · have d8 : ((k : Int) == 8) = false := by simp; omega
          have crow := trow_any t0 who wr ((HTL.out.keep hb).more hb.size) HSM.out.1
          have cix := fun (W : World) (hb2 : Below wr.heap.size wr W) => index_d t0.EA t0.En t0.Ec t0.es who W ((HTL.out.es.below (hb.trans (hb2.mono hb.size))).more (hb.trans (hb2.mono hb.size)).size) HSM.out.1.2.2.1
          have hcc := fun (W : World) (hb2 : Below wr.heap.size wr W) => (HCL.out W (hb.trans (hb2.mono hb.size))).1
          obtain ⟨y0, y1, y2⟩ := hcc wr (Below.refl _ _)
          have hK : rowK t0 who = (decide (0 ≤ ixD t0.es who) && bt) := by unfold rowK; rw [HBT.out]
          have hI : rowI t0 who = if rowK t0 who then ixD t0.es who else 0 := rfl
          rw [hI, hK] at crow
          unfold Tab.V at crow
          generalize ixD t0.es who = ix at *
          clear hK hI
          cases bt
          · simp only [Bool.and_false, Bool.false_eq_true, if_false] at crow
            go_wp2_with (first
              | (go_at_call 26; ((with_reducible refine crow.mono ?_); rintro en w3 ⟨rfl, hb3⟩; obtain ⟨y0, y1, y2⟩ := hcc _ hb3))
              | (go_at_call 27; ((with_reducible refine (cix _ hb3).mono ?_); rintro en w4 ⟨rfl, rfl⟩))
              | fail)
            go_roundw
            case rel => exact ⟨k + 1, by omega, by go_num, hb.trans (hb3.mono hb.size)⟩
            case measure => simp [intOf]; omega
          · by_cases hix : 0 ≤ ix
            · rw [decide_eq_true hix] at crow
              simp only [Bool.and_true, if_true] at crow
              have d0 : (ix != ix) = false := by simp
              go_wp2_with (first
                | (go_at_call 26; ((with_reducible refine crow.mono ?_); rintro en w3 ⟨rfl, hb3⟩; obtain ⟨y0, y1, y2⟩ := hcc _ hb3))
                | (go_at_call 27; ((with_reducible refine (cix _ hb3).mono ?_); rintro en w4 ⟨rfl, rfl⟩))
                | fail)
              go_roundw
              case rel => exact ⟨k + 1, by omega, by go_num, hb.trans (hb3.mono hb.size)⟩
              case measure => simp [intOf]; omega
            · rw [decide_eq_false hix] at crow
              simp only [Bool.false_and, Bool.false_eq_true, if_false] at crow
              go_wp2_with (first
                | (go_at_call 26; ((with_reducible refine crow.mono ?_); rintro en w3 ⟨rfl, hb3⟩; obtain ⟨y0, y1, y2⟩ := hcc _ hb3))
                | (go_at_call 27; ((with_reducible refine (cix _ hb3).mono ?_); rintro en w4 ⟨rfl, rfl⟩))
                | fail)
              go_roundw
              case rel => exact ⟨k + 1, by omega, by go_num, hb.trans (hb3.mono hb.size)⟩
              case measure => simp [intOf]; omega
      · have : k = qn := by omega
        subst this
        have i1 : ¬ ((k : Int) < (k : Int)) := by omega
        go_wp2_with fail
        go_meet
        case rel => exact hb
  case rest =>
  have hb1 := hcut
  clear hcut
  go_upto_block 2 with fail
  go_cut [] from 79 to 194 (fun wx => Below WL.heap.size WL wx)
  case first =>
    go_wp2_with fail
    go_loopw [79] (fun i wr => ∃ k : Nat, k ≤ rn ∧ i = .int .i64 k ∧ Below WL.heap.size WL wr) (fun i _ => rn - (intOf i).toNat)
    case atStart => exact ⟨0, Nat.zero_le _, rfl, hb1⟩
    case round =>
      clear hb1
      obtain ⟨k, hk, rfl, hb⟩ := hrel
      by_cases hlt : k < rn
      · have e1 := List.getElem?_eq_getElem (l := rs) (i := k) (by rw [HRS.out]; exact hlt)
        generalize rs[k]'(by rw [HRS.out]; exact hlt) = row at e1
        obtain ⟨b, off, rfl, hbl, g⟩ := ins_cell HRR.out e1
        have hcell := cell_below' (HBL.out.trans (hb.mono HBL.out.size)) g hbl
        have i1 : (k : Int) < (rn : Int) := by omega
        clear e1 g hbl
        by_cases hk6 : k = 6
        · subst hk6
          go_wp2_with fail
          go_meet
          case rel => exact hb
        · have d6 : ((k : Int) == 6) = false := by simp; omega
          have cval := tvalues_any t0 row wr ((HTL.out.keep hb).more hb.size) HSM.out.1 HSM.out.2.1.1
          obtain ⟨er, hEr⟩ : ∃ er, atE t0 row = er := ⟨_, rfl⟩
          obtain ⟨vL, hvL⟩ : ∃ vL, vsL t0 row = vL := ⟨_, rfl⟩
          have hvE : vsE t0 row = er := by
            rw [← hEr]
            by_cases h0 : atE t0 row = 0
            · obtain ⟨r, rfl⟩ := Int.eq_ofNat_of_zero_le (atE_zero h0).2.1
              rw [(vs_in h0).1, h0]
            · exact (vs_no h0).1
          rw [hvE, hvL] at cval
          have HER := Lib.hid hEr
          have HVL := Lib.hid hvL
          have HV4 := Lib.hid (show ∀ l ∈ vL, l.length ≤ 4 from by rw [← hvL]; exact vsL_le4 row)
          have HVN := Lib.hid (show vL.length ≤ 65535 from by rw [← hvL]; exact vsL_len HPS.out row)
          obtain ⟨⟨y0, y1, y2⟩, _⟩ := HCL.out _ hb
          unfold EachV at cval
          unfold Tab.V at cval
          clear hEr hvL hvE
          have HBR := Lib.hid hb
          clear hb
          obtain ⟨wb, rfl⟩ : ∃ wb, wb = wr := ⟨_, rfl⟩
          go_upto_if 92 with (first
            | (go_at_call 28; ((with_reducible refine cval.mono ?_); rintro en w5 ⟨v5, G1, rfl, ho1, hp1, hf1, hb5⟩; obtain ⟨A1, c1, rfl⟩ := own_slice ho1))
            | fail)
          have HO1 := Lib.hid ho1
          have HP1 := Lib.hid hp1
          have HF1 := Lib.hid hf1
          have HB5 := Lib.hid hb5
          have HC5 := Lib.hid (fun (W : World) (hb : Below w5.heap.size w5 W) => HCL.out W (HBR.out.trans ((hb5.trans (hb.mono hb5.size)).mono HBR.out.size)))
          have HT5 := Lib.hid (fun (W : World) (hb : Below w5.heap.size w5 W) => (HTL.out.keep (HBR.out.trans ((hb5.trans (hb.mono hb5.size)).mono HBR.out.size))).more (HBR.out.trans ((hb5.trans (hb.mono hb5.size)).mono HBR.out.size)).size)
          obtain ⟨⟨y0, y1, y2⟩, _⟩ := HC5.out w5 (Below.refl _ _)
          clear ho1 hp1 hf1 hb5 hcell i1 cval
          go_cut [18, 19] from 93 to 104 (fun s18 s19 wx => WantV er vL w5 s18 s19 wx)
          case first =>
            cases bt
            · obtain rfl : er = 190 := by rw [← HER.out]; exact atE_no HBT.out
              obtain rfl : vL = [] := by rw [← HVL.out]; exact (vs_no (by rw [HER.out]; decide)).2
              go_wp2_with fail
              go_meet
              case rel => exact wantV_nil 190 (Below.refl _ _)
            · by_cases h0 : 0 ≤ row
              · by_cases h1 : row < (t0.En : Int)
                · obtain rfl : er = 0 := by rw [← HER.out]; exact atE_in HBT.out ⟨h0, by rw [HLN.out.2.2]; exact h1⟩
                  obtain ⟨r, rfl⟩ := Int.eq_ofNat_of_zero_le h0
                  have hrl : r < t0.es.length := by have := HLN.out.2.2; omega
                  have crv := rvalues_any t0 r w5 (HT5.out w5 (Below.refl _ _)) HSM.out.2.1.1 HBT.out hrl
                  rw [show rowL t0.F r = vL from by rw [← HVL.out]; exact (vs_in HER.out).2.symm] at crv
                  unfold OwnVs Tab.V at crv
                  clear hrl
                  go_wp2_with (first
                    | (go_at_call 29; ((with_reducible refine crv.mono ?_); rintro en w6 ⟨v6, G2, rfl, ho2, hp2, hf2, hb6⟩; obtain ⟨A2, c2, rfl⟩ := own_slice ho2; have HO2 := Lib.hid ho2; have HP2 := Lib.hid hp2; have HF2 := Lib.hid hf2; clear ho2 hp2 hf2))
                    | fail)
                  go_meet
                  case rel => exact ⟨rfl, hb6, A2, c2, G2, rfl, HO2.out, HP2.out, HF2.out⟩
                · obtain rfl : er = 2 := by rw [← HER.out]; exact atE_out HBT.out (fun h => by rw [HLN.out.2.2] at h; exact absurd h.2 (by omega))
                  obtain rfl : vL = [] := by rw [← HVL.out]; exact (vs_no (by rw [HER.out]; decide)).2
                  go_wp2_with fail
                  go_meet
                  case rel => exact wantV_nil 2 (Below.refl _ _)
              · obtain rfl : er = 2 := by rw [← HER.out]; exact atE_out HBT.out (fun h => by omega)
                obtain rfl : vL = [] := by rw [← HVL.out]; exact (vs_no (by rw [HER.out]; decide)).2
                go_wp2_with fail
                go_meet
                case rel => exact wantV_nil 2 (Below.refl _ _)
          case rest =>
          obtain ⟨rfl, hbc, A2, c2, G2, rfl, ho2, hp2, hf2⟩ := hcut
          have ceq := veq_same4 (own_below HO1.out hbc) ho2 (fun x hx => (HF1.out x hx).below hbc) hf2 HP1.out hp2 (fun l hl => by have := HV4.out l hl; omega) HVN.out
          have d0 : (er != er) = false := by simp
          have HO2 := Lib.hid ho2
          have HP2 := Lib.hid hp2
          have HF2 := Lib.hid hf2
          have HBC := Lib.hid hbc
          clear ho2 hp2 hf2 hbc y0 y1 y2
          go_upto_region 27 with (first
            | (go_at_call 24; ((with_reducible refine ceq.mono ?_); rintro en wh ⟨rfl, hbh⟩))
            | fail)
          have hb5h := HBC.out.trans (hbh.mono HBC.out.size)
          obtain ⟨⟨y0, y1, y2⟩, _⟩ := HC5.out _ hb5h
          have HX := Lib.hid hb5h
          have HH := Lib.hid hbh
          clear hb5h hbh ceq d0
          have hTc := HTL.out.tyc.1
          have cmd := fun (w : World) => made_any 4611686018427387904 0 9 (.inr (.inl rfl)) ⟨by decide, by decide⟩ ⟨by decide, by decide⟩ w
          rw [show (4611686018427387904 + 0 * 4294967296 + 9 : Int) = 4611686018427387913 from by decide] at cmd
          refine wp_region_held_drew (S := fun w' => (w'.cell? ⟨b7, 0, none⟩ = some (.slice t0.TA t0.Tn t0.Tc) ∧ w'.cell? ⟨b7, 1, none⟩ = some (.slice t0.CA t0.Cn t0.Cc) ∧ w'.cell? ⟨b7, 2, none⟩ = some (.slice t0.EA t0.En t0.Ec))) (by kernel_rfl) ⟨y0, y1, y2⟩ (fun hHeld => ?_)
          refine wpAnyH_take (i := 0) (oi := _) (v := ?_) rfl (by kernel_rfl) (by kernel_rfl) (by kernel_rfl) (fun _ _ _ h => h) (Or.inl ⟨by rfl, ?_⟩) hHeld ?_
          rotate_left
          · intro w hSw; obtain ⟨s0, s1, s2⟩ := hSw; go_simp; try with_reducible rfl
          simp only [Act.put, List.getElem_toArray, List.getElem_cons_succ, List.getElem_cons_zero, List.setIfInBounds_toArray, List.set_cons_zero, List.set_cons_succ]
          refine wpAnyH_take (i := 1) (oi := _) (v := ?_) rfl (by kernel_rfl) (by kernel_rfl) (by kernel_rfl) (fun _ _ _ h => h) (Or.inl ⟨by rfl, ?_⟩) hHeld ?_
          rotate_left
          · intro w hSw; obtain ⟨s0, s1, s2⟩ := hSw; go_simp; try with_reducible rfl
          simp only [Act.put, List.getElem_toArray, List.getElem_cons_succ, List.getElem_cons_zero, List.setIfInBounds_toArray, List.set_cons_zero, List.set_cons_succ]
          refine wpAnyH_take (i := 2) (oi := _) (v := ?_) rfl (by kernel_rfl) (by kernel_rfl) (by kernel_rfl) (fun _ _ _ h => h) (Or.inl ⟨by rfl, ?_⟩) hHeld ?_
          rotate_left
          · intro w hSw; obtain ⟨s0, s1, s2⟩ := hSw; go_simp; try with_reducible rfl
          simp only [Act.put, List.getElem_toArray, List.getElem_cons_succ, List.getElem_cons_zero, List.setIfInBounds_toArray, List.set_cons_zero, List.set_cons_succ]
          refine wpAnyH_take (i := 3) (oi := _) (v := ?_) rfl (by kernel_rfl) (by kernel_rfl) (by kernel_rfl) (fun _ _ _ h => h) (Or.inl ⟨by rfl, ?_⟩) hHeld ?_
          rotate_left
          · intro w hSw; obtain ⟨s0, s1, s2⟩ := hSw; go_simp; try with_reducible rfl
          simp only [Act.put, List.getElem_toArray, List.getElem_cons_succ, List.getElem_cons_zero, List.setIfInBounds_toArray, List.set_cons_zero, List.set_cons_succ]
          refine wpAnyH_take (i := 4) (oi := _) (v := ?_) rfl (by kernel_rfl) (by kernel_rfl) (by kernel_rfl) (fun _ _ _ h => h) (Or.inl ⟨by rfl, ?_⟩) hHeld ?_
          rotate_left
          · intro w hSw; obtain ⟨s0, s1, s2⟩ := hSw; go_simp; try with_reducible rfl
          simp only [Act.put, List.getElem_toArray, List.getElem_cons_succ, List.getElem_cons_zero, List.setIfInBounds_toArray, List.set_cons_zero, List.set_cons_succ]
          refine wpAnyH_take (i := 5) (oi := _) (v := ?_) rfl (by kernel_rfl) (by kernel_rfl) (by kernel_rfl) (fun _ _ _ h => h) (Or.inl ⟨by rfl, ?_⟩) hHeld ?_
          rotate_left
          · intro w hSw; obtain ⟨s0, s1, s2⟩ := hSw; go_simp; try with_reducible rfl
          simp only [Act.put, List.getElem_toArray, List.getElem_cons_succ, List.getElem_cons_zero, List.setIfInBounds_toArray, List.set_cons_zero, List.set_cons_succ]
          refine wpAnyH_take (i := 6) (oi := _) (v := ?_) rfl (by kernel_rfl) (by kernel_rfl) (by kernel_rfl) (fun _ _ _ h => h) (Or.inl ⟨by rfl, ?_⟩) hHeld ?_
          rotate_left
          · intro w hSw; obtain ⟨s0, s1, s2⟩ := hSw; go_simp; try with_reducible rfl
          simp only [Act.put, List.getElem_toArray, List.getElem_cons_succ, List.getElem_cons_zero, List.setIfInBounds_toArray, List.set_cons_zero, List.set_cons_succ]
          refine wpAnyH_take (i := 7) (oi := _) (v := ?_) rfl (by kernel_rfl) (by kernel_rfl) (by kernel_rfl) (fun _ _ _ h => h) (Or.inl ⟨by rfl, ?_⟩) hHeld ?_
          rotate_left
          · intro w hSw; obtain ⟨s0, s1, s2⟩ := hSw; go_simp; try with_reducible rfl
          simp only [Act.put, List.getElem_toArray, List.getElem_cons_succ, List.getElem_cons_zero, List.setIfInBounds_toArray, List.set_cons_zero, List.set_cons_succ]
          refine wpAnyH_take (i := 8) (oi := _) (v := ?_) rfl (by kernel_rfl) (by kernel_rfl) (by kernel_rfl) (fun _ _ _ h => h) (Or.inl ⟨by rfl, ?_⟩) hHeld ?_
          rotate_left
          · intro w hSw; obtain ⟨s0, s1, s2⟩ := hSw; go_simp; try with_reducible rfl
          simp only [Act.put, List.getElem_toArray, List.getElem_cons_succ, List.getElem_cons_zero, List.setIfInBounds_toArray, List.set_cons_zero, List.set_cons_succ]
          refine wpAnyH_take (i := 13) (oi := _) (v := ?_) rfl (by kernel_rfl) (by kernel_rfl) (by kernel_rfl) (fun _ _ _ h => h) (Or.inl ⟨by rfl, ?_⟩) hHeld ?_
          rotate_left
          · intro w hSw; obtain ⟨s0, s1, s2⟩ := hSw; go_simp; try with_reducible rfl
          simp only [Act.put, List.getElem_toArray, List.getElem_cons_succ, List.getElem_cons_zero, List.setIfInBounds_toArray, List.set_cons_zero, List.set_cons_succ]
          refine wpAnyH_ready (rs := [9]) (by kernel_rfl) (by simp) (AllReadyH.cons (o := _) rfl (fun K hK => ?_) AllReadyH.nil)
          go_simp
          (with_reducible refine (cmd _).mono ?_)
          rintro en w8 ⟨rfl, rfl⟩
          refine hK.out _ _ hHeld (fun hHeld => ?_)
          clear hK K
          try simp only [Act.put, List.getElem_toArray, List.getElem_cons_succ, List.getElem_cons_zero, List.setIfInBounds_toArray, List.set_cons_zero, List.set_cons_succ]
          have hb10 : Below wh.drew.heap.size wh.drew (wh.alloc (.cells #[.int .u64 4611686018427387913] 27)).drew := (Below.refl wh.drew.heap.size wh.drew).alloc (Nat.le_refl _) (.cells #[.int .u64 4611686018427387913] 27)
          have hX10 := HX.out.drew.trans (hb10.mono HX.out.drew.size)
          have hH10 := HH.out.drew.trans (hb10.mono HH.out.drew.size)
          have k10 : Blk (wh.alloc (.cells #[.int .u64 4611686018427387913] 27)).drew wh.drew.heap.size 27 #[.int .u64 4611686018427387913] := Blk.new wh.drew 27 #[.int .u64 4611686018427387913]
          refine wpAnyH_ready (rs := [10]) (by kernel_rfl) (by simp) (AllReadyH.cons (o := _) rfl (fun K hK => ?_) AllReadyH.nil)
          go_simp
          skip
          refine hK.out _ _ (HC5.out _ hX10).1 (fun hHeld => ?_)
          clear hK K
          try simp only [Act.put, List.getElem_toArray, List.getElem_cons_succ, List.getElem_cons_zero, List.setIfInBounds_toArray, List.set_cons_zero, List.set_cons_succ]
          generalize (wh.alloc (.cells #[.int .u64 4611686018427387913] 27)).drew = W10 at *
          obtain ⟨i1, hi0, hz0, hz1, hz2⟩ := info_parts info_id
          have hTy := (HT5.out _ hX10).ty
          have hTs := HSM.out.2.1.2.1
          refine wpAnyH_ready (rs := [11]) (by kernel_rfl) (by simp) (AllReadyH.cons (o := _) rfl (fun K hK => ?_) AllReadyH.nil)
          refine step_append_grows rfl (.tmp 122) (.tmp 124) 22 rfl 27 i1 (.int .u64 0) 1 8 Try.underlying22 hi0 hz0 hz1 hz2 rfl (by omega) t0.TA t0.Tn t0.Tn (ids t0.ty) (by rfl) (ids_none hTy) (by rw [ids_len, HLN.out.1, Nat.mul_one]) (ids_all hTy)
            ⟨wh.drew.heap.size, 0, none⟩ 1 1 [.int .u64 4611686018427387913] (by rfl) rfl (blk_cells1 k10) (by simp [Value.oneCell']) (by omega) (by simp only [maxLen]; omega) (by omega) ?_
          intro vI wI hoI hgI
          have hbI := own_grown_below (Below.refl _ _) (World.ownsRow_nil W10 W10.heap.size 27 1) hgI
          have hXI := hX10.trans (hbI.mono hX10.size)
          have hHI := hH10.trans (hbI.mono hH10.size)
          obtain ⟨IA, Ic, rfl⟩ := own_slice hoI
          have hoI : wI.ownsRow W10.heap.size 27 1 (.slice IA (t0.Tn + 1) Ic) (t0.Tn + 1) (ids (t0.ty ++ [4611686018427387913])) := by
            have h9 := hoI
            rw [show ids t0.ty ++ [.int .u64 4611686018427387913] = ids (t0.ty ++ [4611686018427387913]) from by unfold ids; rw [List.map_append]; rfl] at h9
            exact h9
          refine hK.out _ _ (HC5.out _ hXI).1 (fun hHeld => ?_)
          clear hK K
          try simp only [Act.put, List.getElem_toArray, List.getElem_cons_succ, List.getElem_cons_zero, List.setIfInBounds_toArray, List.set_cons_zero, List.set_cons_succ]
          refine wpAnyH_take (i := 12) (oi := _) (v := ?_) rfl (by kernel_rfl) (by kernel_rfl) (by kernel_rfl) (fun _ _ _ h => h) (Or.inl ⟨by rfl, ?_⟩) hHeld ?_
          rotate_left
          · intro w hSw; obtain ⟨s0, s1, s2⟩ := hSw; go_simp; try with_reducible rfl
          simp only [Act.put, List.getElem_toArray, List.getElem_cons_succ, List.getElem_cons_zero, List.setIfInBounds_toArray, List.set_cons_zero, List.set_cons_succ]
          refine wpAnyH_done (by kernel_rfl) ?_ _
          have HOI := Lib.hid hoI
          have HXI := Lib.hid hXI
          have HHI := Lib.hid hHI
          have hILen : (t0.ty ++ [4611686018427387913]).length = t0.Tn + 1 := by rw [List.length_append, HLN.out.1, List.length_singleton]
          have HIL := Lib.hid hILen
          have HO2I := Lib.hid (own_below HO2.out hHI)
          clear hoI hbI hgI hXI hHI hX10 hH10 hb10 k10 hTy y0 y1 y2 hHeld hi0 hz0 hz1 hz2 cmd hTc hILen
          generalize t0.ty ++ [4611686018427387913] = tl at *
          obtain ⟨IAv, hIAv⟩ : ∃ A, A = IA := ⟨_, rfl⟩
          rw [← hIAv]
          have HIA := Lib.hid hIAv.symm
          clear hIAv
          obtain ⟨A2v, hA2v⟩ : ∃ A, A = A2 := ⟨_, rfl⟩
          rw [← hA2v]
          have HA2 := Lib.hid hA2v.symm
          clear hA2v
          go_wp2_with fail
          obtain ⟨wo, rfl⟩ : ∃ wo, wo = wI := ⟨_, rfl⟩
          go_hide hQ
          go_loopw [127] (fun i wr => ∃ j : Nat, j ≤ t0.Tn + 1 ∧ i = .int .i64 j ∧ Below wo.heap.size wo wr) (fun i _ => t0.Tn + 1 - (intOf i).toNat)
          case atStart => exact ⟨0, Nat.zero_le _, rfl, Below.refl _ _⟩
          case round =>
            obtain ⟨j, hj, rfl, hb⟩ := hrel
            by_cases hlt2 : j < t0.Tn + 1
            · have e1 := List.getElem?_eq_getElem (l := tl) (i := j) (by rw [HIL.out]; exact hlt2)
              generalize tl[j]'(by rw [HIL.out]; exact hlt2) = id at e1
              obtain ⟨b, off, hIA, hbl, g⟩ := ids_cell (Reads.of_own HOI.out) e1
              have hcell := cell_below' hb g hbl
              have hIv := HIA.out.symm.trans hIA
              clear hIA
              subst hIv
              have i2 : (j : Int) < (t0.Tn : Int) + 1 := by omega
              have hTn6 := HSM.out.2.1.2.1
              clear e1 g hbl
              have hbI5 := HXI.out.trans (hb.mono HXI.out.size)
              have cget := tget_any t0 row id wr (HT5.out _ hbI5) HSM.out.1
              have ccol := fun (W : World) (hb2 : Below wr.heap.size wr W) => rcolumn_any t0 id W (HT5.out _ (hbI5.trans (hb2.mono hbI5.size))) HSM.out.1.1
              have hcc := fun (W : World) (hb2 : Below wr.heap.size wr W) => (HC5.out W (hbI5.trans (hb2.mono hbI5.size))).1
              obtain ⟨y0, y1, y2⟩ := hcc wr (Below.refl _ _)
              obtain ⟨kx, hkx⟩ : ∃ kx, ixD t0.ty id = kx := ⟨_, rfl⟩
              rw [hkx] at ccol
              have HKX2 := Lib.hid hkx
              unfold ValR at cget
              unfold Tab.V at cget ccol
              clear hkx
              by_cases her : er = 0
              · subst her
                have hat := HER.out
                have hbt := (atE_zero hat).1
                by_cases hk0 : kx < 0
                · obtain ⟨e1, e2⟩ := tg_none hat (id := id) (by rw [HKX2.out]; exact hk0)
                  rw [e1, e2] at cget
                  clear e1 e2 hat hbt
                  go_wp2_with (first
                    | (go_at_call 31; ((with_reducible refine cget.mono ?_); rintro en w6 ⟨v6, rfl, ho6, hb6⟩; obtain ⟨A6, c6, rfl⟩ := own_slice ho6; obtain ⟨y0, y1, y2⟩ := hcc _ hb6; clear ho6; simp only [List.length_nil]))
                    | (go_at_call 32; ((with_reducible refine (ccol _ hb6).mono ?_); rintro en w7 ⟨rfl, hb7⟩; have hb67 := hb6.trans (hb7.mono hb6.size)))
                    | fail)
                  go_roundw
                  case rel => exact ⟨j + 1, by omega, by go_num, hb.trans (hb67.mono hb.size)⟩
                  case measure => simp [intOf]; omega
                · obtain ⟨k0, x, hk1, hk2, hk3, hk4, hk5⟩ := ix_at hbt (id := id) (by rw [HKX2.out]; omega)
                  obtain rfl : kx = (k0 : Int) := HKX2.out.symm.trans hk1
                  obtain ⟨r, rfl⟩ := Int.eq_ofNat_of_zero_le (atE_zero hat).2.1
                  obtain ⟨e1, e2⟩ := tg_at hat hk3 hk4 hk2
                  rw [e1] at cget
                  rw [HVL.out, ← HP2.out, List.getElem?_map] at e2
                  generalize tgL t0 (r : Int) id = gl at *
                  obtain ⟨x2, hx2⟩ : ∃ x2, G2[k0]? = some x2 := by
                    cases hg : G2[k0]? with
                    | none => rw [hg] at e2; cases e2
                    | some x2 => exact ⟨x2, rfl⟩
                  rw [hx2] at e2
                  injection e2 with e2
                  obtain ⟨b2, off2, hAA, hbl2, g2⟩ := rws_cell (Reads.of_own HO2I.out) hx2
                  have hcl2 := cell_below' hb g2 hbl2
                  have hA2v := HA2.out.symm.trans hAA
                  clear hAA
                  subst hA2v
                  have hx2f := rwOk_fresh ((HF2.out x2 (List.mem_of_getElem? hx2)).below HHI.out)
                  have hl4 : gl.length ≤ 4 := HV4.out gl (by rw [← HP2.out, ← e2]; exact List.mem_map_of_mem (List.mem_of_getElem? hx2))
                  have hxn : x2.n ≤ 281474976710656 := by have := hx2f.len; rw [e2] at this; omega
                  have csm := fun (A6 : Option Addr) (c6 : Nat) (W : World) (hb2 : Below wr.heap.size wr W) (h6 : Reads W W.heap.size 1 A6 gl.length (ids gl)) => rsame_v A6 gl.length c6 gl x2.A x2.n x2.c x2.l W h6 (((RwOk.keep hx2f (hb.trans (hb2.mono hb.size))).more (hb.trans (hb2.mono hb.size)).size)).1 (by omega) hxn
                  rw [e2, show (gl == gl) = true from by simp] at csm
                  have i3 : (k0 : Int) < (G2.length : Int) := by have := (List.getElem?_eq_some_iff.1 hx2).1; omega
                  have i4 : ¬ ((k0 : Int) < 0) := by omega
                  have hcl3 := fun (W : World) (hb2 : Below wr.heap.size wr W) => cell_below' hb2 hcl2 (Nat.lt_of_lt_of_le hbl2 hb.size)
                  clear e1 e2 hat hbt hk1 hk2 hk3 hk4 hk5 hx2 hx2f hl4 hxn g2 hcl2 hbl2 hk0
                  go_wp2_with (first
                    | (go_at_call 31; ((with_reducible refine cget.mono ?_); rintro en w6 ⟨v6, rfl, ho6, hb6⟩; obtain ⟨A6, c6, rfl⟩ := own_slice ho6; obtain ⟨y0, y1, y2⟩ := hcc _ hb6; have HO6 := Lib.hid ho6; clear ho6))
                    | (go_at_call 32; ((with_reducible refine (ccol _ hb6).mono ?_); rintro en w7 ⟨rfl, hb7⟩; have hb67 := hb6.trans (hb7.mono hb6.size); have hc7 := hcl3 _ hb67; have cs7 := csm A6 c6 _ hb67 (Reads.of_own (own_below HO6.out hb7))))
                    | (go_at_call 25; ((with_reducible refine cs7.mono ?_); rintro en w8 ⟨rfl, hb8⟩; have hb68 := hb67.trans (hb8.mono hb67.size)))
                    | fail)
                  go_roundw
                  case rel => exact ⟨j + 1, by omega, by go_num, hb.trans (hb68.mono hb.size)⟩
                  case measure => simp [intOf]; omega
              · obtain ⟨e1, e2⟩ := tg_no (t := t0) (row := row) (id := id) (by rw [HER.out]; exact her)
                rw [e1, e2, HER.out] at cget
                have d1 : (er != 0) = true := by simpa using her
                have d2 : (er != er) = false := by simp
                clear e1 e2 her
                go_wp2_with (first
                  | (go_at_call 31; ((with_reducible refine cget.mono ?_); rintro en w6 ⟨v6, rfl, ho6, hb6⟩; obtain ⟨A6, c6, rfl⟩ := own_slice ho6; obtain ⟨y0, y1, y2⟩ := hcc _ hb6; clear ho6; simp only [List.length_nil]))
                  | (go_at_call 32; ((with_reducible refine (ccol _ hb6).mono ?_); rintro en w7 ⟨rfl, hb7⟩; have hb67 := hb6.trans (hb7.mono hb6.size)))
                  | fail)
                go_roundw
                case rel => exact ⟨j + 1, by omega, by go_num, hb.trans (hb67.mono hb.size)⟩
                case measure => simp [intOf]; omega
            · have : j = t0.Tn + 1 := by omega
              subst this
              have i2 : ¬ ((t0.Tn : Int) + 1 < (t0.Tn : Int) + 1) := by omega
              have hG1 : G1.length ≤ 65535 := by have h1 := HVN.out; rw [← HP1.out, List.length_map] at h1; exact h1
              have HSP := Lib.hid (show SpV A1 c1 G1 wb.heap.size wr from ⟨own_below HO1.out (HXI.out.trans (hb.mono HXI.out.size)), fun x hx => ((HF1.out x hx).below (HXI.out.trans (hb.mono HXI.out.size))).2⟩)
              have hbZ := HB5.out.trans ((HXI.out.trans (hb.mono HXI.out.size)).mono HB5.out.size)
              have HBZ := Lib.hid hbZ
              clear hb hbZ
              subst hQ
              go_wp2_with fail
              obtain ⟨wo2, rfl⟩ : ∃ wo2, wo2 = wr := ⟨_, rfl⟩
              go_hide hQ2
              go_loopw [177] (fun i wr => ∃ j : Nat, j ≤ G1.length ∧ i = .int .i64 j ∧ Below wb.heap.size wb wr ∧ SpV A1 c1 G1 wb.heap.size wr) (fun i _ => G1.length - (intOf i).toNat)
              case atStart => exact ⟨0, Nat.zero_le _, rfl, HBZ.out, HSP.out⟩
              case round =>
                clear HBZ HSP
                obtain ⟨j2, hj2, rfl, hb, hI⟩ := hrel
                have HBB := Lib.hid hb
                have HII := Lib.hid hI
                by_cases hlt3 : j2 < G1.length
                · have e1 := List.getElem?_eq_getElem (l := G1) (i := j2) hlt3
                  generalize G1[j2] = x at e1
                  have hxm := List.mem_of_getElem? e1
                  obtain ⟨b, off, rfl, hbl, g⟩ := rws_cell (Reads.of_own hI.own) e1
                  have hxn : x.n ≤ 4 := by
                    have h1 := (rwOk_fresh (HF1.out x hxm)).len
                    have h2 := HV4.out x.l (by rw [← HP1.out]; exact List.mem_map_of_mem hxm)
                    omega
                  obtain ⟨xA, xn, xc, xl⟩ := x
                  simp only at g hxn
                  have HXM := Lib.hid hxm
                  clear hb hI e1 hxm hbl
                  go_wp2_with fail
                  clear g
                  obtain ⟨wo3, rfl⟩ : ∃ wo3, wo3 = wr := ⟨_, rfl⟩
                  go_hide hQ3
                  go_loopw [183] (fun i wr => ∃ m : Nat, m ≤ xn ∧ i = .int .i64 m ∧ Below wb.heap.size wb wr ∧ SpV (some ⟨b, off, none⟩) c1 G1 wb.heap.size wr) (fun i _ => xn - (intOf i).toNat)
                  case atStart => exact ⟨0, Nat.zero_le _, rfl, HBB.out, HII.out⟩
                  case round =>
                    clear HBB HII
                    obtain ⟨m, hm, rfl, hb, hI⟩ := hrel
                    have HBB := Lib.hid hb
                    have HII := Lib.hid hI
                    by_cases hlt4 : m < xn
                    · obtain ⟨g, y, hxA, hg, hc, hf, hw, cur, hh⟩ := (hI.ints _ HXM.out).cell hlt4
                      simp only at hxA
                      subst hxA
                      have HH := Lib.hid hh
                      have HG := Lib.hid hg
                      clear hb hI hg hh hw
                      go_wp2_with fail
                      go_roundw
                      case rel => exact ⟨m + 1, by omega, by go_num, HBB.out.setCell (p := ⟨g, m, none⟩) HG.out _, HII.out.set HH.out (u64_wrap_word _)⟩
                      case measure => simp [intOf]; omega
                    · have : m = xn := by omega
                      subst this
                      clear hb hI
                      subst hQ3
                      go_wp2_with fail
                      go_roundw
                      case rel => exact ⟨j2 + 1, by omega, by go_num, HBB.out, HII.out⟩
                      case measure => simp [intOf]; omega
                · have : j2 = G1.length := by omega
                  subst this
                  clear hb hI
                  subst hQ2
                  go_wp2_with fail
                  go_roundw
                  case rel => exact ⟨k + 1, by omega, by go_num, HBR.out.trans (HBB.out.mono HBR.out.size)⟩
                  case measure => simp [intOf]; omega
      · have : k = rn := by omega
        subst this
        have i1 : ¬ ((k : Int) < (k : Int)) := by omega
        go_wp2_with fail
        go_meet
        case rel => exact hb
  case rest =>
  have hb2 := hcut
  clear hcut
  go_upto_region 51 with fail
  obtain ⟨⟨y0, y1, y2⟩, ⟨z0, z1, z2⟩⟩ := HCL.out _ hb2
  refine wp_region_held_drew (S := fun w' => (w'.cell? ⟨b7, 0, none⟩ = some (.slice t0.TA t0.Tn t0.Tc) ∧ w'.cell? ⟨b7, 1, none⟩ = some (.slice t0.CA t0.Cn t0.Cc) ∧ w'.cell? ⟨b7, 2, none⟩ = some (.slice t0.EA t0.En t0.Ec)) ∧ (w'.cell? ⟨w.heap.size, 0, none⟩ = some (.slice TA Tn Tc) ∧ w'.cell? ⟨w.heap.size, 1, none⟩ = some (.slice CA Cn Cc) ∧ w'.cell? ⟨w.heap.size, 2, none⟩ = some (.slice EA En Ec))) (by kernel_rfl) ⟨⟨y0, y1, y2⟩, ⟨z0, z1, z2⟩⟩ (fun hHeld => ?_)
  refine wpAnyH_take (i := 0) (oi := _) (v := ?_) rfl (by kernel_rfl) (by kernel_rfl) (by kernel_rfl) (fun _ _ _ h => h) (Or.inl ⟨by rfl, ?_⟩) hHeld ?_
  rotate_left
  · intro w hSw; obtain ⟨⟨s0, s1, s2⟩, ⟨s3, s4, s5⟩⟩ := hSw; go_simp; try with_reducible rfl
  simp only [Act.put, List.getElem_toArray, List.getElem_cons_succ, List.getElem_cons_zero, List.setIfInBounds_toArray, List.set_cons_zero, List.set_cons_succ]
  refine wpAnyH_take (i := 1) (oi := _) (v := ?_) rfl (by kernel_rfl) (by kernel_rfl) (by kernel_rfl) (fun _ _ _ h => h) (Or.inl ⟨by rfl, ?_⟩) hHeld ?_
  rotate_left
  · intro w hSw; obtain ⟨⟨s0, s1, s2⟩, ⟨s3, s4, s5⟩⟩ := hSw; go_simp; try with_reducible rfl
  simp only [Act.put, List.getElem_toArray, List.getElem_cons_succ, List.getElem_cons_zero, List.setIfInBounds_toArray, List.set_cons_zero, List.set_cons_succ]
  refine wpAnyH_ready (rs := [2]) (by kernel_rfl) (by simp) (AllReadyH.cons (o := _) rfl (fun K hK => ?_) AllReadyH.nil)
  go_simp
  (with_reducible refine (cown _ (HBL.out.trans (hb2.drew.mono HBL.out.size))).mono ?_)
  rintro en w8 ⟨tB, rfl, hpB, hfB, hbB⟩
  have hbB := hb2.drew.trans (hbB.mono hb2.drew.size)
  refine hK.out _ _ (HCL.out _ hbB) (fun hHeld => ?_)
  clear hK K
  try simp only [Act.put, List.getElem_toArray, List.getElem_cons_succ, List.getElem_cons_zero, List.setIfInBounds_toArray, List.set_cons_zero, List.set_cons_succ]
  have csB := CSB.out tB w8 hpB hfB.ok hbB
  unfold Tab.V at csB
  refine wpAnyH_ready (rs := [3]) (by kernel_rfl) (by simp) (AllReadyH.cons (o := _) rfl (fun K hK => ?_) AllReadyH.nil)
  go_simp
  (with_reducible refine csB.mono ?_)
  rintro en w9 ⟨rfl, hb9⟩
  have hb9 := hbB.trans (hb9.mono hbB.size)
  refine hK.out _ _ (HCL.out _ hb9) (fun hHeld => ?_)
  clear hK K
  try simp only [Act.put, List.getElem_toArray, List.getElem_cons_succ, List.getElem_cons_zero, List.setIfInBounds_toArray, List.set_cons_zero, List.set_cons_succ]
  refine wpAnyH_take (i := 4) (oi := _) (v := ?_) rfl (by kernel_rfl) (by kernel_rfl) (by kernel_rfl) (fun _ _ _ h => h) (Or.inl ⟨by rfl, ?_⟩) hHeld ?_
  rotate_left
  · intro w hSw; obtain ⟨⟨s0, s1, s2⟩, ⟨s3, s4, s5⟩⟩ := hSw; go_simp; try with_reducible rfl
  simp only [Act.put, List.getElem_toArray, List.getElem_cons_succ, List.getElem_cons_zero, List.setIfInBounds_toArray, List.set_cons_zero, List.set_cons_succ]
  refine wpAnyH_done (by kernel_rfl) ?_ _
  go_wp2_with fail
  rw [← HPO.out]
  exact ⟨rfl, HBL.out.trans (hb9.mono HBL.out.size)⟩
theorem tells_row (t : Tab) (QA : Option Addr) (qn qc : Nat) (qs : List Int) (hqc : qn ≤ qc) (hq8 : qc * 8 ≤ 140737488351232) (hwq : ∀ x ∈ qs, (Lit.int .u64 x).wf = true) (RA : Option Addr) (rn rc : Nat) (rs : List Int) (hrc : rn ≤ rc) (hr8 : rc * 8 ≤ 140737488351232) (hwr : ∀ x ∈ rs, (Lit.int .i64 x).wf = true)
    (w : World) (h : TabOk w w.heap.size t) (hRq : Reads w w.heap.size 1 QA qn (qs.map (Value.int .u64))) (hRr : Reads w w.heap.size 1 RA rn (rs.map (Value.int .i64))) :
    Calls Try.prog 4 #[t.V, .slice QA qn qc, .slice RA rn rc] w fun en w' => en = .returned (.bool true) ∧ Below w.heap.size w w' :=
  tells_walk t QA qn qc qs RA rn rc rs w h hRq (by omega) hRr (by omega)
end Go.Proofs.Ytbcbknajhdaneaa
