/- What is proved: the contract of table's New. -/
import Derived.Test.YtbcbknajhdaneaaTc1
namespace Go.Proofs.Ytbcbknajhdaneaa
open Go.RowKit
set_option linter.unusedVariables false
set_option linter.unusedSimpArgs false
def tnE (l ws : List Int) : Int := if tyR l then (if ws.length = l.length then (if ws.all okW then 0 else 2) else 2) else 130
def newC (n : Int) : PC := (n, 0, [])
def tnP (l ws : List Int) : PT := if tnE l ws = 0 then (l, ws.map newC, []) else noT
theorem ins_cell {w : World} {B n : Nat} {A : Option Addr} {l : List Int} (h : Reads w B 1 A n (ins l)) {k : Nat} {x : Int} (hk : l[k]? = some x) :
    ∃ b off, A = some ⟨b, off, none⟩ ∧ b < B ∧ w.cell? ⟨b, off + k, none⟩ = some (.int .i64 x) := by
  have hn : k < n := by
    have h1 := h.1
    rw [ins_len] at h1
    have := (List.getElem?_eq_some_iff.1 hk).1
    omega
  obtain ⟨ad, u, rfl, hb, hu, hc⟩ := h.at_ hn
  obtain ⟨ad', u', e, _, _, hc'⟩ := h.at_ (show 0 < n by omega)
  injection e with e
  subst e
  unfold ins at hu
  rw [List.getElem?_map, hk] at hu
  cases hu
  obtain ⟨b, off, spot⟩ := ad
  have hspot : spot = none := by simpa [Addr.add] using World.cell?_spot hc'
  subst hspot
  exact ⟨b, off, rfl, hb, by rw [add_none] at hc; exact hc⟩
theorem setR_noT (er : Int) {p : PT} {w w' : World} {e : Ending} (hp : p = noT) (he : e = .returned (.tuple #[.agg #[.slice none 0 0, .slice none 0 0, .slice none 0 0], .int .i64 er])) (h : Below w.heap.size w w') : SetR p er w e w' := by
  subst hp he; exact setR_nil er h
theorem own_other {w w' : World} {b1 b2 n1 n2 s1 s2 : Nat} {e1 e2 : TypeId} {v1 v2 : Value} {x1 x2 : List Value} (h : w.ownsRow b1 e1 s1 v1 n1 x1) (ho : w.ownsRow b2 e2 s2 v2 n2 x2) (hne : e1 ≠ e2) (hg : w.grownBy w' v2.ownBlock) : w'.ownsRow b1 e1 s1 v1 n1 x1 := by
  rcases ho.2 with ⟨rfl, _⟩ | ⟨g, cap, cur, rfl, _, h5, _⟩
  · have hg : w.grownBy w' none := hg
    rcases h.2 with ⟨rfl, hn⟩ | ⟨g2, cap2, cur2, rfl, h7, h8, h9⟩
    · exact ⟨h.1, .inl ⟨rfl, hn⟩⟩
    · exact ⟨h.1, .inr ⟨g2, cap2, cur2, rfl, h7, (hg.block g2 (Array.getElem?_eq_some_iff.1 h8).1 (by simp)).trans h8, h9⟩⟩
  · exact h.kept hg (.inr (own_blk_ne h (show Blk w g e2 cur from h5) hne))
set_option maxRecDepth 100000 in
set_option maxHeartbeats 8000000 in
theorem tnew_any (A : Option Addr) (n c : Nat) (l : List Int) (WA : Option Addr) (wn wc : Nat) (ws : List Int) (w : World) (hR : Reads w w.heap.size 1 A n (ids l)) (hW : ∀ x ∈ l, Word x) (hn : n ≤ 65536) (hRw : Reads w w.heap.size 1 WA wn (ins ws)) (hwn : wn ≤ 65536) :
    Calls Try.prog 43 #[.slice A n c, .slice WA wn wc] w (SetR (tnP l ws) (tnE l ws) w) := by
  have hl : l.length = n := by have := hR.1; rw [ids_len] at this; omega
  have hwl : ws.length = wn := by have := hRw.1; rw [ins_len] at this; omega
  have hB := (Below.refl w.heap.size w).alloc (Nat.le_refl _) (.cells #[.slice none 0 0, .slice none 0 0, .slice none 0 0] 25)
  have k0 := Blk.new w 25 #[.slice none 0 0, .slice none 0 0, .slice none 0 0]
  have ct := tcheck_any A n c l (w.alloc (.cells #[.slice none 0 0, .slice none 0 0, .slice none 0 0] 25)) ((hR.below hB).more hB.size) hW (by omega)
  obtain ⟨W0, hW0⟩ : ∃ W0, W0 = w.alloc (.cells #[.slice none 0 0, .slice none 0 0, .slice none 0 0] 25) := ⟨_, rfl⟩
  have hsz : W0.heap.size = w.heap.size + 1 := by rw [hW0]; simp
  rw [← hW0] at hB k0 ct
  have cu := fun (w2 : World) (hb : Below W0.heap.size W0 w2) => clone_d A n c l w2 ((hR.below (hB.trans (hb.mono hB.size))).more (Nat.le_trans hB.size hb.size)) hn
  obtain ⟨i0, hi0, hz0, hz1, hz2⟩ := info_parts info_col
  have HW := Lib.hid hW0
  have HS := Lib.hid hsz
  have HK := Lib.hid k0
  clear hW0 hsz k0
  unfold tyE at ct
  cases h1 : tyR l
  · rw [h1] at ct
    have hE : tnE l ws = 130 := by unfold tnE; rw [h1]; rfl
    have hP : tnP l ws = noT := by unfold tnP; rw [hE, if_neg (by decide)]
    rw [hE, hP]
    clear cu hE hP h1 hR hRw
    go_enter Try.func43, Try.ntmps43
    go_upto_region 1 with fail
    rw [← HW.out]
    go_wp2_with (first
      | (go_at_call 87; ((with_reducible refine ct.mono ?_); rintro en w2 ⟨rfl, hb2⟩; obtain ⟨⟨q0, q1, q2⟩, qf⟩ := blk_cells3 (blk_below HK.out hb2); have qf0 := qf 0; have qf1 := qf 1; have qf2 := qf 2; clear qf))
      | fail)
    refine bodyPost_ret (v := .tuple #[.agg #[.slice none 0 0, .slice none 0 0, .slice none 0 0], .int .i64 130]) (by simp [results, Try.results43, go_sem, *]) rfl ?_
    exact setR_nil 130 (below_set3 (hB.trans (hb2.mono hB.size)) (by omega))
  · rw [h1] at ct
    by_cases h2 : wn = n
    · subst h2
      have t2 : ((wn : Int) != (wn : Int)) = false := by simp
      have hE : tnE l ws = if ws.all okW then 0 else 2 := by unfold tnE; rw [h1, if_pos rfl, if_pos (by omega)]
      have hno : ws.all okW = false → SetR (tnP l ws) (tnE l ws) w = SetR noT 2 w := fun hh => by unfold tnP; rw [hE, hh]; rfl
      have hyes : ws.all okW = true → SetR (tnP l ws) (tnE l ws) w = SetR (l, ws.map newC, []) 0 w := fun hh => by unfold tnP; rw [hE, hh]; rfl
      have HNO := Lib.hid hno
      have HYES := Lib.hid hyes
      have HLW := Lib.hid hW
      have HL := Lib.hid hl
      clear hno hyes hE hR h1 hl
      generalize SetR (tnP l ws) (tnE l ws) w = POST at *
      unfold OwnD at cu
      go_enter Try.func43, Try.ntmps43
      go_upto_region 1 with fail
      rw [← HW.out]
      go_wp2_with (first
        | (go_at_call 87; ((with_reducible refine ct.mono ?_); rintro en w2 ⟨rfl, hb2⟩))
        | (go_at_call 62; ((with_reducible refine (cu _ hb2).mono ?_); rintro en w3 ⟨vt, rfl, hot, hb3⟩; obtain ⟨At, ctt, rfl⟩ := own_slice hot))
        | fail)
      have hb33 := hb2.trans (hb3.mono hb2.size)
      have hlt3 : w.heap.size < w3.heap.size := by have := hb33.size; have := HS.out; omega
      have kt := Blk.new w3 25 #[.slice At l.length ctt, .slice none 0 0, .slice none 0 0]
      have kr := (blk_below HK.out hb33).alloc (.cells #[.slice At l.length ctt, .slice none 0 0, .slice none 0 0] 25)
      have ho4 := hot.alloc (.cells #[.slice At l.length ctt, .slice none 0 0, .slice none 0 0] 25)
      have ho4 := base_le ho4 (show w.heap.size ≤ w2.heap.size from Nat.le_trans hB.size hb2.size)
      have hb4 := (hB.trans (hb33.mono hB.size)).alloc (Nat.le_trans hB.size hb33.size) (.cells #[.slice At l.length ctt, .slice none 0 0, .slice none 0 0] 25)
      clear ct cu hb2 hb3 hb33 hot
      generalize hbt : w3.heap.size = bt at *
      have hbt2 : bt < (w3.alloc (.cells #[.slice At l.length ctt, .slice none 0 0, .slice none 0 0] 25)).heap.size := kt.lt
      generalize w3.alloc (.cells #[.slice At l.length ctt, .slice none 0 0, .slice none 0 0] 25) = w4 at *
      clear hbt
      go_loopw [29] (fun i wr => ∃ k : Nat, k ≤ wn ∧ i = .int .i64 k ∧ (ws.take k).all okW = true ∧ Below w.heap.size w wr ∧ Blk wr w.heap.size 25 #[.slice none 0 0, .slice none 0 0, .slice none 0 0] ∧
          wr.ownsRow w.heap.size 27 1 (.slice At l.length ctt) l.length (ids l) ∧
          ∃ CA cc F', Blk wr bt 25 #[.slice At l.length ctt, .slice CA k cc, .slice none 0 0] ∧ wr.ownsRow w.heap.size 68 3 (.slice CA k cc) k (cols F') ∧ F'.map Col.p = (ws.take k).map newC ∧ ∀ x ∈ F', ∃ W, x = ⟨W, 0, none, 0, 0, []⟩)
        (fun i _ => wn - (intOf i).toNat)
      case atStart => exact ⟨0, Nat.zero_le _, rfl, rfl, hb4, kr, ho4, none, 0, [], kt, World.ownsRow_nil _ _ _ _, rfl, by simp⟩
      case round =>
        obtain ⟨k, hk, rfl, hall, hb, kr', ho, CA, cc, F', kt', hc, hp, hnil⟩ := hrel
        clear hb4 kr kt ho4
        have hbtw : bt < wr.heap.size := kt'.lt
        by_cases hlt : k < wn
        · have e1 := List.getElem?_eq_getElem (l := ws) (i := k) (by omega)
          generalize ws[k]'(by omega) = x at e1
          obtain ⟨b, off, rfl, hbl, g⟩ := ins_cell hRw e1
          have g1 := cell_below' hb g hbl
          have cn := fun w => cnew_any x w
          unfold colV newE at cn
          have HT := Lib.hid (take_snoc e1)
          have hno2 : okW x = false → ws.all okW = false := fun hh => List.all_eq_false.2 ⟨x, List.mem_of_getElem? e1, by rw [hh]; decide⟩
          have HNO2 := Lib.hid hno2
          have HALL := Lib.hid hall
          have HKR := Lib.hid kr'
          have HKT := Lib.hid kt'
          have HO := Lib.hid ho
          have HC := Lib.hid hc
          have HP := Lib.hid hp
          have HN := Lib.hid hnil
          clear e1 g hall kr' kt' ho hc hp hnil hno2 hRw
          cases hx : okW x
          · rw [hx] at cn
            have HPO := Lib.hid (HNO.out (HNO2.out hx))
            clear HNO2 HYES hx
            go_wp2_with (first
              | (go_at_call 94; ((with_reducible refine (cn _).mono ?_); rintro en w5 ⟨rfl, hb5⟩; have kr5 := (blk_below HKR.out hb5).alloc (.cells #[.int .i64 0, .int .i64 0, .slice none 0 0] 68); obtain ⟨⟨q0, q1, q2⟩, qf⟩ := blk_cells3 kr5; have qf0 := qf 0; have qf1 := qf 1; have qf2 := qf 2; clear qf kr5))
              | fail)
            refine bodyPost_ret (v := .tuple #[.agg #[.slice none 0 0, .slice none 0 0, .slice none 0 0], .int .i64 2]) (by simp [results, Try.results43, go_sem, *]) rfl ?_
            show POST _ _
            rw [HPO.out]
            have hb6 := hb.trans (hb5.mono hb.size)
            exact setR_nil 2 (below_set3 (hb6.alloc hb6.size _) (by omega))
          · rw [hx] at cn
            have HX := Lib.hid hx
            clear HNO2 hx
            go_wp2_with (first
              | (go_at_call 94; ((with_reducible refine (cn _).mono ?_); rintro en w5 ⟨rfl, hb5⟩; have kt5 := (blk_below HKT.out hb5).alloc (.cells #[.int .i64 x, .int .i64 0, .slice none 0 0] 68); have hz5 := hb5.size; obtain ⟨⟨q0, q1, q2⟩, qf⟩ := blk_cells3 kt5; have qf1 := qf 1; have KT5 := Lib.hid kt5; clear qf kt5))
              | (at_builtin
                 refine wpList_append_any _ rfl (.tmp 42) (.tmp 44) _ rfl w.heap.size 68 i0 _ 3 40 Try.underlying23 hi0 hz0 hz1 hz2 rfl (by omega) _ k (cols F') rfl
                   ?_ (w5.heap.size + 2) (some ⟨w5.heap.size + 1, 0, none⟩) 1 1 [.int .i64 x, .int .i64 0, .slice none 0 0] rfl ?_ (by simp [Value.oneCell']) (by simp only [maxLen]; omega) (by omega) ?_ ?_
                 · exact ((own_below HC.out hb5).alloc _).alloc _
                 · exact lit_reads2 _ _ _ _ rfl
                 · have := hb.size; simp; omega
                 intro v1 w6 hown1 hg1 hat1
                 have hc6 := ((own_below HC.out hb5).alloc (.cells #[.int .i64 x, .int .i64 0, .slice none 0 0] 68)).alloc (.cells #[.int .i64 x, .int .i64 0, .slice none 0 0] 68)
                 have kt6 := (KT5.out.alloc (.cells #[.int .i64 x, .int .i64 0, .slice none 0 0] 68)).grown hg1 (fun e => own_blk_ne hc6 (KT5.out.alloc _) (by decide) e.symm)
                 obtain ⟨⟨p0, p1, p2⟩, pf⟩ := blk_cells3 kt6
                 have pf1 := pf 1
                 have KT6 := Lib.hid kt6
                 obtain ⟨A6, c6, rfl⟩ := own_slice hown1
                 clear pf kt6)
              | fail)
            have hb6 := hb.trans (hb5.mono hb.size)
            have hb7 := (hb6.alloc hb6.size (.cells #[.int .i64 x, .int .i64 0, .slice none 0 0] 68)).alloc (by simp; omega) (.cells #[.int .i64 x, .int .i64 0, .slice none 0 0] 68)
            have hb8 := own_grown_below hb7 hc6 hg1
            have hidb := ((own_below HO.out hb5).alloc (.cells #[.int .i64 x, .int .i64 0, .slice none 0 0] 68)).alloc (.cells #[.int .i64 x, .int .i64 0, .slice none 0 0] 68)
            go_roundw
            case rel =>
              refine ⟨k + 1, by omega, by go_num, ?_, hb8.setCell (p := ⟨bt, 1, none⟩) (by show w.heap.size ≤ bt; omega) _, ?_, ?_, A6, c6, F' ++ [⟨x, 0, none, 0, 0, []⟩], KT6.out.set_ 1 _, ?_, ?_, fun y hy => ?_⟩
              · rw [HT.out, List.all_append, HALL.out]; simp [HX.out]
              · exact Blk.far (Blk.grown (((blk_below HKR.out hb5).alloc _).alloc _) hg1 (fun e => own_blk_ne hc6 (((blk_below HKR.out hb5).alloc _).alloc _) (by decide) e.symm)) (by simp; omega) _
              · have h9 : w6.ownsRow w.heap.size 27 1 (.slice At l.length ctt) l.length (ids l) := own_other hidb hc6 (by decide) hg1
                exact h9.kept (grown_cell _ _ _ _) (.inr (own_blk_ne h9 KT6.out (by decide)))
              · rw [cols_app]
                exact hown1.kept (grown_cell _ _ _ _) (.inr (own_blk_ne hown1 KT6.out (by decide)))
              · rw [List.map_append, HP.out, HT.out, List.map_append]; rfl
              · rcases List.mem_append.1 hy with hy | hy
                · exact HN.out y hy
                · rw [List.mem_singleton] at hy; exact ⟨x, hy⟩
            case measure => simp [intOf]; omega
        · have : k = wn := by omega
          subst this
          rw [List.take_of_length_le (by omega)] at hall hp
          have HPO := Lib.hid (HYES.out hall)
          have HO := Lib.hid ho
          have HC := Lib.hid hc
          have HP := Lib.hid hp
          have HN := Lib.hid hnil
          have HKR := Lib.hid kr'
          obtain ⟨⟨q0, q1, q2⟩, _⟩ := blk_cells3 kt'
          obtain ⟨⟨p0, p1, p2⟩, pf⟩ := blk_cells3 kr'
          have pf0 := pf 0
          have pf1 := pf 1
          have pf2 := pf 2
          have hFl : F'.length = k := by
            have h1 := congrArg List.length hp
            rw [List.length_map, List.length_map] at h1
            omega
          have HFL := Lib.hid hFl
          clear hall kr' kt' ho hc hp hnil pf hRw HNO HYES hFl
          go_wp2_with fail
          refine bodyPost_ret (v := .tuple #[.agg #[.slice At l.length ctt, .slice CA k cc, .slice none 0 0], .int .i64 0]) (by simp [results, Try.results43, go_sem, *]) rfl ?_
          show POST _ _
          rw [HPO.out]
          have hfr : TabFresh wr w.heap.size ⟨At, l.length, ctt, l, CA, k, cc, F', none, 0, 0, []⟩ :=
            ⟨idFresh_own HO.out HLW.out, HC.out, fun x hx => by obtain ⟨W, rfl⟩ := HN.out x hx; exact colFresh_nil _ _ _ _, idFresh_nil _ _⟩
          exact ⟨_, rfl, ⟨⟨At, l.length, ctt, l, CA, k, cc, F', none, 0, 0, []⟩, rfl, by unfold Tab.p; simp only; rw [HP.out], hfr.set3 HKR.out _ _ _⟩, below_set3 hb (Nat.le_refl _)⟩
    · have t2 : ((wn : Int) != (n : Int)) = true := by simp; omega
      have hE : tnE l ws = 2 := by unfold tnE; rw [h1, if_pos rfl, if_neg (by omega)]
      have hP : tnP l ws = noT := by unfold tnP; rw [hE, if_neg (by decide)]
      rw [hE, hP]
      clear cu hE hP h1 h2 hR hRw
      go_enter Try.func43, Try.ntmps43
      go_upto_region 1 with fail
      rw [← HW.out]
      go_wp2_with (first
        | (go_at_call 87; ((with_reducible refine ct.mono ?_); rintro en w2 ⟨rfl, hb2⟩; obtain ⟨⟨q0, q1, q2⟩, qf⟩ := blk_cells3 (blk_below HK.out hb2); have qf0 := qf 0; have qf1 := qf 1; have qf2 := qf 2; clear qf))
        | fail)
      refine bodyPost_ret (v := .tuple #[.agg #[.slice none 0 0, .slice none 0 0, .slice none 0 0], .int .i64 2]) (by simp [results, Try.results43, go_sem, *]) rfl ?_
      exact setR_nil 2 (below_set3 (hB.trans (hb2.mono hB.size)) (by omega))
end Go.Proofs.Ytbcbknajhdaneaa
