/- What is proved: the walk of the law TablePushes. -/
import Derived.Test.YtbcbknajhdaneaaTh9
import Derived.Deep.Cut
namespace Go.Proofs.Ytbcbknajhdaneaa
open Go.RowKit Go.Deep
set_option linter.unusedVariables false
set_option linter.unusedSimpArgs false
/-- what was wanted stands in its block -/
def WantR (er : Int) (pE : PT) (W6 : World) (s : Value) (wx : World) : Prop :=
  s = .int .i64 er ∧ Below W6.heap.size W6 wx ∧ ∃ t2 : Tab, Blk wx W6.heap.size 25 #[.slice t2.TA t2.Tn t2.Tc, .slice t2.CA t2.Cn t2.Cc, .slice t2.EA t2.En t2.Ec] ∧ t2.p = pE ∧ TabOk wx wx.heap.size t2
def nilT : Tab := ⟨none, 0, 0, [], none, 0, 0, [], none, 0, 0, []⟩
theorem nilT_ok (w : World) (B : Nat) : TabOk w B nilT := ⟨Reads.none_, ⟨Nat.le_refl _, Nat.zero_le _⟩, by simp [nilT], Reads.none_, ⟨Nat.le_refl _, Nat.zero_le _⟩, by simp [nilT], Reads.none_, ⟨Nat.le_refl _, Nat.zero_le _⟩, by simp [nilT]⟩
theorem wantR_nil {er : Int} {W6 wx : World} (k : Blk wx W6.heap.size 25 #[.slice none 0 0, .slice none 0 0, .slice none 0 0]) (h : Below W6.heap.size W6 wx) : WantR er noT W6 (.int .i64 er) wx :=
  ⟨rfl, h, nilT, k, rfl, nilT_ok _ _⟩
theorem eachL_mem {α : Type} {fp : Nat → Col → α} {F : List Col} {b : Nat} {q : α} (h : q ∈ eachL fp b F) : ∃ k x, F[k]? = some x ∧ q = fp (b + k) x := by
  obtain ⟨k, hk⟩ := List.getElem?_of_mem h
  rw [eachL_get] at hk
  cases hx : F[k]? with
  | none => rw [hx] at hk; cases hk
  | some x => rw [hx] at hk; injection hk with hk; exact ⟨k, x, hx, hk.symm⟩
theorem psm_noT : PSm noT := ⟨Nat.zero_le _, Nat.zero_le _, Nat.zero_le _, by simp [noT]⟩
theorem vAt_le {G : List Rw} (hG : ∀ v ∈ G, v.l.length ≤ 6) (k : Nat) : (vAt G k).l.length ≤ 6 := by
  unfold vAt
  cases h : G[k]? with
  | none => exact Nat.zero_le _
  | some v => exact hG v (List.mem_of_getElem? h)
theorem psm_push {t : Tab} {e : Int} {G : List Rw} (hp : PSm t.p) (hE : t.es.length ≤ 40) (hq : ∀ q ∈ t.p.2.1, q.2.2.length ≤ 200) (hG : ∀ v ∈ G, v.l.length ≤ 6) : PSm (tpuP t e G) := by
  unfold tpuP
  split
  rotate_left
  · exact psm_noT
  obtain ⟨p1, p2, p3, p4⟩ := hp
  unfold Tab.p at p1 p2 p3 p4 hq
  simp only [List.length_map] at p1 p2 p3 p4 hq
  refine ⟨p1, by simp only [eachL_len]; exact p2, by simp only [List.length_append, List.length_singleton]; omega, fun q hq2 => ?_⟩
  obtain ⟨k, x, hx, rfl⟩ := eachL_mem hq2
  have h1 := hq x.p (List.mem_map_of_mem (List.mem_of_getElem? hx))
  have h2 := vAt_le hG (0 + k)
  unfold Col.p at h1
  simp only at h1
  unfold pushP
  split
  · simp only [List.length_append]; omega
  · exact Nat.zero_le _
set_option maxRecDepth 100000 in
set_option maxHeartbeats 16000000 in
theorem pushes_walk (t : Tab) (e : Int) (hwe : Word e) (A : Option Addr) (n c : Nat) (F : List Rw) (w : World) (h : TabOk w w.heap.size t)
    (hR : Reads w w.heap.size 1 A n (rws F)) (hF : ∀ x ∈ F, RwOk w w.heap.size x) (hn2 : n ≤ maxLen) :
    Calls Try.prog 3 #[t.V, .int .u64 e, .slice A n c] w fun en w' => en = .returned (.bool true) ∧ Below w.heap.size w w' := by
  have hbx := (Below.refl w.heap.size w).alloc (Nat.le_refl _) (.cells #[.slice t.TA t.Tn t.Tc, .slice t.CA t.Cn t.Cc, .slice t.EA t.En t.Ec] 25)
  have kx := Blk.new w 25 #[.slice t.TA t.Tn t.Tc, .slice t.CA t.Cn t.Cc, .slice t.EA t.En t.Ec]
  have cown := fun (W : World) (hb : Below w.heap.size w W) => own_any t W ((h.keep hb).more hb.size)
  have cfew := fun (W : World) (hb : Below w.heap.size w W) => few_any A n c F W ((hR.below hb).more hb.size) (fun x hx => ((hF x hx).keep hb).more hb.size) hn2
  have hpo := psm_own t.p
  have hqo := own_q t.p
  have hqf := few_q (L := F.map Rw.l)
  have hle := few_le (F.map Rw.l)
  unfold OwnT at cown
  unfold OwnVs at cfew
  generalize ownP t.p = p0 at *
  generalize fewL (F.map Rw.l) = g0 at *
  generalize hpost : (fun en w' => en = Ending.returned (.bool true) ∧ Below w.heap.size w w') = POST
  have HPO := Lib.hid hpost
  have HP0 := Lib.hid hpo
  have HQ0 := Lib.hid hqo
  have HQF := Lib.hid hqf
  have HLE := Lib.hid hle
  have HKX := Lib.hid kx
  unfold Tab.V at cown ⊢
  obtain ⟨TA, Tn, Tc, ty, CA, Cn, Cc, Fc, EA, En, Ec, es⟩ := t
  simp only at *
  clear hpost hpo hqo hqf hle kx h hR hF
  go_enter Try.func3, Try.ntmps3
  go_upto_region 4 with (first
    | (go_at_call 13; ((with_reducible refine (wakes_any _).mono ?_); rintro en w1 ⟨rfl, hb1⟩; have hbw1 := hbx.trans (hb1.mono hbx.size); obtain ⟨⟨x0, x1, x2⟩, _⟩ := blk_cells3 (blk_below HKX.out hb1)))
    | (go_at_call 14; ((with_reducible refine (cown _ hbw1).mono ?_); rintro en w2 ⟨t0, rfl, hp0, hf0, hb2⟩; have hbw2 := hbw1.trans (hb2.mono hbw1.size); (try unfold Tab.V)))
    | (go_at_call 15; ((with_reducible refine (cfew _ hbw2).mono ?_); rintro en w3 ⟨v3, G, rfl, hoG, hpG, hfG, hb3⟩; have hbw3 := hbw2.trans (hb3.mono hbw2.size); obtain ⟨GA, Gc, rfl⟩ := own_slice hoG))
    | fail)
  obtain ⟨W4, hW4⟩ : ∃ W4, W4 = w3.alloc (.cells #[.slice t0.TA t0.Tn t0.Tc, .slice t0.CA t0.Cn t0.Cc, .slice t0.EA t0.En t0.Ec] 25) := ⟨_, rfl⟩
  rw [← hW4]
  have hb34 : Below w3.heap.size w3 W4 := by rw [hW4]; exact (Below.refl _ _).alloc (Nat.le_refl _) _
  have k4 : Blk W4 w3.heap.size 25 #[.slice t0.TA t0.Tn t0.Tc, .slice t0.CA t0.Cn t0.Cc, .slice t0.EA t0.En t0.Ec] := by rw [hW4]; exact Blk.new _ _ _
  have hbw4 : Below w.heap.size w W4 := hbw3.trans (hb34.mono hbw3.size)
  have hT0 : TabOk W4 W4.heap.size t0 := ((hf0.below hb3).below hb34).ok
  have hG4 : ∀ x ∈ G, RwOk W4 W4.heap.size x := fun x hx => (RwOk.keep (rwOk_fresh (hfG x hx)) hb34).more hb34.size
  have hRG := Reads.of_own (own_below hoG hb34)
  have hPS : PSm t0.p := by rw [hp0]; exact HP0.out.1
  have hsm := psm_sm hT0 hPS
  have hES : t0.es.length ≤ 40 := by have := HP0.out.2.1; rw [← hp0] at this; exact this
  have hGl : G.length ≤ 14 := by have h1 := congrArg List.length hpG; rw [List.length_map] at h1; have := HLE.out; omega
  have hQF : ∀ v ∈ G, v.l.length ≤ 6 := fun v hv => HQF.out v.l (by rw [← hpG]; exact List.mem_map_of_mem hv)
  have hGn : ∀ v ∈ G, v.l.length = v.n := fun v hv => (hG4 v hv).len
  have cpush := tpush_any t0 e hwe GA G.length Gc G W4 hT0 hsm.1 ⟨hsm.2.1.1, hsm.2.1.2.1, hsm.2.2⟩ hRG hG4 (by omega)
  have crt := fun (W : World) (hb : Below W4.heap.size W4 W) => rtab_any t0 W ((hT0.keep hb).more hb.size) ⟨hsm.1.1, hsm.1.2.1, hsm.1.2.2.1⟩
  have crh := fun (x : Int) (W : World) (hb : Below W4.heap.size W4 W) => rhas_any t0.EA t0.En t0.Ec t0.es x W ((hT0.es.below hb).more hb.size) hT0.esw hsm.1.2.2.1
  have cri := fun (W : World) => ridx_any e hwe W
  have crf := fun (W : World) (hb : Below W4.heap.size W4 W) => rfit_any t0 GA G.length Gc G W ((hT0.keep hb).more hb.size) hsm.2.1.1 ((hRG.below hb).more hb.size) (by omega)
  have hn0 := hT0.nl
  have hE0 := hT0.len.2.2
  have hF0 := hT0.len.2.1
  have HSAME := Lib.hid (fun (he : tpuE t0 e G = 0) => push_same hn0 hE0 hGn he)
  obtain ⟨⟨c0, c1, c2⟩, _⟩ := blk_cells3 k4
  obtain ⟨er, hEr⟩ : ∃ er, tpuE t0 e G = er := ⟨_, rfl⟩
  obtain ⟨pE, hpE⟩ : ∃ pE, tpuP t0 e G = pE := ⟨_, rfl⟩
  have HER := Lib.hid hEr
  have HPE := Lib.hid hpE
  rw [hEr, hpE] at cpush
  have HT0 := Lib.hid hT0
  have HG4 := Lib.hid hG4
  have HRG := Lib.hid hRG
  have HSM := Lib.hid hsm
  have HK4 := Lib.hid k4
  have HPG := Lib.hid hpG
  have HPP := Lib.hid hp0
  have HPS := Lib.hid hPS
  have HES := Lib.hid hES
  have HQG := Lib.hid hQF
  have HGN := Lib.hid hGn
  have HN0 := Lib.hid hn0
  have HLN := Lib.hid (And.intro hE0 hF0)
  have HXX := Lib.hid (fun (W : World) (hb : Below W4.heap.size W4 W) => And.intro (blk_cells3 (blk_below k4 hb)).1 (blk_cells3 (blk_below (blk_below (blk_below (blk_below (blk_below HKX.out hb1) hb2) hb3) hb34) hb)).1)
  have HPM := Lib.hid (show PSm pE from by rw [← hpE]; exact psm_push hPS hES (by rw [hp0]; exact HQ0.out) hQF)
  have CSB := Lib.hid (fun (tB : Tab) (W : World) (hpB : tB.p = p0) (hTB : TabOk W W.heap.size tB) (hb : Below W4.heap.size W4 W) => by
    have hpp : t0.p = tB.p := hp0.trans hpB.symm
    have h9 := rtsame_any t0 tB W ((hT0.keep hb).more hb.size) hTB hsm.1 (psm_sm hTB (by rw [← hpp]; exact hPS)).1
    rw [tabQ_p hpp] at h9
    exact h9)
  have CSE := Lib.hid (fun (A2 : Option Addr) (c2 : Nat) (G2 : List Rw) (W : World) {b2 : Nat} (hoG2 : W.ownsRow b2 44 1 (.slice A2 G2.length c2) G2.length (rws G2)) (hpG2 : G2.map Rw.l = g0) (hfG2 : ∀ x ∈ G2, RwFresh W b2 x) (hb : Below W4.heap.size W4 W) => by
    have hGG : G.map Rw.l = G2.map Rw.l := hpG.trans hpG2.symm
    have hl2 : G2.length = G.length := by have := congrArg List.length hGG; simpa using this.symm
    have h9 := veq4_any GA G.length Gc G A2 G2.length c2 G2 W ((hRG.below hb).more hb.size) (Reads.of_own hoG2) (fun x hx => ⟨((hG4 x hx).keep hb).more hb.size, by have := hQF x hx; have := hGn x hx; omega⟩)
      (fun x hx => ⟨rwOk_fresh (hfG2 x hx), by
        have h5 : x.l ∈ G.map Rw.l := by rw [hGG]; exact List.mem_map_of_mem hx
        obtain ⟨y, hy, h6⟩ := List.mem_map.1 h5
        have := hQF y hy
        have := (rwOk_fresh (hfG2 x hx)).len
        rw [← h6] at this
        omega⟩) (by omega) (by omega)
    rw [hGG, show (G2.map Rw.l == G2.map Rw.l) = true from by simp] at h9
    exact h9)
  unfold SetR TabRes at cpush
  unfold Tab.V at cpush crt crf
  clear hW4 hbw3 hb3 hf0 hfG hoG hp0 hpG hbw2 hb2 hb1 hbw1 hEr hpE hT0 hG4 hRG hsm k4 hPS hES hQF hGn hn0 hE0 hF0
  generalize w3.heap.size = b7 at *
  go_upto_region 5 with (first
    | (go_at_call 16; ((with_reducible refine cpush.mono ?_); rintro en w5 ⟨v5, rfl, ⟨t1, rfl, hp1, hf1⟩, hb5⟩; (try unfold Tab.V)))
    | fail)
  obtain ⟨W6, hW6⟩ : ∃ W6, W6 = w5.alloc (.cells #[.slice t1.TA t1.Tn t1.Tc, .slice t1.CA t1.Cn t1.Cc, .slice t1.EA t1.En t1.Ec] 25) := ⟨_, rfl⟩
  rw [← hW6]
  have hb56 : Below w5.heap.size w5 W6 := by rw [hW6]; exact (Below.refl _ _).alloc (Nat.le_refl _) _
  have hb46 : Below W4.heap.size W4 W6 := hb5.trans (hb56.mono hb5.size)
  have k6 : Blk W6 w5.heap.size 25 #[.slice t1.TA t1.Tn t1.Tc, .slice t1.CA t1.Cn t1.Cc, .slice t1.EA t1.En t1.Ec] := by rw [hW6]; exact Blk.new _ _ _
  have hF1 := hf1.below hb56
  clear hW6 hb56 hf1 hb5 cpush
  generalize w5.heap.size = b9 at *
  go_upto_region 6 with fail
  have k7 := Blk.new W6 25 #[.slice none 0 0, .slice none 0 0, .slice none 0 0]
  have hb67 := (Below.refl W6.heap.size W6).alloc (Nat.le_refl _) (.cells #[.slice none 0 0, .slice none 0 0, .slice none 0 0] 25)
  obtain ⟨W7, hW7⟩ : ∃ W7, W7 = W6.alloc (.cells #[.slice none 0 0, .slice none 0 0, .slice none 0 0] 25) := ⟨_, rfl⟩
  have hsz7 : W7.heap.size = W6.heap.size + 1 := by rw [hW7]; simp
  rw [← hW7] at k7 hb67 ⊢
  have hb47 := hb46.trans (hb67.mono hb46.size)
  have HK7 := Lib.hid (fun (W : World) (hb : Below W7.heap.size W7 W) => blk_below k7 hb)
  have HB67 := Lib.hid hb67
  have HB47 := Lib.hid hb47
  have HS7 := Lib.hid hsz7
  have HB46 := Lib.hid hb46
  have HBW4 := Lib.hid hbw4
  have HK6 := Lib.hid k6
  have HF1 := Lib.hid hF1
  have HP1 := Lib.hid hp1
  obtain ⟨⟨y0, y1, y2⟩, ⟨z0, z1, z2⟩⟩ := HXX.out W7 hb47
  clear hW7 k7 hb67 hb47 hb46 hsz7 k6 hF1 hp1 hbw4
  obtain ⟨bt, hbt⟩ : ∃ bt, tabB t0 = bt := ⟨_, rfl⟩
  have HBT := Lib.hid hbt
  rw [hbt] at crt
  clear hbt
  have cr := crt W7 HB47.out
  go_upto_if 28 with (first
    | (go_at_call 17; ((with_reducible refine cr.mono ?_); rintro en w8 ⟨rfl, hb8⟩))
    | fail)
  have hb8' := fun (w8 : World) (hb8 : Below W7.heap.size W7 w8) => HB47.out.trans (hb8.mono HB47.out.size)
  have hb48 := hb8' _ hb8
  obtain ⟨⟨y0, y1, y2⟩, ⟨z0, z1, z2⟩⟩ := HXX.out _ hb48
  have HLT := Lib.hid (show b7 < w8.heap.size by have h1 := HK4.out.lt; have h2 := hb48.size; omega)
  clear cr
  go_cut [12] from 29 (fun s wx => WantR er pE W6 s wx)
  case first =>
    cases bt
    · have hb0 := HBT.out
      obtain rfl : er = 190 := by rw [← HER.out]; unfold tpuE; rw [hb0]; rfl
      obtain rfl : pE = noT := by rw [← HPE.out]; unfold tpuP; rw [HER.out, if_neg (by decide)]
      clear hb0
      go_wp2_with fail
      go_meet
      case rel => exact wantR_nil (HK7.out _ hb8) (HB67.out.trans (hb8.mono HB67.out.size))
    · have hb0 := HBT.out
      by_cases hk : kd e = 1
      · have hix : idx e = pa e := by unfold idx; rw [if_pos hk]
        have i0 : (idx e == 0) = false := by
          rw [beq_eq_false_iff_ne]
          intro h0
          exact (idx_zero hwe).1 h0 hk
        by_cases hl : G.length = t0.F.length
        · have l0 : ((G.length : Int) != (t0.Cn : Int)) = false := by have := HLN.out.2; simp; omega
          have hE : er = if hasI t0.es (idx e) then 5 else if widE G 0 t0.F then (if t0.es.length = 1048578 then 6 else 0) else 140 := by rw [← HER.out, hix]; unfold tpuE; rw [hb0, if_pos rfl, if_pos ⟨hk, hl⟩]
          have HFB := Lib.hid (show fitB t0 G = widE G 0 t0.F from by unfold fitB; rw [hl]; simp)
          rw [HFB.out] at crf
          clear hix
          generalize idx e = ix at *
          have chh := fun (w8 : World) (hb8 : Below W7.heap.size W7 w8) (p : Later w8) => crh ix p.w ((hb8' w8 hb8).trans (p.h.mono (hb8' w8 hb8).size))
          cases hh : hasI t0.es ix
          · rw [hh] at hE
            simp only [hh] at chh
            cases hw : widE G 0 t0.F
            · rw [hw] at hE crf
              obtain rfl : er = 140 := by rw [hE]; rfl
              obtain rfl : pE = noT := by rw [← HPE.out]; unfold tpuP; rw [HER.out, if_neg (by decide)]
              clear hb0 hE hh hw hk hl
              go_upto_region 10 with (first
                | (go_at_call 18; ((with_reducible refine (cri _).mono ?_); rintro en w9 ⟨rfl, rfl⟩))
                | fail)
              have q2 := fun p : Later _ => p.cell y2 HLT.out
              have chl := chh _ hb8
              refine wp_later (by kernel_rfl) (by kernel_rfl) ?_
              repeat (go_big_quiet_step (first | (go_at_call 18; exact later_same (cri _)) | (go_at_call 19; exact later_same (chl _)) | fail))
              refine wpQuiet_nil ?_
              rintro _ ⟨p, rfl⟩
              have hb7p := hb8.trans (p.h.mono hb8.size)
              have hb4p := hb8' _ hb7p
              obtain ⟨⟨y0, y1, y2⟩, ⟨z0, z1, z2⟩⟩ := HXX.out _ hb4p
              go_wp2_with (first
                | (go_at_call 20; ((with_reducible refine (crf _ hb4p).mono ?_); rintro en wb ⟨rfl, hbb⟩; have hbb2 := hb7p.trans (hbb.mono hb7p.size)))
                | fail)
              go_meet
              case rel => exact wantR_nil (HK7.out _ hbb2) (HB67.out.trans (hbb2.mono HB67.out.size))
            · rw [hw] at hE crf
              obtain rfl : er = 0 := by
                rw [hE]
                rw [if_neg (by decide), if_pos rfl, if_neg (by have := HES.out; omega)]
              have HFT := Lib.hid (show fitB t0 G = true from by rw [HFB.out, hw])
              have CDP := Lib.hid (fun (tA : Tab) (we : World) (hpA : tA.p = p0) (hTA : TabOk we we.heap.size tA) (A2 : Option Addr) (c2 : Nat) (G2 : List Rw) {b2 : Nat} (hoG2 : we.ownsRow b2 44 1 (.slice A2 G2.length c2) G2.length (rws G2))
                  (hpG2 : G2.map Rw.l = g0) (hfG2 : ∀ x ∈ G2, RwFresh we b2 x) => (show Calls Try.prog 21 #[tA.V, .int .u64 e, .slice A2 G2.length c2] we (TabGotF tA pE we) from by
                have hpp : tA.p = t0.p := hpA.trans HPP.out.symm
                have hsA := psm_sm hTA (by rw [hpp]; exact HPS.out)
                have hGG : G2.map Rw.l = G.map Rw.l := hpG2.trans HPG.out.symm
                have hG2 : ∀ v ∈ G2, RwOk we we.heap.size v := fun v hv => rwOk_fresh (hfG2 v hv)
                obtain ⟨A', c', hv, h1, h2⟩ := own_cap hoG2
                injection hv with _ _ hc
                have h9 := rpush_any tA e hwe A2 G2.length c2 G2 we hTA ⟨hsA.2.1.1, hsA.2.2⟩ ((tabB_p hpp hTA.nl HN0.out).trans HBT.out) ((fitB_p hpp hGG (fun v hv => (hG2 v hv).len) HGN.out).trans HFT.out) (Reads.of_own hoG2) ⟨by rw [hc]; exact h1, by rw [hc]; unfold maxLen; exact h2⟩ hG2
                rw [hGG, rpuP_p hpp hTA.len.2.2 HLN.out.1, ← HSAME.out HER.out, HPE.out] at h9
                exact h9))
              clear hb0 hE hh hw hk hl
              go_upto_region 10 with (first
                | (go_at_call 18; ((with_reducible refine (cri _).mono ?_); rintro en w9 ⟨rfl, rfl⟩))
                | fail)
              have q2 := fun p : Later _ => p.cell y2 HLT.out
              have chl := chh _ hb8
              refine wp_later (by kernel_rfl) (by kernel_rfl) ?_
              repeat (go_big_quiet_step (first | (go_at_call 18; exact later_same (cri _)) | (go_at_call 19; exact later_same (chl _)) | fail))
              refine wpQuiet_nil ?_
              rintro _ ⟨p, rfl⟩
              have hb7p := hb8.trans (p.h.mono hb8.size)
              have hb4p := hb8' _ hb7p
              obtain ⟨⟨y0, y1, y2⟩, ⟨z0, z1, z2⟩⟩ := HXX.out _ hb4p
              go_upto_region 7 with (first
                | (go_at_call 20; ((with_reducible refine (crf _ hb4p).mono ?_); rintro en wb ⟨rfl, hbb⟩; have hbb2 := hb7p.trans (hbb.mono hb7p.size); have hb4b := hb8' _ hbb2; obtain ⟨⟨y0, y1, y2⟩, ⟨z0, z1, z2⟩⟩ := HXX.out _ hb4b))
                | fail)
              have hbW := HBW4.out.trans (hb4b.mono HBW4.out.size)
              have hK7 := fun (W : World) (hb : Below wb.heap.size wb W) => HK7.out W (hbb2.trans (hb.mono hbb2.size))
              have HC6 := Lib.hid (HB67.out.trans (hbb2.mono HB67.out.size))
              go_wp2_with (first
                | (go_at_call 14; ((with_reducible refine (cown _ hbW).mono ?_); rintro en wd ⟨tA, rfl, hpA, hfA, hbA⟩; have hbWd := hbW.trans (hbA.mono hbW.size); (try unfold Tab.V)))
                | (go_at_call 15; ((with_reducible refine (cfew _ hbWd).mono ?_); rintro en we ⟨ve, G2, rfl, hoG2, hpG2, hfG2, hbE⟩; obtain ⟨A2, c2, rfl⟩ := own_slice hoG2; have hfE := hfA.below hbE; have cdp := CDP.out tA we hpA hfE.ok A2 c2 G2 hoG2 hpG2 hfG2; unfold TabGotF Tab.V at cdp; have hbAE := hbA.trans (hbE.mono hbA.size)))
                | (go_at_call 21; ((with_reducible refine cdp.mono ?_); rintro en wf ⟨t2, rfl, hp2, hT2, hbF, hF2⟩; have hb9 := hbAE.trans (hbF.mono hbAE.size); have hk9 := hK7 _ hb9; have hF9 := hF2 wb.heap.size hbAE.size hfE; obtain ⟨⟨v0, v1, v2⟩, vf⟩ := blk_cells3 hk9; have vf0 := vf 0; have vf1 := vf 1; have vf2 := vf 2; (try unfold Tab.V)))
                | fail)
              have hb69 := HC6.out.trans (hb9.mono HC6.out.size)
              go_meet
              case rel => exact ⟨rfl, below_set3 hb69 (Nat.le_refl _), t2, ((hk9.set_ 0 _).set_ 1 _).set_ 2 _, hp2, (hF9.set3 hk9 _ _ _).ok⟩
          · rw [hh] at hE
            simp only [hh] at chh
            obtain rfl : er = 5 := by rw [hE]; rfl
            obtain rfl : pE = noT := by rw [← HPE.out]; unfold tpuP; rw [HER.out, if_neg (by decide)]
            clear hb0 hE hh hk hl
            go_upto_region 10 with (first
              | (go_at_call 18; ((with_reducible refine (cri _).mono ?_); rintro en w9 ⟨rfl, rfl⟩))
              | fail)
            have q2 := fun p : Later _ => p.cell y2 HLT.out
            have chl := chh _ hb8
            refine wp_later (by kernel_rfl) (by kernel_rfl) ?_
            repeat (go_big_quiet_step (first | (go_at_call 18; exact later_same (cri _)) | (go_at_call 19; exact later_same (chl _)) | fail))
            refine wpQuiet_nil ?_
            rintro _ ⟨p, rfl⟩
            have hb7p := hb8.trans (p.h.mono hb8.size)
            have hb4p := hb8' _ hb7p
            obtain ⟨⟨y0, y1, y2⟩, ⟨z0, z1, z2⟩⟩ := HXX.out _ hb4p
            go_wp2_with fail
            go_meet
            case rel => exact wantR_nil (HK7.out _ hb7p) (HB67.out.trans (hb7p.mono HB67.out.size))
        · have l0 : ((G.length : Int) != (t0.Cn : Int)) = true := by have := HLN.out.2; simp; omega
          obtain rfl : er = 2 := by rw [← HER.out]; unfold tpuE; rw [hb0, if_pos rfl, if_neg (fun h => hl h.2)]
          obtain rfl : pE = noT := by rw [← HPE.out]; unfold tpuP; rw [HER.out, if_neg (by decide)]
          clear hb0 hk hl hix
          generalize idx e = ix at *
          go_wp2_with (first
            | (go_at_call 18; ((with_reducible refine (cri _).mono ?_); rintro en w9 ⟨rfl, rfl⟩))
            | fail)
          go_meet
          case rel => exact wantR_nil (HK7.out _ hb8) (HB67.out.trans (hb8.mono HB67.out.size))
      · have i0 : (idx e == 0) = true := by rw [beq_iff_eq]; exact (idx_zero hwe).2 hk
        obtain rfl : er = 2 := by rw [← HER.out]; unfold tpuE; rw [hb0, if_pos rfl, if_neg (fun h => hk h.1)]
        obtain rfl : pE = noT := by rw [← HPE.out]; unfold tpuP; rw [HER.out, if_neg (by decide)]
        clear hb0 hk
        generalize idx e = ix at *
        go_wp2_with (first
          | (go_at_call 18; ((with_reducible refine (cri _).mono ?_); rintro en w9 ⟨rfl, rfl⟩))
          | fail)
        go_meet
        case rel => exact wantR_nil (HK7.out _ hb8) (HB67.out.trans (hb8.mono HB67.out.size))
  case rest =>
    obtain ⟨rfl, hbc, t2, kc, hp2, hT2⟩ := hcut
    have hb4c := HB46.out.trans (hbc.mono HB46.out.size)
    have hFc := HF1.out.below hbc
    have hpp : t1.p = t2.p := HP1.out.trans hp2.symm
    have hs1 := psm_sm hFc.ok (by rw [HP1.out]; exact HPM.out)
    have hs2 := psm_sm hT2 (by rw [hp2]; exact HPM.out)
    have csm := rtsame_any t1 t2 wc hFc.ok hT2 hs1.1 hs2.1
    rw [tabQ_p hpp] at csm
    have csp := fun (W : World) (hb : Below wc.heap.size wc W) => spoil_any t1 W4.heap.size W (hFc.below hb) (Nat.le_trans hb4c.size hb.size) ⟨hs1.1.1, hs1.1.2.1, hs1.1.2.2.1, hs1.1.2.2.2⟩
    have hk6 := fun (W : World) (hb : Below wc.heap.size wc W) => (blk_cells3 (blk_below (blk_below HK6.out hbc) hb)).1
    obtain ⟨r0, r1, r2⟩ := hk6 wc (Below.refl _ _)
    obtain ⟨⟨q0, q1, q2⟩, _⟩ := blk_cells3 kc
    have d0 : (er != er) = false := by simp
    have HB4C := Lib.hid hb4c
    unfold Tab.V at csm csp
    clear hbc kc hp2 hT2 hFc hpp hs1 hs2 hb4c y0 y1 y2 z0 z1 z2
    go_upto_region 17 with (first
      | (go_at_call 22; ((with_reducible refine csm.mono ?_); rintro en wg ⟨rfl, hbg⟩; obtain ⟨r0, r1, r2⟩ := hk6 wg hbg; have csp2 := csp _ hbg))
      | (go_at_call 23; ((with_reducible refine csp2.mono ?_); rintro en wh ⟨rfl, hbh⟩))
      | fail)
    have hb4g := HB4C.out.trans (hbg.mono HB4C.out.size)
    have hb4 : Below W4.heap.size W4 wh := hb4g.trans hbh
    obtain ⟨⟨y0, y1, y2⟩, ⟨z0, z1, z2⟩⟩ := HXX.out _ hb4
    have HH := Lib.hid hb4
    clear r0 r1 r2 q0 q1 q2 hk6 csm csp csp2 hb4g hbh hbg hb4
    refine wp_region_held_drew (S := fun w' => (w'.cell? ⟨b7, 0, none⟩ = some (.slice t0.TA t0.Tn t0.Tc) ∧ w'.cell? ⟨b7, 1, none⟩ = some (.slice t0.CA t0.Cn t0.Cc) ∧ w'.cell? ⟨b7, 2, none⟩ = some (.slice t0.EA t0.En t0.Ec)) ∧ (w'.cell? ⟨w.heap.size, 0, none⟩ = some (.slice TA Tn Tc) ∧ w'.cell? ⟨w.heap.size, 1, none⟩ = some (.slice CA Cn Cc) ∧ w'.cell? ⟨w.heap.size, 2, none⟩ = some (.slice EA En Ec))) (by kernel_rfl) ⟨⟨y0, y1, y2⟩, ⟨z0, z1, z2⟩⟩ (fun hHeld => ?_)
    refine wpAnyH_take (i := 0) (oi := _) (v := ?_) rfl (by kernel_rfl) (by kernel_rfl) (by kernel_rfl) (fun _ _ _ h => h) (Or.inl ⟨by rfl, ?_⟩) hHeld ?_
    rotate_left
    · intro w hSw; obtain ⟨⟨s0, s1, s2⟩, ⟨s3, s4, s5⟩⟩ := hSw; go_simp; try with_reducible rfl
    simp only [Act.put, List.getElem_toArray, List.getElem_cons_succ, List.getElem_cons_zero, List.setIfInBounds_toArray, List.set_cons_zero, List.set_cons_succ]
    refine wpAnyH_take (i := 1) (oi := _) (v := ?_) rfl (by kernel_rfl) (by kernel_rfl) (by kernel_rfl) (fun _ _ _ h => h) (Or.inl ⟨by rfl, ?_⟩) hHeld ?_
    rotate_left
    · intro w hSw; obtain ⟨⟨s0, s1, s2⟩, ⟨s3, s4, s5⟩⟩ := hSw; go_simp; try with_reducible rfl
    simp only [Act.put, List.getElem_toArray, List.getElem_cons_succ, List.getElem_cons_zero, List.setIfInBounds_toArray, List.set_cons_zero, List.set_cons_succ]
    refine wpAnyH_ready (rs := [2]) (by kernel_rfl) (by simp) (AllReadyH.cons (o := _) rfl (fun K hK => ?_) AllReadyH.nil)
    go_simp
    refine (cown _ (HBW4.out.trans (HH.out.drew.mono HBW4.out.size))).mono ?_
    rintro en w8 ⟨tB, rfl, hpB, hfB, hbB⟩
    have hb4B := HH.out.drew.trans (hbB.mono HH.out.drew.size)
    refine hK.out _ _ (HXX.out _ hb4B) (fun hHeld => ?_)
    clear hK K
    try simp only [Act.put, List.getElem_toArray, List.getElem_cons_succ, List.getElem_cons_zero, List.setIfInBounds_toArray, List.set_cons_zero, List.set_cons_succ]
    have csB := CSB.out tB w8 hpB hfB.ok hb4B
    unfold Tab.V at csB
    refine wpAnyH_ready (rs := [3]) (by kernel_rfl) (by simp) (AllReadyH.cons (o := _) rfl (fun K hK => ?_) AllReadyH.nil)
    go_simp
    (with_reducible refine csB.mono ?_)
    rintro en w9 ⟨rfl, hb9⟩
    have hb49 := hb4B.trans (hb9.mono hb4B.size)
    refine hK.out _ _ (HXX.out _ hb49) (fun hHeld => ?_)
    clear hK K
    try simp only [Act.put, List.getElem_toArray, List.getElem_cons_succ, List.getElem_cons_zero, List.setIfInBounds_toArray, List.set_cons_zero, List.set_cons_succ]
    refine wpAnyH_take (i := 4) (oi := _) (v := ?_) rfl (by kernel_rfl) (by kernel_rfl) (by kernel_rfl) (fun _ _ _ h => h) (Or.inl ⟨by rfl, ?_⟩) hHeld ?_
    rotate_left
    · intro w hSw; obtain ⟨⟨s0, s1, s2⟩, ⟨s3, s4, s5⟩⟩ := hSw; go_simp; try with_reducible rfl
    simp only [Act.put, List.getElem_toArray, List.getElem_cons_succ, List.getElem_cons_zero, List.setIfInBounds_toArray, List.set_cons_zero, List.set_cons_succ]
    refine wpAnyH_take (i := 5) (oi := _) (v := ?_) rfl (by kernel_rfl) (by kernel_rfl) (by kernel_rfl) (fun _ _ _ h => h) (Or.inl ⟨by rfl, ?_⟩) hHeld ?_
    rotate_left
    · intro w hSw; obtain ⟨⟨s0, s1, s2⟩, ⟨s3, s4, s5⟩⟩ := hSw; go_simp; try with_reducible rfl
    simp only [Act.put, List.getElem_toArray, List.getElem_cons_succ, List.getElem_cons_zero, List.setIfInBounds_toArray, List.set_cons_zero, List.set_cons_succ]
    refine wpAnyH_take (i := 6) (oi := _) (v := ?_) rfl (by kernel_rfl) (by kernel_rfl) (by kernel_rfl) (fun _ _ _ h => h) (Or.inl ⟨by rfl, ?_⟩) hHeld ?_
    rotate_left
    · intro w hSw; obtain ⟨⟨s0, s1, s2⟩, ⟨s3, s4, s5⟩⟩ := hSw; go_simp; try with_reducible rfl
    simp only [Act.put, List.getElem_toArray, List.getElem_cons_succ, List.getElem_cons_zero, List.setIfInBounds_toArray, List.set_cons_zero, List.set_cons_succ]
    refine wpAnyH_ready (rs := [7]) (by kernel_rfl) (by simp) (AllReadyH.cons (o := _) rfl (fun K hK => ?_) AllReadyH.nil)
    go_simp
    (with_reducible refine (cfew _ (HBW4.out.trans (hb49.mono HBW4.out.size))).mono ?_)
    rintro en wA ⟨vA, G2, rfl, hoG2, hpG2, hfG2, hbA⟩
    obtain ⟨A2, c2, rfl⟩ := own_slice hoG2
    have hb4A := hb49.trans (hbA.mono hb49.size)
    refine hK.out _ _ (HXX.out _ hb4A) (fun hHeld => ?_)
    clear hK K
    try simp only [Act.put, List.getElem_toArray, List.getElem_cons_succ, List.getElem_cons_zero, List.setIfInBounds_toArray, List.set_cons_zero, List.set_cons_succ]
    have csE := CSE.out A2 c2 G2 wA hoG2 hpG2 hfG2 hb4A
    refine wpAnyH_ready (rs := [8]) (by kernel_rfl) (by simp) (AllReadyH.cons (o := _) rfl (fun K hK => ?_) AllReadyH.nil)
    go_simp
    (with_reducible refine csE.mono ?_)
    rintro en wB ⟨rfl, hbB2⟩
    have hb4B2 := hb4A.trans (hbB2.mono hb4A.size)
    refine hK.out _ _ (HXX.out _ hb4B2) (fun hHeld => ?_)
    clear hK K
    try simp only [Act.put, List.getElem_toArray, List.getElem_cons_succ, List.getElem_cons_zero, List.setIfInBounds_toArray, List.set_cons_zero, List.set_cons_succ]
    refine wpAnyH_take (i := 9) (oi := _) (v := ?_) rfl (by kernel_rfl) (by kernel_rfl) (by kernel_rfl) (fun _ _ _ h => h) (Or.inl ⟨by rfl, ?_⟩) hHeld ?_
    rotate_left
    · intro w hSw; obtain ⟨⟨s0, s1, s2⟩, ⟨s3, s4, s5⟩⟩ := hSw; go_simp; try with_reducible rfl
    simp only [Act.put, List.getElem_toArray, List.getElem_cons_succ, List.getElem_cons_zero, List.setIfInBounds_toArray, List.set_cons_zero, List.set_cons_succ]
    refine wpAnyH_take (i := 10) (oi := _) (v := ?_) rfl (by kernel_rfl) (by kernel_rfl) (by kernel_rfl) (fun _ _ _ h => h) (Or.inl ⟨by rfl, ?_⟩) hHeld ?_
    rotate_left
    · intro w hSw; obtain ⟨⟨s0, s1, s2⟩, ⟨s3, s4, s5⟩⟩ := hSw; go_simp; try with_reducible rfl
    simp only [Act.put, List.getElem_toArray, List.getElem_cons_succ, List.getElem_cons_zero, List.setIfInBounds_toArray, List.set_cons_zero, List.set_cons_succ]
    refine wpAnyH_done (by kernel_rfl) ?_ _
    go_wp2_with fail
    rw [← HPO.out]
    exact ⟨rfl, HBW4.out.trans (hb4B2.mono HBW4.out.size)⟩
theorem pushes_row (t : Tab) (e : Int) (hw : (Lit.int .u64 e).wf = true) (A : Option Addr) (n c : Nat) (F : List Rw) (w : World) (h : TabOk w w.heap.size t)
    (hR : Reads w w.heap.size 1 A n (rws F)) (hF : ∀ x ∈ F, RwOk w w.heap.size x) (hn2 : n ≤ maxLen) :
    Calls Try.prog 3 #[t.V, .int .u64 e, .slice A n c] w fun en w' => en = .returned (.bool true) ∧ Below w.heap.size w w' :=
  pushes_walk t e (wf_word hw) A n c F w h hR hF hn2
end Go.Proofs.Ytbcbknajhdaneaa
