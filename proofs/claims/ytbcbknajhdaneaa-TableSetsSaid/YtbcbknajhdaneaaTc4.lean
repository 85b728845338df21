/- What is proved: the contract of table's Push. -/
import Derived.Test.YtbcbknajhdaneaaTc3
namespace Go.Proofs.Ytbcbknajhdaneaa
open Go.RowKit
set_option linter.unusedVariables false
set_option linter.unusedSimpArgs false
attribute [local go_sem] Oper.semAt_some
theorem blk_cell1 {w : World} {g : Nat} {t : TypeId} {a : Value} (h : Blk w g t #[a]) : w.cell? ⟨g, 0, none⟩ = some a ∧ w.frozen? ⟨g, 0, none⟩ = false := ⟨h.cell 0, h.frozen 0⟩
theorem ownFrom_blk {β : Type} {B g : Nat} (hg : g < B) (t : TypeId) (cs : Array Value) : OwnFrom B (fun (_ : β) W => Blk W g t cs) := fun s W W' row hs hgr hr =>
  hs.grown hgr (fun e => by have := (hr g e.symm).1; omega)
theorem farc {w : World} {g b i j : Nat} {u : Value} (a0 : Value) (hne : b ≠ g) (h : w.cell? ⟨b, i, none⟩ = some u) : (w.setCell ⟨g, j, none⟩ a0).cell? ⟨b, i, none⟩ = some u :=
  (World.cell?_setCell_other w _ _ a0 (fun ee => hne (by injection ee with e1 _ _; exact e1.symm))).trans h
theorem blk_put {w : World} {g D : Nat} {t : TypeId} {cs : Array Value} {d : Option (List Deferred)} (hD : w.heap[D]? = some (.deferred d)) (o : Obj) (h : Blk w g t cs) : Blk (w.putObj D o) g t cs := by
  refine h.grown (grownBy_putObj' w D o) (fun e => ?_)
  injection e with e
  subst e
  unfold Blk at h
  rw [h] at hD
  cases hD
set_option maxRecDepth 100000 in
set_option maxHeartbeats 16000000 in
theorem tpush_any (t : Tab) (e : Int) (hwe : Word e) (VA : Option Addr) (vn vc : Nat) (G : List Rw) (w : World) (h : TabOk w w.heap.size t) (hs : TabSm t) (hn : t.Cn ≤ 65536 ∧ t.Tn ≤ 65536 ∧ t.En ≤ 65535)
    (hR : Reads w w.heap.size 1 VA vn (rws G)) (hG : ∀ v ∈ G, RwOk w w.heap.size v) (hvn : vn ≤ 65536) :
    Calls Try.prog 16 #[t.V, .int .u64 e, .slice VA vn vc] w (SetR (tpuP t e G) (tpuE t e G) w) := by
  obtain ⟨W0, hW0⟩ : ∃ W0, W0 = (((w.alloc (.cells #[.slice t.TA t.Tn t.Tc, .slice t.CA t.Cn t.Cc, .slice t.EA t.En t.Ec] 25)).alloc (.cells #[.slice VA vn vc] 28)).alloc (.cells #[.slice none 0 0, .slice none 0 0, .slice none 0 0] 25)).alloc (.cells #[.int .i64 0] 32) := ⟨_, rfl⟩
  have hB : Below w.heap.size w W0 := by rw [hW0]; exact ((((Below.refl w.heap.size w).alloc (Nat.le_refl _) _).alloc (by simp) _).alloc (by simp; omega) _).alloc (by simp; omega) _
  have hsz : W0.heap.size = w.heap.size + 4 := by rw [hW0]; simp
  have k0 : Blk W0 w.heap.size 25 #[.slice t.TA t.Tn t.Tc, .slice t.CA t.Cn t.Cc, .slice t.EA t.En t.Ec] := by rw [hW0]; exact (((Blk.new w _ _).alloc _).alloc _).alloc _
  have k1 : Blk W0 (w.heap.size + 1) 28 #[.slice VA vn vc] := by
    rw [hW0]
    have h := Blk.new (w.alloc (.cells #[.slice t.TA t.Tn t.Tc, .slice t.CA t.Cn t.Cc, .slice t.EA t.En t.Ec] 25)) 28 #[.slice VA vn vc]
    rw [World.size_alloc] at h
    exact (h.alloc _).alloc _
  have k2 : Blk W0 (w.heap.size + 2) 25 #[.slice none 0 0, .slice none 0 0, .slice none 0 0] := by
    rw [hW0]
    have h := Blk.new ((w.alloc (.cells #[.slice t.TA t.Tn t.Tc, .slice t.CA t.Cn t.Cc, .slice t.EA t.En t.Ec] 25)).alloc (.cells #[.slice VA vn vc] 28)) 25 #[.slice none 0 0, .slice none 0 0, .slice none 0 0]
    rw [World.size_alloc, World.size_alloc] at h
    exact h.alloc _
  have k3 : Blk W0 (w.heap.size + 3) 32 #[.int .i64 0] := by
    rw [hW0]
    have h := Blk.new (((w.alloc (.cells #[.slice t.TA t.Tn t.Tc, .slice t.CA t.Cn t.Cc, .slice t.EA t.En t.Ec] 25)).alloc (.cells #[.slice VA vn vc] 28)).alloc (.cells #[.slice none 0 0, .slice none 0 0, .slice none 0 0] 25)) 32 #[.int .i64 0]
    rw [World.size_alloc, World.size_alloc, World.size_alloc] at h
    exact h
  have hT := (h.keep hB).more hB.size
  have HW := Lib.hid hW0
  have HS := Lib.hid hsz
  have hlen := h.len
  have hGl : G.length = vn := by have := hR.1; rw [rws_len] at this; omega
  have cp := fun w => parts_any e hwe w
  have ck := fun w => kind_any e hwe w
  have ct := fun (w2 : World) (hb : Below W0.heap.size W0 w2) => tabchk_any t w2 ((hT.keep hb).more hb.size) hs
  have zz := fun (w2 : World) (hb : Below W0.heap.size W0 w2) => And.intro (blk_below k0 hb) (And.intro (blk_below k1 hb) (And.intro (blk_below k2 hb) (And.intro (blk_below k3 hb) (hB.trans (hb.mono hB.size)))))
  have HZ := Lib.hid zz
  unfold tabE at ct
  have HTW := Lib.hid h.tyw
  have HEW := Lib.hid h.esw
  cases hb0 : tabB t
  · rw [hb0] at ct
    have hE : tpuE t e G = 190 := by unfold tpuE; rw [hb0]; rfl
    have hP : tpuP t e G = noT := by unfold tpuP; rw [hE, if_neg (by decide)]
    rw [hE, hP]
    unfold Tab.V at ct ⊢
    obtain ⟨TA, Tn, Tc, ty, CA, Cn, Cc, F, EA, En, Ec, es⟩ := t
    simp only at *
    clear hW0 hsz h hs k0 k1 k2 k3 hT hlen hGl hb0 hE hP zz hR hG hn
    go_enter Try.func16, Try.ntmps16
    go_upto_region 1 with fail
    rw [← HW.out]
    go_wp2_with (first
      | (go_at_call 64; ((with_reducible refine (cp _).mono ?_); rintro en w2 ⟨rfl, hb2⟩; have hb3 := hb2.alloc hb2.size (.cells #[.int .i64 (pa e)] 3); obtain ⟨z0, z1, z2, z3, zb⟩ := HZ.out _ hb3; obtain ⟨⟨z0, y1, y2⟩, _⟩ := blk_cells3 z0; clear z1 z2 z3))
      | (go_at_call 34; ((with_reducible refine (ct _ hb3).mono ?_); rintro en w4 ⟨rfl, hb4⟩; have hb5 := hb3.trans (hb4.mono hb3.size); obtain ⟨u0, u1, u2, u3, ub⟩ := HZ.out _ hb5; obtain ⟨⟨q0, q1, q2⟩, qf⟩ := blk_cells3 u2; obtain ⟨p0, pf⟩ := blk_cell1 u3; have qf0 := qf 0; have qf1 := qf 1; have qf2 := qf 2; clear u0 u1 u2 u3 qf))
      | fail)
    refine bodyPost_ret (v := .tuple #[.agg #[.slice none 0 0, .slice none 0 0, .slice none 0 0], .int .i64 190]) (by simp [results, Try.results16, go_sem, *]) rfl ?_
    exact setR_nil 190 (Below.setCell (below_set3 ub (by omega)) (by show w.heap.size ≤ w.heap.size + 3; omega) _)
  · rw [hb0] at ct
    by_cases hkd : kd e = 1 ∧ G.length = t.F.length
    · have hE : tpuE t e G = if hasI t.es (pa e) then 5 else if widE G 0 t.F then (if t.es.length = 1048578 then 6 else 0) else 140 := by unfold tpuE; rw [hb0, if_pos rfl, if_pos hkd]
      obtain ⟨hk1, hk2⟩ := hkd
      rw [hk1] at ck
      have cr := fun (w2 : World) (hb : Below W0.heap.size W0 w2) => rows_any w.heap.size t w2 (Nat.le_trans hB.size hb.size) (h.es.below (hB.trans (hb.mono hB.size))) h.esw (by omega)
      have hix : pa e = idx e := by unfold idx; rw [if_pos hk1]
      have hpb := idx_bd e hwe
      rw [← hix] at hpb
      have t2 : ((vn : Int) != (t.Cn : Int)) = false := by simp; omega
      generalize hpi : pa e = ip at *
      generalize pb e = ipb at *
      have hpost5 : hasI t.es ip = true → SetR (tpuP t e G) (tpuE t e G) w = SetR noT 5 w := fun hh => by
        have h5 : tpuE t e G = 5 := by rw [hE, hh]; rfl
        unfold tpuP; rw [h5, if_neg (by decide)]
      have hpost140 : hasI t.es ip = false → widE G 0 t.F = false → SetR (tpuP t e G) (tpuE t e G) w = SetR noT 140 w := fun hh h2 => by
        have h5 : tpuE t e G = 140 := by rw [hE, hh, h2]; rfl
        unfold tpuP; rw [h5, if_neg (by decide)]
      have hpost0 : hasI t.es ip = false → widE G 0 t.F = true → SetR (tpuP t e G) (tpuE t e G) w = SetR (t.ty, eachL (fun k x => pushP x (vAt G k)) 0 t.F, t.es ++ [e]) 0 w := fun hh h2 => by
        have h5 : tpuE t e G = 0 := by rw [hE, hh, h2, if_neg (by decide), if_pos rfl, if_neg (by omega)]
        unfold tpuP; rw [h5, if_pos rfl]
      have hep : widE G 0 t.F = true → eachE (fun k x => pushE x (vAt G k)) 0 t.F = 0 ∧ eachP (fun k x => pushP x (vAt G k)) (fun k x => pushE x (vAt G k)) t.F = eachL (fun k x => pushP x (vAt G k)) 0 t.F := fun h2 => by
        have h5 := push_zero hb0 h2 (by omega)
        exact ⟨h5, by unfold eachP; rw [if_pos h5]⟩
      have HP5 := Lib.hid hpost5
      have HP140 := Lib.hid hpost140
      have HP0 := Lib.hid hpost0
      have HEP := Lib.hid hep
      have HRH := Lib.hid (rows_has t.es h.esw (by omega) ip)
      have HWE := Lib.hid (@widE_at G t.F 0)
      have HWA := Lib.hid (@widE_all G t.F 0)
      have ce := fun (w2 : World) (hb : Below W0.heap.size W0 w2) => each1_any t 68 (w.heap.size + 1) (fun k x => pushP x (vAt G k)) (fun k x => pushE x (vAt G k)) w2 ((hT.cs.below hb).more hb.size) hn.1
        (enters_of Try.func68 (by kernel_rfl) rfl)
        (fun k x hx W hbW => by
          have hb9 := hb.trans (hbW.mono hb.size)
          have hk9 := (List.getElem?_eq_some_iff.1 hx).1
          exact pushc_any k x (vAt G k) (w.heap.size + 1) VA vn vc G W (((hT.csok x (List.mem_of_getElem? hx)).keep hb9).more hb9.size) ((blk_below k1 hb9).cell 0) (by have := hb9.size; omega) ((hR.below (hB.trans (hb9.mono hB.size))).more (Nat.le_trans hB.size hb9.size)) (rws_at (by omega))
            (((hG _ (List.mem_of_getElem? (rws_at (by omega)))).keep (hB.trans (hb9.mono hB.size))).more (Nat.le_trans hB.size hb9.size)) hvn)
      have co := fun (w2 : World) (hb : Below W0.heap.size W0 w2) => town1 t.EA t.En t.Ec t.es w2 ((hT.es.below hb).more hb.size) (by omega)
      have cu := fun (w2 : World) (hb : Below W0.heap.size W0 w2) => clone_d t.TA t.Tn t.Tc t.ty w2 ((hT.ty.below hb).more hb.size) hn.2.1
      have HCS := Lib.hid h.cs
      have HRV := Lib.hid hR
      have HGO := Lib.hid hG
      have HGL := Lib.hid hGl
      have HLN := Lib.hid hlen
      have HK2 := Lib.hid hk2
      clear hpost5 hpost140 hpost0 hep hE
      generalize SetR (tpuP t e G) (tpuE t e G) w = POST at *
      generalize eachP (fun k x => pushP x (vAt G k)) (fun k x => pushE x (vAt G k)) t.F = ps at *
      generalize eachE (fun k x => pushE x (vAt G k)) 0 t.F = er at *
      generalize eachL (fun k x => pushP x (vAt G k)) 0 t.F = cl at *
      unfold Tab.V at ct ce cr ⊢
      unfold EachR at ce
      unfold OwnD at co cu
      unfold SeqR at cr
      obtain ⟨TA, Tn, Tc, ty, CA, Cn, Cc, F, EA, En, Ec, es⟩ := t
      simp only at *
      clear hW0 hsz h hs k0 k1 k2 k3 hT hlen hGl hb0 zz hR hG hk1 hk2 hix hpi
      refine (callsIn_wide (n := 6)).1 ?_
      refine callsIn_of_wp_marks Try.func16 rfl trivial ?_ rfl
      simp only [Try.ntmps16, List.size_toArray, List.length_cons, List.length_nil, Nat.reduceAdd, Nat.reduceSub, Array.replicate_succ, Array.replicate_zero, List.push_toArray, List.append_toArray, List.nil_append, List.cons_append]
      refine wpIn_wide.2 ?_
      go_upto_region 1 with fail
      rw [← HW.out]
      go_wp2_with (first
        | (go_at_call 64; ((with_reducible refine (cp _).mono ?_); rintro en w2 ⟨rfl, hb2⟩; have hb3 := hb2.alloc hb2.size (.cells #[.int .i64 ip] 3); have hki := Blk.new w2 3 #[.int .i64 ip]; obtain ⟨z0, z1, z2, z3, zb⟩ := HZ.out _ hb3; obtain ⟨⟨z0, y1, y2⟩, _⟩ := blk_cells3 z0; clear z1 z2 z3))
        | (go_at_call 34; ((with_reducible refine (ct _ hb3).mono ?_); rintro en w4 ⟨rfl, hb4⟩; have hb5 := hb3.trans (hb4.mono hb3.size)))
        | (go_at_call 65; ((with_reducible refine (ck _).mono ?_); rintro en w6 ⟨rfl, hb6⟩; have hb7 := hb5.trans (hb6.mono hb5.size); obtain ⟨u0, u1, u2, u3, ub⟩ := HZ.out _ hb7; obtain ⟨⟨q0, q1, q2⟩, _⟩ := blk_cells3 u0; obtain ⟨l0, _⟩ := blk_cell1 u1; clear u0 u1 u2 u3 ub))
        | (go_at_call 66; ((with_reducible refine (cr _ hb7).mono ?_); rintro en w8 ⟨bt, rfl, hst, hb8⟩))
        | fail)
      have hb9 := hb7.trans (hb8.mono hb7.size)
      have hki8 := blk_below (blk_below (blk_below hki hb4) hb6) hb8
      have hi8 : w2.heap.size < w8.heap.size := hki8.lt
      have hW2 : W0.heap.size ≤ w2.heap.size := hb2.size
      clear hb3 hb4 hb5 hb6 hb7 hb8 hki z0 y1 y2 zb q0 q1 q2 l0 ct ck cp cr
      generalize w2.heap.size = bi at *
      clear hb2
      refine wpIn_wide (n := 6) |>.1 ?_
      refine wpIn_rangeFunc_ownG (w0 := w8) rfl (by omega) (gf := 111) (lb := #[.pointer (some ⟨bt, 0, none⟩)]) rfl trivial (enters_of Try.func111 (by kernel_rfl) rfl)
        (hst (6 - 1) (by omega)) belowK_t (belowK_b (by have := hb9.size; have := hB.size; omega)) (Below.refl _ _) (fun _ => rfl)
        (fun pre W => (∀ x ∈ pre, x.1.2 ≠ ip) ∧ Below W0.heap.size W0 W ∧ Below w8.heap.size w8 W)
        (fun c pre W => c = .ret ∧ (∃ x ∈ pre, x.1.2 = ip) ∧ Blk W (w.heap.size + 2) 25 #[.slice none 0 0, .slice none 0 0, .slice none 0 0] ∧ Blk W (w.heap.size + 3) 32 #[.int .i64 5] ∧ Below w.heap.size w W)
        (OwnFrom.and (ownFrom_pure _ _) (OwnFrom.and (ownFrom_below (Nat.le_refl _) (by have := hb9.size; omega)) (ownFrom_below (Nat.le_refl _) (Nat.le_refl _))))
        (fun c => OwnFrom.and (ownFrom_pure _ _) (OwnFrom.and (ownFrom_pure _ _) (OwnFrom.and (ownFrom_blk (by have := hb9.size; have := HS.out; omega) _ _) (OwnFrom.and (ownFrom_blk (by have := hb9.size; have := HS.out; omega) _ _) (ownFrom_below (Nat.le_refl _) (by have := hb9.size; have := hB.size; omega))))))
        ⟨by simp, hb9, Below.refl _ _⟩ ?a1 ?assign ?body ?done ?stop
      case assign =>
        intro l x W K hK
        unfold encR
        gi_wp2
        exact hK
      case body =>
        rintro l pre x W ⟨hne, hb, hb8⟩ hlt3
        have hki := hki8.below hb8 hi8
        obtain ⟨ci, _⟩ := blk_cell1 hki
        obtain ⟨u0, u1, u2, u3, ub⟩ := HZ.out _ hb
        obtain ⟨⟨q0, q1, q2⟩, qf⟩ := blk_cells3 u2
        obtain ⟨p0, pf⟩ := blk_cell1 u3
        have qf0 := qf 0
        have qf1 := qf 1
        have qf2 := qf 2
        have U2 := Lib.hid u2
        have U3 := Lib.hid u3
        have HNE := Lib.hid hne
        clear u0 u1 u2 u3 qf hne hki
        cases hx : (x.1.2 == ip)
        · have hx2 : x.1.2 ≠ ip := by simpa using hx
          have HX := Lib.hid hx2
          clear hx2
          gi_wp2
          exact ⟨KeepsFrom.refl _ _, Below.refl _ _, fun y hy => by rcases List.mem_append.1 hy with hy | hy; exact HNE.out y hy; rw [List.mem_singleton] at hy; subst hy; exact HX.out, hb, hb8⟩
        · have hx2 : x.1.2 = ip := by simpa using hx
          have HX := Lib.hid hx2
          clear hx2
          gi_wp2
          refine ⟨?_, rfl, ⟨x, by simp, HX.out⟩, ?_, ?_, ?_⟩
          · exact ((((KeepsOthers.setCell _ _ _).trans (KeepsOthers.setCell _ _ _)).trans (KeepsOthers.setCell _ _ _)).trans (KeepsOthers.setCell _ _ _)).from _
          · exact (((U2.out.set_ 0 _).set_ 1 _).set_ 2 _).far (by simp) _
          · exact (((U3.out.far (by simp) _).far (by simp) _).far (by simp) _).set_ 0 _
          · exact Below.setCell (below_set3 ub (by omega)) (by show w.heap.size ≤ w.heap.size + 3; omega) _
      case stop =>
        rintro D c pre W hD hpre ⟨rfl, hex, hk2, hk3, hbw⟩ hK
        have hhas : hasI es ip = true := HRH.out.1 (by obtain ⟨x, hx, he⟩ := hex; exact ⟨x, hpre.subset hx, he⟩)
        have HPO := Lib.hid (HP5.out hhas)
        have hk2' := blk_put hK (.deferred none) hk2
        have hk3' := blk_put hK (.deferred none) hk3
        obtain ⟨⟨q0, q1, q2⟩, _⟩ := blk_cells3 hk2'
        obtain ⟨p0, _⟩ := blk_cell1 hk3'
        clear hk2 hk3 hk2' hk3' hhas
        refine wpIn_wide.2 ?_
        go_wp2
        refine ⟨by simp, .inl ⟨_, _, rfl, run_takeDeferred hK, ?_⟩⟩
        refine ⟨.tuple #[.agg #[.slice none 0 0, .slice none 0 0, .slice none 0 0], .int .i64 5], by simp [results, Try.f16, go_sem, q0, q1, q2, p0], ?_⟩
        show POST _ _
        rw [HPO.out]
        exact setR_nil 5 (hbw.trans (belowK_b (w := w) (Nat.le_refl _) W D _ _ (by have := hb9.size; have := hB.size; omega) hK rfl rfl))
      case done =>
        rintro D ys' W hD rfl ⟨hne, hb, hb8⟩ hK
        have hhas : hasI es ip = false := by
          cases hh : hasI es ip
          · rfl
          · obtain ⟨x, hx, he⟩ := HRH.out.2 hh
            exact absurd he (hne x hx)
        have HHAS := Lib.hid hhas
        clear hne hhas hb8 HP5 HRH
        obtain ⟨u0, u1, u2, u3, ub⟩ := HZ.out _ hb
        obtain ⟨⟨q0, q1, q2⟩, _⟩ := blk_cells3 u0
        obtain ⟨l0, _⟩ := blk_cell1 u1
        have U2 := Lib.hid u2
        have U3 := Lib.hid u3
        clear u0 u1 u2 u3
        go_wp2
        go_loop [49] (fun i => ∃ k : Nat, k ≤ vn ∧ i = .int .i64 k ∧ ∀ j, j < k → ∀ x, F[j]? = some x → ((vAt G (0 + j)).n : Int) = x.W)
          (fun i => vn - (intOf i).toNat)
        case atStart => exact ⟨0, Nat.zero_le _, rfl, fun j hj => absurd hj (by omega)⟩
        case round =>
          obtain ⟨k, hk, rfl, hall⟩ := hrel
          by_cases hlt : k < vn
          · have hkG : k < G.length := by rw [HGL.out]; exact hlt
            have e1 := rws_at hkG
            have e2 := List.getElem?_eq_getElem (l := F) (i := k) (by rw [← HK2.out]; exact hkG)
            generalize F[k]'(by rw [← HK2.out]; exact hkG) = x at e2
            obtain ⟨b, off, rfl, hbl, g⟩ := rws_cell HRV.out e1
            obtain ⟨b2, off2, rfl, hbl2, g2⟩ := cols_cells HCS.out e2
            have g1 := cell_below' ub g hbl
            obtain ⟨x0, x1, x2⟩ := g2.below ub hbl2
            have i1 : (k : Int) < (Cn : Int) := by have := HK2.out; have := HLN.out; have := HGL.out; omega
            have HALL := Lib.hid hall
            have HE2 := Lib.hid e2
            have HV0 := Lib.hid (show vAt G (0 + k) = vAt G k from by rw [Nat.zero_add])
            clear hall e2 g g2
            generalize hv : vAt G k = v at *
            have HVV := Lib.hid hv
            clear hv
            obtain ⟨xW, xR, xA, xn, xc, xl⟩ := x
            simp only at x0 x1 x2
            cases hne : ((v.n : Int) != xW)
            · have hne2 : (v.n : Int) = xW := by simpa using hne
              have HX := Lib.hid hne2
              clear hne2
              go_wp2
              go_round
              case rel =>
                refine ⟨k + 1, by omega, by go_num, fun j hj x hx => ?_⟩
                by_cases hjk : j = k
                · subst hjk
                  rw [HE2.out] at hx; injection hx with hx
                  subst hx
                  rw [HV0.out]; exact HX.out
                · exact HALL.out j (by omega) x hx
              case measure => simp [intOf]; omega
            · have hne2 : (v.n : Int) ≠ xW := by simpa using hne
              have hwid : widE G 0 F = false := by
                cases hh : widE G 0 F
                · rfl
                · have := HWE.out hh k _ HE2.out
                  rw [HV0.out] at this
                  exact absurd this hne2
              have HPO := Lib.hid (HP140.out HHAS.out hwid)
              obtain ⟨⟨r0, r1, r2⟩, rf⟩ := blk_cells3 U2.out
              obtain ⟨p0, pf⟩ := blk_cell1 U3.out
              have rf0 := rf 0
              have rf1 := rf 1
              have rf2 := rf 2
              clear rf hne2 hwid
              go_wp2
              have hK2 := ((((KeepsOthers.setCell W ⟨w.heap.size + 2, 0, none⟩ (.slice none 0 0)).trans (KeepsOthers.setCell _ ⟨w.heap.size + 2, 1, none⟩ (.slice none 0 0))).trans (KeepsOthers.setCell _ ⟨w.heap.size + 2, 2, none⟩ (.slice none 0 0))).trans (KeepsOthers.setCell _ ⟨w.heap.size + 3, 0, none⟩ (.int .i64 140))).same D _ hK rfl
              have hk2' := blk_put hK2 (.deferred none) ((((U2.out.set_ 0 (.slice none 0 0)).set_ 1 (.slice none 0 0)).set_ 2 (.slice none 0 0)).far (by simp) (.int .i64 140))
              have hk3' := blk_put hK2 (.deferred none) (((((U3.out.far (p := ⟨w.heap.size + 2, 0, none⟩) (by simp) (.slice none 0 0)).far (p := ⟨w.heap.size + 2, 1, none⟩) (by simp) (.slice none 0 0)).far (p := ⟨w.heap.size + 2, 2, none⟩) (by simp) (.slice none 0 0)).set_ 0 (.int .i64 140)))
              obtain ⟨⟨q0, q1, q2⟩, _⟩ := blk_cells3 hk2'
              obtain ⟨p0, _⟩ := blk_cell1 hk3'
              refine ⟨by simp, .inl ⟨_, _, rfl, run_takeDeferred hK2, ?_⟩⟩
              refine ⟨.tuple #[.agg #[.slice none 0 0, .slice none 0 0, .slice none 0 0], .int .i64 140], by simp [results, Try.f16, go_sem, q0, q1, q2, p0], ?_⟩
              show POST _ _
              rw [HPO.out]
              exact setR_nil 140 ((Below.setCell (below_set3 ub (by omega)) (by show w.heap.size ≤ w.heap.size + 3; omega) _).trans (belowK_b (w := w) (Nat.le_refl _) _ D _ _ (by have := hb9.size; have := hB.size; omega) hK2 rfl rfl))
          · have : k = vn := by omega
            subst this
            have hwid : widE G 0 F = true := HWA.out fun j x hx => hall j (by have := (List.getElem?_eq_some_iff.1 hx).1; have := HK2.out; have := HGL.out; omega) x hx
            have HPO := Lib.hid (HP0.out HHAS.out hwid)
            obtain ⟨he1, he2⟩ := HEP.out hwid
            subst he1
            rw [he2] at ce
            have t6 : ((En : Int) == 1048578) = false := by simp; omega
            clear hall hwid he2 HEP HP0 HP140 HWE HWA HHAS
            go_wp2_with (first
              | (go_at_call 67; ((with_reducible refine (ce _ hb).mono ?_); rintro en w5 ⟨v, F', rfl, ho3, hl3, hf3, hb3⟩; obtain ⟨Av, cv, rfl⟩ := own_slice ho3))
              | fail)
            have hb5 := hb.trans (hb3.mono hb.size)
            obtain ⟨v0, v1, v2, v3, vb⟩ := HZ.out _ hb5
            obtain ⟨⟨s0', _, s2'⟩, _⟩ := blk_cells3 v0
            have hl0 : w.heap.size < w5.heap.size := v0.lt
            have HL5 := Lib.hid v3.lt
            have hK5 : w5.heap[D]? = some (.deferred (some [])) := (hb3.block D (Array.getElem?_eq_some_iff.1 hK).1).trans hK
            have hWz : w.heap.size ≤ W.heap.size := Nat.le_trans hB.size hb.size
            have HC5 := Lib.hid (base_le ho3 hWz)
            have HF5 := Lib.hid (fun x hx => colFresh_base (hf3 x hx) hWz)
            have HL3 := Lib.hid hl3
            have HK52 := Lib.hid v2
            have HK53 := Lib.hid v3
            have HB5 := Lib.hid hb5
            have HV5 := Lib.hid vb
            have HDD := Lib.hid hK5
            have hDlt : D < w5.heap.size := (Array.getElem?_eq_some_iff.1 hK5).1
            have hDw : w8.heap.size ≤ D := hD
            clear ho3 hf3 hl3 hb3 hb5 v0 v1 v2 v3 vb hK5 hK ce q0 q1 q2 l0
            obtain ⟨i0, hi0, hz0, hz1, hz2⟩ := info_parts info_id
            refine wp_region_noPanic ?_
            refine wp_region_held_drew (S := fun w' => w'.cell? ⟨w.heap.size, 0, none⟩ = some (.slice TA Tn Tc) ∧ w'.cell? ⟨w.heap.size, 2, none⟩ = some (.slice EA En Ec)) (by kernel_rfl) ⟨s0', s2'⟩ (fun hHeld => ?_)
            refine wpAnyH_take (i := 0) (oi := _) (v := ?_) rfl (by kernel_rfl) (by kernel_rfl) (by kernel_rfl) (fun _ _ _ h => h) (Or.inl ⟨by rfl, ?_⟩) hHeld ?_
            rotate_left
            · intro w hSw; obtain ⟨s0, s2⟩ := hSw; go_simp; try with_reducible rfl
            simp only [Act.put, List.getElem_toArray, List.getElem_cons_succ, List.getElem_cons_zero, List.setIfInBounds_toArray, List.set_cons_zero, List.set_cons_succ]
            refine wpAnyH_take (i := 1) (oi := _) (v := ?_) rfl (by kernel_rfl) (by kernel_rfl) (by kernel_rfl) (fun _ _ _ h => h) (Or.inl ⟨by rfl, ?_⟩) hHeld ?_
            rotate_left
            · intro w hSw; obtain ⟨s0, s2⟩ := hSw; go_simp; try with_reducible rfl
            simp only [Act.put, List.getElem_toArray, List.getElem_cons_succ, List.getElem_cons_zero, List.setIfInBounds_toArray, List.set_cons_zero, List.set_cons_succ]
            refine wpAnyH_take (i := 3) (oi := _) (v := ?_) rfl (by kernel_rfl) (by kernel_rfl) (by kernel_rfl) (fun _ _ _ h => h) (Or.inl ⟨by rfl, ?_⟩) hHeld ?_
            rotate_left
            · intro w hSw; obtain ⟨s0, s2⟩ := hSw; go_simp; try with_reducible rfl
            simp only [Act.put, List.getElem_toArray, List.getElem_cons_succ, List.getElem_cons_zero, List.setIfInBounds_toArray, List.set_cons_zero, List.set_cons_succ]
            refine wpAnyH_take (i := 4) (oi := _) (v := ?_) rfl (by kernel_rfl) (by kernel_rfl) (by kernel_rfl) (fun _ _ _ h => h) (Or.inl ⟨by rfl, ?_⟩) hHeld ?_
            rotate_left
            · intro w hSw; obtain ⟨s0, s2⟩ := hSw; go_simp; try with_reducible rfl
            simp only [Act.put, List.getElem_toArray, List.getElem_cons_succ, List.getElem_cons_zero, List.setIfInBounds_toArray, List.set_cons_zero, List.set_cons_succ]
            refine wpAnyH_take (i := 5) (oi := _) (v := ?_) rfl (by kernel_rfl) (by kernel_rfl) (by kernel_rfl) (fun _ _ _ h => h) (Or.inl ⟨by rfl, ?_⟩) hHeld ?_
            rotate_left
            · intro w hSw; obtain ⟨s0, s2⟩ := hSw; go_simp; try with_reducible rfl
            simp only [Act.put, List.getElem_toArray, List.getElem_cons_succ, List.getElem_cons_zero, List.setIfInBounds_toArray, List.set_cons_zero, List.set_cons_succ]
            refine wpAnyH_take (i := 7) (oi := _) (v := ?_) rfl (by kernel_rfl) (by kernel_rfl) (by kernel_rfl) (fun _ _ _ h => h) (Or.inl ⟨by rfl, ?_⟩) hHeld ?_
            rotate_left
            · intro w hSw; obtain ⟨s0, s2⟩ := hSw; go_simp; try with_reducible rfl
            simp only [Act.put, List.getElem_toArray, List.getElem_cons_succ, List.getElem_cons_zero, List.setIfInBounds_toArray, List.set_cons_zero, List.set_cons_succ]
            have hbb0 : Below w5.heap.size w5 w5.drew := (Below.refl _ _).drew
            generalize hwd : w5.drew = wd at *
            clear hwd
            refine wpAnyH_ready (rs := [2, 8]) (by kernel_rfl) (by simp) (AllReadyH.cons (o := _) rfl (fun K hK => ?_) (AllReadyH.cons (o := _) rfl (fun K hK => ?_) AllReadyH.nil))
            · go_simp
              refine (cu _ (HB5.out.trans (hbb0.mono HB5.out.size))).mono ?_
              rintro en wa0 ⟨vt, rfl, hot, hs0⟩
              obtain ⟨At, ctt, rfl⟩ := own_slice hot
              have hbb1 := hbb0.trans (hs0.mono hbb0.size)
              refine hK.out _ _ ⟨cell_below' hbb1 s0' hl0, cell_below' hbb1 s2' hl0⟩ (fun hHeld => ?_)
              clear hK K
              try simp only [Act.put, List.getElem_toArray, List.getElem_cons_succ, List.getElem_cons_zero, List.setIfInBounds_toArray, List.set_cons_zero, List.set_cons_succ]
              refine wpAnyH_ready (rs := [6, 8]) (by kernel_rfl) (by simp) (AllReadyH.cons (o := _) rfl (fun K hK => ?_) (AllReadyH.cons (o := _) rfl (fun K hK => ?_) AllReadyH.nil))
              · go_simp
                refine (co _ (HB5.out.trans (hbb1.mono HB5.out.size))).mono ?_
                rintro en wa1 ⟨ve, rfl, hoe, hs1⟩
                obtain ⟨Ae, cee, rfl⟩ := own_slice hoe
                have hbb2 := hbb1.trans (hs1.mono hbb1.size)
                have hdist := own_new hot hoe
                have hot := own_below hot hs1
                refine hK.out _ _ ⟨cell_below' hbb2 s0' hl0, cell_below' hbb2 s2' hl0⟩ (fun hHeld => ?_)
                clear hK K
                try simp only [Act.put, List.getElem_toArray, List.getElem_cons_succ, List.getElem_cons_zero, List.setIfInBounds_toArray, List.set_cons_zero, List.set_cons_succ]
                refine wpAnyH_ready (rs := [8]) (by kernel_rfl) (by simp) (AllReadyH.cons (o := _) rfl (fun K hK => ?_) AllReadyH.nil)
                · go_simp
                  have hs2 : Below wa1.heap.size wa1 (wa1.alloc (.cells #[.int .u64 e] 27)) := (Below.refl _ _).alloc (Nat.le_refl _) _
                  have hkl := Blk.new wa1 27 #[.int .u64 e]
                  have hbb3 := hbb2.trans (hs2.mono hbb2.size)
                  have hot := own_below hot hs2
                  have hoe := own_below hoe hs2
                  refine hK.out _ _ ⟨cell_below' hbb3 s0' hl0, cell_below' hbb3 s2' hl0⟩ (fun hHeld => ?_)
                  clear hK K
                  obtain ⟨wl2, hwl⟩ : ∃ wl2, wl2 = wa1.alloc (.cells #[.int .u64 e] 27) := ⟨_, rfl⟩
                  generalize wa1.alloc (.cells #[.int .u64 e] 27) = wm2 at *
                  clear hwl
                  try simp only [Act.put, List.getElem_toArray, List.getElem_cons_succ, List.getElem_cons_zero, List.setIfInBounds_toArray, List.set_cons_zero, List.set_cons_succ]
                  have hrl := reads_blk hkl
                  refine wpAnyH_ready (rs := [9]) (by kernel_rfl) (by simp) (AllReadyH.cons (o := _) rfl (fun K hK => ?_) AllReadyH.nil)
                  refine step_append_any _ rfl (.tmp 86) (.tmp 88) 22 rfl w5.heap.size 27 i0 _ 1 8 Try.underlying22 hi0 hz0 hz1 hz2 rfl (by omega) _ es.length (ids es) (by rfl) (base_le hoe ?_) _ _ 1 1 [.int .u64 e] (by rfl) hrl (by simp [Value.oneCell']) ?_ ?_ hbb3.size ?_
                  · first | exact Nat.le_refl _ | exact hbb1.size | exact hbb2.size
                  · have := HLN.out; simp only [maxLen]; omega
                  · have := HLN.out; omega
                  intro v9 w9 ho9 hg9 hat9
                  have hot9 := hot.kept hg9 hdist
                  have hb9' : Below w5.heap.size w5 w9 := own_grown_below hbb3 (base_le hoe (by first | exact Nat.le_refl _ | exact hbb1.size | exact hbb2.size)) hg9
                  have hc9 := own_other (own_below HC5.out hbb3) hoe (by decide) hg9
                  have hf9 : ∀ x ∈ F', ColFresh w9 w.heap.size x := fun x hx => colFresh_grown ((HF5.out x hx).below hbb3) hoe (by decide) hg9
                  have hk92 := HK52.out.below hb9' (by have := HL5.out; omega)
                  have hk93 := HK53.out.below hb9' HL5.out
                  obtain ⟨A9, c9, rfl⟩ := own_slice ho9
                  obtain ⟨⟨q0, q1, q2⟩, qf⟩ := blk_cells3 hk92
                  obtain ⟨p0, pf⟩ := blk_cell1 hk93
                  have qf0 := qf 0
                  have qf1 := qf 1
                  have qf2 := qf 2
                  have HOT9 := Lib.hid hot9
                  have HO9 := Lib.hid ho9
                  have HC9 := Lib.hid hc9
                  have HF9 := Lib.hid hf9
                  have HK92 := Lib.hid hk92
                  have HK93 := Lib.hid hk93
                  have HG9 := Lib.hid hb9'
                  clear qf hot9 ho9 hc9 hf9 hk92 hk93 hg9 hat9 hrl
                  refine hK.out _ _ ⟨cell_below' HG9.out s0' hl0, cell_below' HG9.out s2' hl0⟩ (fun hHeld => ?_)
                  clear hK K
                  try simp only [Act.put, List.getElem_toArray, List.getElem_cons_succ, List.getElem_cons_zero, List.setIfInBounds_toArray, List.set_cons_zero, List.set_cons_succ]
                  refine wpAnyH_take (i := 10) (oi := _) (v := ?_) rfl (by kernel_rfl) (by kernel_rfl) (by kernel_rfl) (fun _ _ _ h => h) (Or.inl ⟨by rfl, ?_⟩) hHeld ?_
                  rotate_left
                  · intro w hSw; obtain ⟨s0, s2⟩ := hSw; go_simp; try with_reducible rfl
                  simp only [Act.put, List.getElem_toArray, List.getElem_cons_succ, List.getElem_cons_zero, List.setIfInBounds_toArray, List.set_cons_zero, List.set_cons_succ]
                  refine wpAnyH_ready (rs := [11]) (by kernel_rfl) (by simp) (AllReadyH.cons (o := _) rfl (fun K hK => ?_) AllReadyH.nil)
                  go_simp
                  skip
                  refine hK.out _ _ ⟨far3 _ _ _ trivial (cell_below' HG9.out s0' hl0) (by omega), far3 _ _ _ trivial (cell_below' HG9.out s2' hl0) (by omega)⟩ (fun hHeld => ?_)
                  clear hK K
                  try simp only [Act.put, List.getElem_toArray, List.getElem_cons_succ, List.getElem_cons_zero, List.setIfInBounds_toArray, List.set_cons_zero, List.set_cons_succ]
                  refine wpAnyH_ready (rs := [12]) (by kernel_rfl) (by simp) (AllReadyH.cons (o := _) rfl (fun K hK => ?_) AllReadyH.nil)
                  go_simp
                  skip
                  refine hK.out _ _ ⟨farc _ (by omega) (far3 _ _ _ trivial (cell_below' HG9.out s0' hl0) (by omega)), farc _ (by omega) (far3 _ _ _ trivial (cell_below' HG9.out s2' hl0) (by omega))⟩ (fun hHeld => ?_)
                  clear hK K
                  try simp only [Act.put, List.getElem_toArray, List.getElem_cons_succ, List.getElem_cons_zero, List.setIfInBounds_toArray, List.set_cons_zero, List.set_cons_succ]
                  refine wpAnyH_done (by kernel_rfl) (NoPanic.normal ?_) _
                  go_wp2
                  have hD9 : w9.heap[D]? = some (.deferred (some [])) := (HG9.out.block D hDlt).trans HDD.out
                  have hDF := ((((KeepsOthers.setCell w9 ⟨w.heap.size + 2, 0, none⟩ (.slice At ty.length ctt)).trans (KeepsOthers.setCell _ ⟨w.heap.size + 2, 1, none⟩ (.slice Av F'.length cv))).trans (KeepsOthers.setCell _ ⟨w.heap.size + 2, 2, none⟩ (.slice A9 (es.length + 1) c9))).trans (KeepsOthers.setCell _ ⟨w.heap.size + 3, 0, none⟩ (.int .i64 0))).same D _ hD9 rfl
                  have hk2' := blk_put hDF (.deferred none) ((((HK92.out.set_ 0 (.slice At ty.length ctt)).set_ 1 (.slice Av F'.length cv)).set_ 2 (.slice A9 (es.length + 1) c9)).far (by simp) (.int .i64 0))
                  have hk3' := blk_put hDF (.deferred none) (((((HK93.out.far (p := ⟨w.heap.size + 2, 0, none⟩) (by simp) (.slice At ty.length ctt)).far (p := ⟨w.heap.size + 2, 1, none⟩) (by simp) (.slice Av F'.length cv)).far (p := ⟨w.heap.size + 2, 2, none⟩) (by simp) (.slice A9 (es.length + 1) c9)).set_ 0 (.int .i64 0)))
                  obtain ⟨⟨q0, q1, q2⟩, _⟩ := blk_cells3 hk2'
                  obtain ⟨p0, _⟩ := blk_cell1 hk3'
                  refine ⟨by simp, .inl ⟨_, _, rfl, run_takeDeferred hDF, ?_⟩⟩
                  refine ⟨.tuple #[.agg #[.slice At ty.length ctt, .slice Av F'.length cv, .slice A9 (es.length + 1) c9], .int .i64 0], by simp [results, Try.f16, go_sem, q0, q1, q2, p0], ?_⟩
                  show POST _ _
                  rw [HPO.out]
                  have hzz : w.heap.size ≤ w5.heap.size := by omega
                  have hes9 : w9.ownsRow w5.heap.size 27 1 (.slice A9 (es ++ [e]).length c9) (es ++ [e]).length (ids (es ++ [e])) := by
                    have h9 := HO9.out
                    rw [ids_app, List.length_append]
                    exact h9
                  have hfr : TabFresh w9 w.heap.size ⟨At, ty.length, ctt, ty, Av, F'.length, cv, F', A9, (es ++ [e]).length, c9, es ++ [e]⟩ :=
                    ⟨(idFresh_own HOT9.out HTW.out).base (by first | exact hzz | exact Nat.le_trans hzz hbb0.size | exact Nat.le_trans hzz hbb1.size | exact Nat.le_trans hzz hbb2.size), HC9.out, HF9.out, (idFresh_own hes9 (fun y hy => by rcases List.mem_append.1 hy with hy | hy; exact HEW.out y hy; rw [List.mem_singleton] at hy; subst hy; exact hwe)).base hzz⟩
                  have hfr2 := (hfr.set3 HK92.out (.slice At ty.length ctt) (.slice Av F'.length cv) (.slice A9 (es.length + 1) c9)).other (w' := _) (g := w.heap.size + 3) (fun i hi => Below.heap_setCell _ ⟨w.heap.size + 3, 0, none⟩ (.int .i64 0) _ (by simpa using hi)) (by simp) (noRow_blk (((HK93.out.far (p := ⟨w.heap.size + 2, 0, none⟩) (by simp) (.slice At ty.length ctt)).far (p := ⟨w.heap.size + 2, 1, none⟩) (by simp) (.slice Av F'.length cv)).far (p := ⟨w.heap.size + 2, 2, none⟩) (by simp) (.slice A9 (es.length + 1) c9)) (by decide))
                  have hfr3 := hfr2.other (w' := _) (g := D) (fun i hi => World.putObj_heap_other hi) (grownBy_putObj' _ D (.deferred none)).size (noRow_def hDF)
                  exact ⟨_, rfl, ⟨⟨At, ty.length, ctt, ty, Av, F'.length, cv, F', A9, (es ++ [e]).length, c9, es ++ [e]⟩, by unfold Tab.V; simp only [List.length_append, List.length_cons, List.length_nil], by unfold Tab.p; simp only; rw [HL3.out], hfr3⟩,
                    (Below.setCell (below_set3 (HV5.out.trans (HG9.out.mono hzz)) (by omega)) (by show w.heap.size ≤ w.heap.size + 3; omega) _).trans (belowK_b (w := w) (Nat.le_refl _) _ D _ _ (by have := hb9.size; have := hB.size; omega) hDF rfl rfl)⟩
              · go_simp
                have hs1 : Below wa0.heap.size wa0 (wa0.alloc (.cells #[.int .u64 e] 27)) := (Below.refl _ _).alloc (Nat.le_refl _) _
                have hkl := Blk.new wa0 27 #[.int .u64 e]
                have hbb2 := hbb1.trans (hs1.mono hbb1.size)
                have hot := own_below hot hs1
                refine hK.out _ _ ⟨cell_below' hbb2 s0' hl0, cell_below' hbb2 s2' hl0⟩ (fun hHeld => ?_)
                clear hK K
                obtain ⟨wl1, hwl⟩ : ∃ wl1, wl1 = wa0.alloc (.cells #[.int .u64 e] 27) := ⟨_, rfl⟩
                generalize wa0.alloc (.cells #[.int .u64 e] 27) = wm1 at *
                clear hwl
                try simp only [Act.put, List.getElem_toArray, List.getElem_cons_succ, List.getElem_cons_zero, List.setIfInBounds_toArray, List.set_cons_zero, List.set_cons_succ]
                refine wpAnyH_ready (rs := [6]) (by kernel_rfl) (by simp) (AllReadyH.cons (o := _) rfl (fun K hK => ?_) AllReadyH.nil)
                · go_simp
                  refine (co _ (HB5.out.trans (hbb2.mono HB5.out.size))).mono ?_
                  rintro en wa2 ⟨ve, rfl, hoe, hs2⟩
                  obtain ⟨Ae, cee, rfl⟩ := own_slice hoe
                  have hbb3 := hbb2.trans (hs2.mono hbb2.size)
                  have hdist := own_new hot hoe
                  have hot := own_below hot hs2
                  have hkl := blk_below hkl hs2
                  refine hK.out _ _ ⟨cell_below' hbb3 s0' hl0, cell_below' hbb3 s2' hl0⟩ (fun hHeld => ?_)
                  clear hK K
                  try simp only [Act.put, List.getElem_toArray, List.getElem_cons_succ, List.getElem_cons_zero, List.setIfInBounds_toArray, List.set_cons_zero, List.set_cons_succ]
                  have hrl := reads_blk hkl
                  refine wpAnyH_ready (rs := [9]) (by kernel_rfl) (by simp) (AllReadyH.cons (o := _) rfl (fun K hK => ?_) AllReadyH.nil)
                  refine step_append_any _ rfl (.tmp 86) (.tmp 88) 22 rfl w5.heap.size 27 i0 _ 1 8 Try.underlying22 hi0 hz0 hz1 hz2 rfl (by omega) _ es.length (ids es) (by rfl) (base_le hoe ?_) _ _ 1 1 [.int .u64 e] (by rfl) hrl (by simp [Value.oneCell']) ?_ ?_ hbb3.size ?_
                  · first | exact Nat.le_refl _ | exact hbb1.size | exact hbb2.size
                  · have := HLN.out; simp only [maxLen]; omega
                  · have := HLN.out; omega
                  intro v9 w9 ho9 hg9 hat9
                  have hot9 := hot.kept hg9 hdist
                  have hb9' : Below w5.heap.size w5 w9 := own_grown_below hbb3 (base_le hoe (by first | exact Nat.le_refl _ | exact hbb1.size | exact hbb2.size)) hg9
                  have hc9 := own_other (own_below HC5.out hbb3) hoe (by decide) hg9
                  have hf9 : ∀ x ∈ F', ColFresh w9 w.heap.size x := fun x hx => colFresh_grown ((HF5.out x hx).below hbb3) hoe (by decide) hg9
                  have hk92 := HK52.out.below hb9' (by have := HL5.out; omega)
                  have hk93 := HK53.out.below hb9' HL5.out
                  obtain ⟨A9, c9, rfl⟩ := own_slice ho9
                  obtain ⟨⟨q0, q1, q2⟩, qf⟩ := blk_cells3 hk92
                  obtain ⟨p0, pf⟩ := blk_cell1 hk93
                  have qf0 := qf 0
                  have qf1 := qf 1
                  have qf2 := qf 2
                  have HOT9 := Lib.hid hot9
                  have HO9 := Lib.hid ho9
                  have HC9 := Lib.hid hc9
                  have HF9 := Lib.hid hf9
                  have HK92 := Lib.hid hk92
                  have HK93 := Lib.hid hk93
                  have HG9 := Lib.hid hb9'
                  clear qf hot9 ho9 hc9 hf9 hk92 hk93 hg9 hat9 hrl
                  refine hK.out _ _ ⟨cell_below' HG9.out s0' hl0, cell_below' HG9.out s2' hl0⟩ (fun hHeld => ?_)
                  clear hK K
                  try simp only [Act.put, List.getElem_toArray, List.getElem_cons_succ, List.getElem_cons_zero, List.setIfInBounds_toArray, List.set_cons_zero, List.set_cons_succ]
                  refine wpAnyH_take (i := 10) (oi := _) (v := ?_) rfl (by kernel_rfl) (by kernel_rfl) (by kernel_rfl) (fun _ _ _ h => h) (Or.inl ⟨by rfl, ?_⟩) hHeld ?_
                  rotate_left
                  · intro w hSw; obtain ⟨s0, s2⟩ := hSw; go_simp; try with_reducible rfl
                  simp only [Act.put, List.getElem_toArray, List.getElem_cons_succ, List.getElem_cons_zero, List.setIfInBounds_toArray, List.set_cons_zero, List.set_cons_succ]
                  refine wpAnyH_ready (rs := [11]) (by kernel_rfl) (by simp) (AllReadyH.cons (o := _) rfl (fun K hK => ?_) AllReadyH.nil)
                  go_simp
                  skip
                  refine hK.out _ _ ⟨far3 _ _ _ trivial (cell_below' HG9.out s0' hl0) (by omega), far3 _ _ _ trivial (cell_below' HG9.out s2' hl0) (by omega)⟩ (fun hHeld => ?_)
                  clear hK K
                  try simp only [Act.put, List.getElem_toArray, List.getElem_cons_succ, List.getElem_cons_zero, List.setIfInBounds_toArray, List.set_cons_zero, List.set_cons_succ]
                  refine wpAnyH_ready (rs := [12]) (by kernel_rfl) (by simp) (AllReadyH.cons (o := _) rfl (fun K hK => ?_) AllReadyH.nil)
                  go_simp
                  skip
                  refine hK.out _ _ ⟨farc _ (by omega) (far3 _ _ _ trivial (cell_below' HG9.out s0' hl0) (by omega)), farc _ (by omega) (far3 _ _ _ trivial (cell_below' HG9.out s2' hl0) (by omega))⟩ (fun hHeld => ?_)
                  clear hK K
                  try simp only [Act.put, List.getElem_toArray, List.getElem_cons_succ, List.getElem_cons_zero, List.setIfInBounds_toArray, List.set_cons_zero, List.set_cons_succ]
                  refine wpAnyH_done (by kernel_rfl) (NoPanic.normal ?_) _
                  go_wp2
                  have hD9 : w9.heap[D]? = some (.deferred (some [])) := (HG9.out.block D hDlt).trans HDD.out
                  have hDF := ((((KeepsOthers.setCell w9 ⟨w.heap.size + 2, 0, none⟩ (.slice At ty.length ctt)).trans (KeepsOthers.setCell _ ⟨w.heap.size + 2, 1, none⟩ (.slice Av F'.length cv))).trans (KeepsOthers.setCell _ ⟨w.heap.size + 2, 2, none⟩ (.slice A9 (es.length + 1) c9))).trans (KeepsOthers.setCell _ ⟨w.heap.size + 3, 0, none⟩ (.int .i64 0))).same D _ hD9 rfl
                  have hk2' := blk_put hDF (.deferred none) ((((HK92.out.set_ 0 (.slice At ty.length ctt)).set_ 1 (.slice Av F'.length cv)).set_ 2 (.slice A9 (es.length + 1) c9)).far (by simp) (.int .i64 0))
                  have hk3' := blk_put hDF (.deferred none) (((((HK93.out.far (p := ⟨w.heap.size + 2, 0, none⟩) (by simp) (.slice At ty.length ctt)).far (p := ⟨w.heap.size + 2, 1, none⟩) (by simp) (.slice Av F'.length cv)).far (p := ⟨w.heap.size + 2, 2, none⟩) (by simp) (.slice A9 (es.length + 1) c9)).set_ 0 (.int .i64 0)))
                  obtain ⟨⟨q0, q1, q2⟩, _⟩ := blk_cells3 hk2'
                  obtain ⟨p0, _⟩ := blk_cell1 hk3'
                  refine ⟨by simp, .inl ⟨_, _, rfl, run_takeDeferred hDF, ?_⟩⟩
                  refine ⟨.tuple #[.agg #[.slice At ty.length ctt, .slice Av F'.length cv, .slice A9 (es.length + 1) c9], .int .i64 0], by simp [results, Try.f16, go_sem, q0, q1, q2, p0], ?_⟩
                  show POST _ _
                  rw [HPO.out]
                  have hzz : w.heap.size ≤ w5.heap.size := by omega
                  have hes9 : w9.ownsRow w5.heap.size 27 1 (.slice A9 (es ++ [e]).length c9) (es ++ [e]).length (ids (es ++ [e])) := by
                    have h9 := HO9.out
                    rw [ids_app, List.length_append]
                    exact h9
                  have hfr : TabFresh w9 w.heap.size ⟨At, ty.length, ctt, ty, Av, F'.length, cv, F', A9, (es ++ [e]).length, c9, es ++ [e]⟩ :=
                    ⟨(idFresh_own HOT9.out HTW.out).base (by first | exact hzz | exact Nat.le_trans hzz hbb0.size | exact Nat.le_trans hzz hbb1.size | exact Nat.le_trans hzz hbb2.size), HC9.out, HF9.out, (idFresh_own hes9 (fun y hy => by rcases List.mem_append.1 hy with hy | hy; exact HEW.out y hy; rw [List.mem_singleton] at hy; subst hy; exact hwe)).base hzz⟩
                  have hfr2 := (hfr.set3 HK92.out (.slice At ty.length ctt) (.slice Av F'.length cv) (.slice A9 (es.length + 1) c9)).other (w' := _) (g := w.heap.size + 3) (fun i hi => Below.heap_setCell _ ⟨w.heap.size + 3, 0, none⟩ (.int .i64 0) _ (by simpa using hi)) (by simp) (noRow_blk (((HK93.out.far (p := ⟨w.heap.size + 2, 0, none⟩) (by simp) (.slice At ty.length ctt)).far (p := ⟨w.heap.size + 2, 1, none⟩) (by simp) (.slice Av F'.length cv)).far (p := ⟨w.heap.size + 2, 2, none⟩) (by simp) (.slice A9 (es.length + 1) c9)) (by decide))
                  have hfr3 := hfr2.other (w' := _) (g := D) (fun i hi => World.putObj_heap_other hi) (grownBy_putObj' _ D (.deferred none)).size (noRow_def hDF)
                  exact ⟨_, rfl, ⟨⟨At, ty.length, ctt, ty, Av, F'.length, cv, F', A9, (es ++ [e]).length, c9, es ++ [e]⟩, by unfold Tab.V; simp only [List.length_append, List.length_cons, List.length_nil], by unfold Tab.p; simp only; rw [HL3.out], hfr3⟩,
                    (Below.setCell (below_set3 (HV5.out.trans (HG9.out.mono hzz)) (by omega)) (by show w.heap.size ≤ w.heap.size + 3; omega) _).trans (belowK_b (w := w) (Nat.le_refl _) _ D _ _ (by have := hb9.size; have := hB.size; omega) hDF rfl rfl)⟩
            · go_simp
              have hs0 : Below wd.heap.size wd (wd.alloc (.cells #[.int .u64 e] 27)) := (Below.refl _ _).alloc (Nat.le_refl _) _
              have hkl := Blk.new wd 27 #[.int .u64 e]
              have hbb1 := hbb0.trans (hs0.mono hbb0.size)
              refine hK.out _ _ ⟨cell_below' hbb1 s0' hl0, cell_below' hbb1 s2' hl0⟩ (fun hHeld => ?_)
              clear hK K
              obtain ⟨wl0, hwl⟩ : ∃ wl0, wl0 = wd.alloc (.cells #[.int .u64 e] 27) := ⟨_, rfl⟩
              generalize wd.alloc (.cells #[.int .u64 e] 27) = wm0 at *
              clear hwl
              try simp only [Act.put, List.getElem_toArray, List.getElem_cons_succ, List.getElem_cons_zero, List.setIfInBounds_toArray, List.set_cons_zero, List.set_cons_succ]
              refine wpAnyH_ready (rs := [2]) (by kernel_rfl) (by simp) (AllReadyH.cons (o := _) rfl (fun K hK => ?_) AllReadyH.nil)
              · go_simp
                refine (cu _ (HB5.out.trans (hbb1.mono HB5.out.size))).mono ?_
                rintro en wa1 ⟨vt, rfl, hot, hs1⟩
                obtain ⟨At, ctt, rfl⟩ := own_slice hot
                have hbb2 := hbb1.trans (hs1.mono hbb1.size)
                have hkl := blk_below hkl hs1
                refine hK.out _ _ ⟨cell_below' hbb2 s0' hl0, cell_below' hbb2 s2' hl0⟩ (fun hHeld => ?_)
                clear hK K
                try simp only [Act.put, List.getElem_toArray, List.getElem_cons_succ, List.getElem_cons_zero, List.setIfInBounds_toArray, List.set_cons_zero, List.set_cons_succ]
                refine wpAnyH_ready (rs := [6]) (by kernel_rfl) (by simp) (AllReadyH.cons (o := _) rfl (fun K hK => ?_) AllReadyH.nil)
                · go_simp
                  refine (co _ (HB5.out.trans (hbb2.mono HB5.out.size))).mono ?_
                  rintro en wa2 ⟨ve, rfl, hoe, hs2⟩
                  obtain ⟨Ae, cee, rfl⟩ := own_slice hoe
                  have hbb3 := hbb2.trans (hs2.mono hbb2.size)
                  have hdist := own_new hot hoe
                  have hot := own_below hot hs2
                  have hkl := blk_below hkl hs2
                  refine hK.out _ _ ⟨cell_below' hbb3 s0' hl0, cell_below' hbb3 s2' hl0⟩ (fun hHeld => ?_)
                  clear hK K
                  try simp only [Act.put, List.getElem_toArray, List.getElem_cons_succ, List.getElem_cons_zero, List.setIfInBounds_toArray, List.set_cons_zero, List.set_cons_succ]
                  have hrl := reads_blk hkl
                  refine wpAnyH_ready (rs := [9]) (by kernel_rfl) (by simp) (AllReadyH.cons (o := _) rfl (fun K hK => ?_) AllReadyH.nil)
                  refine step_append_any _ rfl (.tmp 86) (.tmp 88) 22 rfl w5.heap.size 27 i0 _ 1 8 Try.underlying22 hi0 hz0 hz1 hz2 rfl (by omega) _ es.length (ids es) (by rfl) (base_le hoe ?_) _ _ 1 1 [.int .u64 e] (by rfl) hrl (by simp [Value.oneCell']) ?_ ?_ hbb3.size ?_
                  · first | exact Nat.le_refl _ | exact hbb1.size | exact hbb2.size
                  · have := HLN.out; simp only [maxLen]; omega
                  · have := HLN.out; omega
                  intro v9 w9 ho9 hg9 hat9
                  have hot9 := hot.kept hg9 hdist
                  have hb9' : Below w5.heap.size w5 w9 := own_grown_below hbb3 (base_le hoe (by first | exact Nat.le_refl _ | exact hbb1.size | exact hbb2.size)) hg9
                  have hc9 := own_other (own_below HC5.out hbb3) hoe (by decide) hg9
                  have hf9 : ∀ x ∈ F', ColFresh w9 w.heap.size x := fun x hx => colFresh_grown ((HF5.out x hx).below hbb3) hoe (by decide) hg9
                  have hk92 := HK52.out.below hb9' (by have := HL5.out; omega)
                  have hk93 := HK53.out.below hb9' HL5.out
                  obtain ⟨A9, c9, rfl⟩ := own_slice ho9
                  obtain ⟨⟨q0, q1, q2⟩, qf⟩ := blk_cells3 hk92
                  obtain ⟨p0, pf⟩ := blk_cell1 hk93
                  have qf0 := qf 0
                  have qf1 := qf 1
                  have qf2 := qf 2
                  have HOT9 := Lib.hid hot9
                  have HO9 := Lib.hid ho9
                  have HC9 := Lib.hid hc9
                  have HF9 := Lib.hid hf9
                  have HK92 := Lib.hid hk92
                  have HK93 := Lib.hid hk93
                  have HG9 := Lib.hid hb9'
                  clear qf hot9 ho9 hc9 hf9 hk92 hk93 hg9 hat9 hrl
                  refine hK.out _ _ ⟨cell_below' HG9.out s0' hl0, cell_below' HG9.out s2' hl0⟩ (fun hHeld => ?_)
                  clear hK K
                  try simp only [Act.put, List.getElem_toArray, List.getElem_cons_succ, List.getElem_cons_zero, List.setIfInBounds_toArray, List.set_cons_zero, List.set_cons_succ]
                  refine wpAnyH_take (i := 10) (oi := _) (v := ?_) rfl (by kernel_rfl) (by kernel_rfl) (by kernel_rfl) (fun _ _ _ h => h) (Or.inl ⟨by rfl, ?_⟩) hHeld ?_
                  rotate_left
                  · intro w hSw; obtain ⟨s0, s2⟩ := hSw; go_simp; try with_reducible rfl
                  simp only [Act.put, List.getElem_toArray, List.getElem_cons_succ, List.getElem_cons_zero, List.setIfInBounds_toArray, List.set_cons_zero, List.set_cons_succ]
                  refine wpAnyH_ready (rs := [11]) (by kernel_rfl) (by simp) (AllReadyH.cons (o := _) rfl (fun K hK => ?_) AllReadyH.nil)
                  go_simp
                  skip
                  refine hK.out _ _ ⟨far3 _ _ _ trivial (cell_below' HG9.out s0' hl0) (by omega), far3 _ _ _ trivial (cell_below' HG9.out s2' hl0) (by omega)⟩ (fun hHeld => ?_)
                  clear hK K
                  try simp only [Act.put, List.getElem_toArray, List.getElem_cons_succ, List.getElem_cons_zero, List.setIfInBounds_toArray, List.set_cons_zero, List.set_cons_succ]
                  refine wpAnyH_ready (rs := [12]) (by kernel_rfl) (by simp) (AllReadyH.cons (o := _) rfl (fun K hK => ?_) AllReadyH.nil)
                  go_simp
                  skip
                  refine hK.out _ _ ⟨farc _ (by omega) (far3 _ _ _ trivial (cell_below' HG9.out s0' hl0) (by omega)), farc _ (by omega) (far3 _ _ _ trivial (cell_below' HG9.out s2' hl0) (by omega))⟩ (fun hHeld => ?_)
                  clear hK K
                  try simp only [Act.put, List.getElem_toArray, List.getElem_cons_succ, List.getElem_cons_zero, List.setIfInBounds_toArray, List.set_cons_zero, List.set_cons_succ]
                  refine wpAnyH_done (by kernel_rfl) (NoPanic.normal ?_) _
                  go_wp2
                  have hD9 : w9.heap[D]? = some (.deferred (some [])) := (HG9.out.block D hDlt).trans HDD.out
                  have hDF := ((((KeepsOthers.setCell w9 ⟨w.heap.size + 2, 0, none⟩ (.slice At ty.length ctt)).trans (KeepsOthers.setCell _ ⟨w.heap.size + 2, 1, none⟩ (.slice Av F'.length cv))).trans (KeepsOthers.setCell _ ⟨w.heap.size + 2, 2, none⟩ (.slice A9 (es.length + 1) c9))).trans (KeepsOthers.setCell _ ⟨w.heap.size + 3, 0, none⟩ (.int .i64 0))).same D _ hD9 rfl
                  have hk2' := blk_put hDF (.deferred none) ((((HK92.out.set_ 0 (.slice At ty.length ctt)).set_ 1 (.slice Av F'.length cv)).set_ 2 (.slice A9 (es.length + 1) c9)).far (by simp) (.int .i64 0))
                  have hk3' := blk_put hDF (.deferred none) (((((HK93.out.far (p := ⟨w.heap.size + 2, 0, none⟩) (by simp) (.slice At ty.length ctt)).far (p := ⟨w.heap.size + 2, 1, none⟩) (by simp) (.slice Av F'.length cv)).far (p := ⟨w.heap.size + 2, 2, none⟩) (by simp) (.slice A9 (es.length + 1) c9)).set_ 0 (.int .i64 0)))
                  obtain ⟨⟨q0, q1, q2⟩, _⟩ := blk_cells3 hk2'
                  obtain ⟨p0, _⟩ := blk_cell1 hk3'
                  refine ⟨by simp, .inl ⟨_, _, rfl, run_takeDeferred hDF, ?_⟩⟩
                  refine ⟨.tuple #[.agg #[.slice At ty.length ctt, .slice Av F'.length cv, .slice A9 (es.length + 1) c9], .int .i64 0], by simp [results, Try.f16, go_sem, q0, q1, q2, p0], ?_⟩
                  show POST _ _
                  rw [HPO.out]
                  have hzz : w.heap.size ≤ w5.heap.size := by omega
                  have hes9 : w9.ownsRow w5.heap.size 27 1 (.slice A9 (es ++ [e]).length c9) (es ++ [e]).length (ids (es ++ [e])) := by
                    have h9 := HO9.out
                    rw [ids_app, List.length_append]
                    exact h9
                  have hfr : TabFresh w9 w.heap.size ⟨At, ty.length, ctt, ty, Av, F'.length, cv, F', A9, (es ++ [e]).length, c9, es ++ [e]⟩ :=
                    ⟨(idFresh_own HOT9.out HTW.out).base (by first | exact hzz | exact Nat.le_trans hzz hbb0.size | exact Nat.le_trans hzz hbb1.size | exact Nat.le_trans hzz hbb2.size), HC9.out, HF9.out, (idFresh_own hes9 (fun y hy => by rcases List.mem_append.1 hy with hy | hy; exact HEW.out y hy; rw [List.mem_singleton] at hy; subst hy; exact hwe)).base hzz⟩
                  have hfr2 := (hfr.set3 HK92.out (.slice At ty.length ctt) (.slice Av F'.length cv) (.slice A9 (es.length + 1) c9)).other (w' := _) (g := w.heap.size + 3) (fun i hi => Below.heap_setCell _ ⟨w.heap.size + 3, 0, none⟩ (.int .i64 0) _ (by simpa using hi)) (by simp) (noRow_blk (((HK93.out.far (p := ⟨w.heap.size + 2, 0, none⟩) (by simp) (.slice At ty.length ctt)).far (p := ⟨w.heap.size + 2, 1, none⟩) (by simp) (.slice Av F'.length cv)).far (p := ⟨w.heap.size + 2, 2, none⟩) (by simp) (.slice A9 (es.length + 1) c9)) (by decide))
                  have hfr3 := hfr2.other (w' := _) (g := D) (fun i hi => World.putObj_heap_other hi) (grownBy_putObj' _ D (.deferred none)).size (noRow_def hDF)
                  exact ⟨_, rfl, ⟨⟨At, ty.length, ctt, ty, Av, F'.length, cv, F', A9, (es ++ [e]).length, c9, es ++ [e]⟩, by unfold Tab.V; simp only [List.length_append, List.length_cons, List.length_nil], by unfold Tab.p; simp only; rw [HL3.out], hfr3⟩,
                    (Below.setCell (below_set3 (HV5.out.trans (HG9.out.mono hzz)) (by omega)) (by show w.heap.size ≤ w.heap.size + 3; omega) _).trans (belowK_b (w := w) (Nat.le_refl _) _ D _ _ (by have := hb9.size; have := hB.size; omega) hDF rfl rfl)⟩
    · have hE : tpuE t e G = 2 := by unfold tpuE; rw [hb0, if_pos rfl, if_neg hkd]
      have hP : tpuP t e G = noT := by unfold tpuP; rw [hE, if_neg (by decide)]
      rw [hE, hP]
      have hkb := kd_bd e
      have hways : ((kd e != 1) = true) ∨ (kd e = 1 ∧ ((vn : Int) != (t.Cn : Int)) = true) := by
        by_cases h1 : kd e = 1
        · refine .inr ⟨h1, ?_⟩
          have : G.length ≠ t.F.length := fun h2 => hkd ⟨h1, h2⟩
          simp; omega
        · exact .inl (by simpa using h1)
      clear hkd
      generalize kd e = ke at *
      generalize pa e = ip at *
      generalize pb e = ipb at *
      unfold Tab.V at ct ⊢
      obtain ⟨TA, Tn, Tc, ty, CA, Cn, Cc, F, EA, En, Ec, es⟩ := t
      simp only at *
      clear hW0 hsz h hs k0 k1 k2 k3 hT hlen hGl hb0 hE hP zz hR hG hn
      rcases hways with h1 | ⟨h1, h2⟩
      all_goals
        try subst h1
        go_enter Try.func16, Try.ntmps16
        go_upto_region 1 with fail
        rw [← HW.out]
        go_wp2_with (first
          | (go_at_call 64; ((with_reducible refine (cp _).mono ?_); rintro en w2 ⟨rfl, hb2⟩; have hb3 := hb2.alloc hb2.size (.cells #[.int .i64 ip] 3); obtain ⟨z0, z1, z2, z3, zb⟩ := HZ.out _ hb3; obtain ⟨⟨z0, y1, y2⟩, _⟩ := blk_cells3 z0; clear z1 z2 z3))
          | (go_at_call 34; ((with_reducible refine (ct _ hb3).mono ?_); rintro en w4 ⟨rfl, hb4⟩; have hb5 := hb3.trans (hb4.mono hb3.size)))
          | (go_at_call 65; ((with_reducible refine (ck _).mono ?_); rintro en w6 ⟨rfl, hb6⟩; have hb7 := hb5.trans (hb6.mono hb5.size); obtain ⟨u0, u1, u2, u3, ub⟩ := HZ.out _ hb7; obtain ⟨⟨r0, r1, r2⟩, _⟩ := blk_cells3 u0; obtain ⟨l0, _⟩ := blk_cell1 u1; obtain ⟨⟨q0, q1, q2⟩, qf⟩ := blk_cells3 u2; obtain ⟨p0, pf⟩ := blk_cell1 u3; have qf0 := qf 0; have qf1 := qf 1; have qf2 := qf 2; clear u0 u1 u2 u3 qf))
          | fail)
        refine bodyPost_ret (v := .tuple #[.agg #[.slice none 0 0, .slice none 0 0, .slice none 0 0], .int .i64 2]) (by simp [results, Try.results16, go_sem, *]) rfl ?_
        exact setR_nil 2 (Below.setCell (below_set3 ub (by omega)) (by show w.heap.size ≤ w.heap.size + 3; omega) _)
end Go.Proofs.Ytbcbknajhdaneaa
