/- What is proved: the document's Check of a row moved. -/
import Derived.Test.YtbcbknajhdaneaaQSc1
namespace Go.Proofs.Ytbcbknajhdaneaa
open Go.RowKit Go.Maps
set_option linter.unusedVariables false
set_option linter.unusedSimpArgs false
theorem ixGo_ways (v : Int) : ∀ (l : List Int) (k : Nat), (ixGo v l k = -1 ∧ v ∉ l) ∨ ∃ j : Nat, ixGo v l k = ((k + j : Nat) : Int) ∧ l[j]? = some v
  | [], _ => .inl ⟨rfl, by simp⟩
  | x :: l, k => by
    rw [ixGo_eq]
    by_cases h : x = v
    · subst h
      rw [if_pos (by simp)]
      exact .inr ⟨0, by simp, rfl⟩
    · rw [if_neg (by simpa using h)]
      rcases ixGo_ways v l (k + 1) with ⟨h1, h2⟩ | ⟨j, h1, h2⟩
      · exact .inl ⟨h1, by simp only [List.mem_cons, not_or]; exact ⟨fun e => h e.symm, h2⟩⟩
      · exact .inr ⟨j + 1, by rw [h1]; omega, by simpa using h2⟩
theorem ixD_ways (l : List Int) (v : Int) : (ixD l v = -1 ∧ v ∉ l) ∨ ∃ j : Nat, ixD l v = (j : Int) ∧ l[j]? = some v := by
  rcases ixGo_ways v l 0 with h | ⟨j, h1, h2⟩
  · exact .inl h
  · exact .inr ⟨j, by unfold ixD; rw [h1]; omega, h2⟩
/-- what both types have is as wide in both, up to a column -/
def WidOk (f to : Tab) (n : Nat) : Prop := ∀ (k i : Nat) (id : Int) (x y : Col), k < n → f.ty[k]? = some id → to.ty[i]? = some id → f.F[k]? = some x → to.F[i]? = some y → x.W = y.W
/-- how Check answers -/
def ChkP (f to : Tab) (row r : Int) : Prop :=
  ((tabB f && tabB to) = false ∧ r = 190) ∨ ((tabB f && tabB to) = true ∧ (row < 0 ∨ (f.es.length : Int) ≤ row) ∧ r = 2) ∨
    ((tabB f && tabB to) = true ∧ ∃ q : Nat, row = (q : Int) ∧ q < f.es.length ∧ ((¬ WidOk f to f.ty.length ∧ r = 231) ∨ (WidOk f to f.ty.length ∧ r = if hasI to.es (idx (idAt f.es q)) then 5 else 0)))
set_option maxRecDepth 100000 in
set_option maxHeartbeats 16000000 in
theorem rcheck_any (f to : Tab) (row : Int) (w : World) (hf : TabOk w w.heap.size f) (ht : TabOk w w.heap.size to) (sf : TabSm f) (st : TabSm to) (hnf : f.Tn ≤ 65536) (hij : tabB to = true → Inj to.ty) :
    Calls Try.prog 51 #[f.V, to.V, .int .i64 row] w fun e w' => ∃ r, e = .returned (.int .i64 r) ∧ ChkP f to row r ∧ Below w.heap.size w w' := by
  obtain ⟨W0, hW0, hB, hsz, k0, k1⟩ := two_blk w 25 25 #[.slice f.TA f.Tn f.Tc, .slice f.CA f.Cn f.Cc, .slice f.EA f.En f.Ec] #[.slice to.TA to.Tn to.Tc, .slice to.CA to.Cn to.Cc, .slice to.EA to.En to.Ec]
  have hTf := fun (W : World) (h : Below W0.heap.size W0 W) => (hf.keep (hB.trans (h.mono hB.size))).more (hB.trans (h.mono hB.size)).size
  have hTt := fun (W : World) (h : Below W0.heap.size W0 W) => (ht.keep (hB.trans (h.mono hB.size))).more (hB.trans (h.mono hB.size)).size
  have cf := fun (W : World) (h : Below W0.heap.size W0 W) => rtab_any f W (hTf W h) ⟨sf.1, sf.2.1, sf.2.2.1⟩
  have ct := fun (W : World) (h : Below W0.heap.size W0 W) => rtab_any to W (hTt W h) ⟨st.1, st.2.1, st.2.2.1⟩
  have ccol := fun (id : Int) (W : World) (h : Below W0.heap.size W0 W) => rcolumn_any to id W (hTt W h) st.1
  have chas := fun (x : Int) (W : World) (h : Below W0.heap.size W0 W) => rhas_any to.EA to.En to.Ec to.es x W (hTt W h).es ht.esw st.2.2.1
  obtain ⟨⟨c0, c1, c2⟩, _⟩ := blk_cells3 k0
  obtain ⟨⟨d0, d1, d2⟩, _⟩ := blk_cells3 k1
  have hlf := hf.len
  have hlt := ht.len
  have HW := Lib.hid hW0
  have HB := Lib.hid hB
  have HK := Lib.hid (fun (W : World) (h : Below W0.heap.size W0 W) => And.intro (blk_cells3 (blk_below k0 h)).1 (blk_cells3 (blk_below k1 h)).1)
  have HTF := Lib.hid hTf
  have HTT := Lib.hid hTt
  have HLF := Lib.hid hlf
  have HLT := Lib.hid hlt
  have HIJ := Lib.hid hij
  have HWF := Lib.hid hf.esw
  have HWT := Lib.hid hf.tyw
  have HSZ := Lib.hid hsz
  unfold Tab.V at cf ct ccol ⊢
  clear hW0 hB hsz k0 k1 hf ht hTf hTt sf st hlf hlt hij
  cases hbf : tabB f
  · rw [hbf] at cf
    have HP : Hid (ChkP f to row 190) := Lib.hid (.inl ⟨by rw [hbf]; rfl, rfl⟩)
    clear hbf
    go_enter Try.func51, Try.ntmps51
    go_upto_region 1 with fail
    rw [← HW.out]
    go_wp2_with (first
      | (go_at_call 17; ((with_reducible refine (cf _ (Below.refl _ _)).mono ?_); rintro en w2 ⟨rfl, hb2⟩))
      | fail)
    go_ret
    exact ⟨_, rfl, HP.out, HB.out.trans (hb2.mono HB.out.size)⟩
  · rw [hbf] at cf
    cases hbt : tabB to
    · rw [hbt] at ct
      have HP : Hid (ChkP f to row 190) := Lib.hid (.inl ⟨by rw [hbf, hbt]; rfl, rfl⟩)
      clear hbf hbt
      go_enter Try.func51, Try.ntmps51
      go_upto_region 1 with fail
      rw [← HW.out]
      go_wp2_with (first
        | (go_at_call 17; (first | ((with_reducible refine (cf _ (Below.refl _ _)).mono ?_); rintro en w2 ⟨rfl, hb2⟩; obtain ⟨⟨c0, c1, c2⟩, ⟨d0, d1, d2⟩⟩ := HK.out _ hb2; clear cf) | ((with_reducible refine (ct _ hb2).mono ?_); rintro en w3 ⟨rfl, hb3⟩)))
        | fail)
      go_ret
      exact ⟨_, rfl, HP.out, HB.out.trans ((hb2.trans (hb3.mono hb2.size)).mono HB.out.size)⟩
    · rw [hbt] at ct
      have hyes : (tabB f && tabB to) = true := by rw [hbf, hbt]; rfl
      have HY := Lib.hid hyes
      have HINJ := Lib.hid (HIJ.out hbt)
      have HFC := Lib.hid (And.intro (tabB_parts hbf).2.1 (tabB_parts hbt).2.1)
      clear hbf hbt hyes HIJ
      by_cases hrow : row < 0 ∨ (f.es.length : Int) ≤ row
      · have HP : Hid (ChkP f to row 2) := Lib.hid (.inr (.inl ⟨HY.out, hrow, rfl⟩))
        rw [HLF.out.2.2] at hrow
        rcases (show row < 0 ∨ (¬ row < 0 ∧ (f.En : Int) ≤ row) from by omega) with i1 | ⟨i1, i2⟩
        · have i3 : decide (row < 0) = true := decide_eq_true i1
          clear hrow
          go_enter Try.func51, Try.ntmps51
          go_upto_region 1 with fail
          rw [← HW.out]
          go_wp2_with (first
            | (go_at_call 17; (first | ((with_reducible refine (cf _ (Below.refl _ _)).mono ?_); rintro en w2 ⟨rfl, hb2⟩; obtain ⟨⟨c0, c1, c2⟩, ⟨d0, d1, d2⟩⟩ := HK.out _ hb2; clear cf) | ((with_reducible refine (ct _ hb2).mono ?_); rintro en w3 ⟨rfl, hb3⟩; have hb23 := hb2.trans (hb3.mono hb2.size); obtain ⟨⟨c0, c1, c2⟩, ⟨d0, d1, d2⟩⟩ := HK.out _ hb23)))
            | fail)
          go_ret
          exact ⟨_, rfl, HP.out, HB.out.trans (hb23.mono HB.out.size)⟩
        · have i3 : decide (row < 0) = false := decide_eq_false i1
          have i4 : decide ((f.En : Int) ≤ row) = true := decide_eq_true i2
          clear hrow
          go_enter Try.func51, Try.ntmps51
          go_upto_region 1 with fail
          rw [← HW.out]
          go_wp2_with (first
            | (go_at_call 17; (first | ((with_reducible refine (cf _ (Below.refl _ _)).mono ?_); rintro en w2 ⟨rfl, hb2⟩; obtain ⟨⟨c0, c1, c2⟩, ⟨d0, d1, d2⟩⟩ := HK.out _ hb2; clear cf) | ((with_reducible refine (ct _ hb2).mono ?_); rintro en w3 ⟨rfl, hb3⟩; have hb23 := hb2.trans (hb3.mono hb2.size); obtain ⟨⟨c0, c1, c2⟩, ⟨d0, d1, d2⟩⟩ := HK.out _ hb23)))
            | fail)
          go_ret
          exact ⟨_, rfl, HP.out, HB.out.trans (hb23.mono HB.out.size)⟩
      · obtain ⟨q, rfl⟩ : ∃ q : Nat, row = q := ⟨row.toNat, by omega⟩
        have hq : q < f.es.length := by omega
        have i1 : ¬ ((q : Int) < 0) := by omega
        have i3 : decide ((q : Int) < 0) = false := decide_eq_false i1
        have i2 : ¬ ((f.En : Int) ≤ (q : Int)) := by rw [← HLF.out.2.2]; omega
        have i4 : decide ((f.En : Int) ≤ (q : Int)) = false := decide_eq_false i2
        have i5 : decide (f.En ≤ q) = false := decide_eq_false (by rw [← HLF.out.2.2]; omega)
        have HQ := Lib.hid hq
        clear hrow hq
        go_enter Try.func51, Try.ntmps51
        go_upto_region 1 with fail
        rw [← HW.out]
        go_upto_region 5 with (first
          | (go_at_call 17; (first | ((with_reducible refine (cf _ (Below.refl _ _)).mono ?_); rintro en w2 ⟨rfl, hb2⟩; obtain ⟨⟨c0, c1, c2⟩, ⟨d0, d1, d2⟩⟩ := HK.out _ hb2; clear cf) | ((with_reducible refine (ct _ hb2).mono ?_); rintro en w3 ⟨rfl, hb3⟩; have hb23 := hb2.trans (hb3.mono hb2.size); obtain ⟨⟨c0, c1, c2⟩, ⟨d0, d1, d2⟩⟩ := HK.out _ hb23)))
          | fail)
        clear ct
        obtain ⟨TAv, hTAv⟩ : ∃ Z, Z = f.TA := ⟨_, rfl⟩
        rw [← hTAv] at c0 ⊢
        have HTAV := Lib.hid hTAv
        clear hTAv
        go_upto_region 6 with fail
        try simp only [i5]
        have hb0 := hb23
        have HB0 := Lib.hid hb23
        clear c0 c1 c2 d0 d1 d2 hb2 hb3 hb23
        go_loopw [30] (fun i wr => ∃ k : Nat, k ≤ f.Tn ∧ i = .int .i64 k ∧ WidOk f to k ∧ Below W0.heap.size W0 wr)
          (fun i _ => f.Tn - (intOf i).toNat)
        case atStart => exact ⟨0, Nat.zero_le _, rfl, fun k i id x y hk => absurd hk (by omega), HB0.out⟩
        case round =>
          obtain ⟨k, hk, rfl, hwo, hb⟩ := hrel
          have HWO := Lib.hid hwo
          clear hwo
          by_cases hlt : k < f.Tn
          · have e1 := List.getElem?_eq_getElem (l := f.ty) (i := k) (by rw [HLF.out.1]; exact hlt)
            generalize f.ty[k]'(by rw [HLF.out.1]; exact hlt) = id at e1
            have e2 := List.getElem?_eq_getElem (l := f.F) (i := k) (by rw [HFC.out.1, HLF.out.1]; exact hlt)
            generalize f.F[k]'(by rw [HFC.out.1, HLF.out.1]; exact hlt) = x at e2
            have hT1 := HTF.out wr hb
            obtain ⟨bl, ol, hTA, hbl, g⟩ := ids_cell hT1.ty e1
            obtain rfl : TAv = some ⟨bl, ol, none⟩ := HTAV.out.trans hTA
            have HE1 := Lib.hid e1
            have HE2 := Lib.hid e2
            obtain ⟨⟨c0, c1, c2⟩, ⟨d0, d1, d2⟩⟩ := HK.out wr hb
            have i9 : (k : Int) < (f.Tn : Int) := by omega
            have cc := ccol id wr hb
            clear e1 e2 hTA hT1 ccol chas c0 c2
            rcases ixD_ways to.ty id with ⟨hix, hno⟩ | ⟨j, hix, hj⟩
            · rw [hix] at cc
              have hnext : WidOk f to (k + 1) := fun k' i id' x' y' hk' h1 h2 h3 h4 => by
                by_cases hkk : k' = k
                · subst hkk
                  rw [HE1.out] at h1; injection h1 with h1; subst h1
                  exact absurd (List.mem_of_getElem? h2) hno
                · exact HWO.out k' i id' x' y' (by omega) h1 h2 h3 h4
              have HNX := Lib.hid hnext
              clear hix hno hnext
              go_upto_region 9 with (first
                | (go_at_call 32; ((with_reducible refine cc.mono ?_); rintro en w6 ⟨rfl, hb6⟩))
                | fail)
              refine wp_region_held_drew (S := fun _ => True) (by kernel_rfl) trivial (fun hHeld => ?_)
              refine wpAnyH_take (i := 0) (oi := _) (v := ?_) rfl (by kernel_rfl) (by kernel_rfl) (by kernel_rfl) (fun _ _ _ h => h) (Or.inl ⟨by rfl, ?_⟩) hHeld ?_
              rotate_left
              · intro w hSw; go_simp; try with_reducible rfl
              simp only [Act.put, List.getElem_toArray, List.getElem_cons_succ, List.getElem_cons_zero, List.setIfInBounds_toArray, List.set_cons_zero, List.set_cons_succ]
              refine wpAnyH_take (i := 1) (oi := _) (v := ?_) rfl (by kernel_rfl) (by kernel_rfl) (by kernel_rfl) (fun _ _ _ h => h) (Or.inl ⟨by rfl, ?_⟩) hHeld ?_
              rotate_left
              · intro w hSw; go_simp; try with_reducible rfl
              simp only [Act.put, List.getElem_toArray, List.getElem_cons_succ, List.getElem_cons_zero, List.setIfInBounds_toArray, List.set_cons_zero, List.set_cons_succ]
              refine wpAnyH_take (i := 2) (oi := _) (v := ?_) rfl (by kernel_rfl) (by kernel_rfl) (by kernel_rfl) (fun _ _ _ h => h) (Or.inl ⟨by rfl, ?_⟩) hHeld ?_
              rotate_left
              · intro w hSw; go_simp; try with_reducible rfl
              simp only [Act.put, List.getElem_toArray, List.getElem_cons_succ, List.getElem_cons_zero, List.setIfInBounds_toArray, List.set_cons_zero, List.set_cons_succ]
              refine wpAnyH_take (i := 3) (oi := _) rfl (by kernel_rfl) (by kernel_rfl) (by kernel_rfl) (fun _ _ _ h => h) (Or.inr ⟨by rfl, rfl⟩) hHeld ?_
              simp only [Act.put, List.getElem_toArray, List.getElem_cons_succ, List.getElem_cons_zero, List.setIfInBounds_toArray, List.set_cons_zero, List.set_cons_succ]
              refine wpAnyH_take (i := 4) (oi := _) rfl (by kernel_rfl) (by kernel_rfl) (by kernel_rfl) (fun _ _ _ h => h) (Or.inr ⟨by rfl, rfl⟩) hHeld ?_
              simp only [Act.put, List.getElem_toArray, List.getElem_cons_succ, List.getElem_cons_zero, List.setIfInBounds_toArray, List.set_cons_zero, List.set_cons_succ]
              refine wpAnyH_take (i := 5) (oi := _) rfl (by kernel_rfl) (by kernel_rfl) (by kernel_rfl) (fun _ _ _ h => h) (Or.inr ⟨by rfl, rfl⟩) hHeld ?_
              simp only [Act.put, List.getElem_toArray, List.getElem_cons_succ, List.getElem_cons_zero, List.setIfInBounds_toArray, List.set_cons_zero, List.set_cons_succ]
              refine wpAnyH_take (i := 6) (oi := _) rfl (by kernel_rfl) (by kernel_rfl) (by kernel_rfl) (fun _ _ _ h => h) (Or.inr ⟨by rfl, rfl⟩) hHeld ?_
              simp only [Act.put, List.getElem_toArray, List.getElem_cons_succ, List.getElem_cons_zero, List.setIfInBounds_toArray, List.set_cons_zero, List.set_cons_succ]
              refine wpAnyH_take (i := 7) (oi := _) rfl (by kernel_rfl) (by kernel_rfl) (by kernel_rfl) (fun _ _ _ h => h) (Or.inr ⟨by rfl, rfl⟩) hHeld ?_
              simp only [Act.put, List.getElem_toArray, List.getElem_cons_succ, List.getElem_cons_zero, List.setIfInBounds_toArray, List.set_cons_zero, List.set_cons_succ]
              refine wpAnyH_take (i := 8) (oi := _) rfl (by kernel_rfl) (by kernel_rfl) (by kernel_rfl) (fun _ _ _ h => h) (Or.inr ⟨by rfl, rfl⟩) hHeld ?_
              simp only [Act.put, List.getElem_toArray, List.getElem_cons_succ, List.getElem_cons_zero, List.setIfInBounds_toArray, List.set_cons_zero, List.set_cons_succ]
              refine wpAnyH_take (i := 9) (oi := _) rfl (by kernel_rfl) (by kernel_rfl) (by kernel_rfl) (fun _ _ _ h => h) (Or.inr ⟨by rfl, rfl⟩) hHeld ?_
              simp only [Act.put, List.getElem_toArray, List.getElem_cons_succ, List.getElem_cons_zero, List.setIfInBounds_toArray, List.set_cons_zero, List.set_cons_succ]
              refine wpAnyH_take (i := 10) (oi := _) rfl (by kernel_rfl) (by kernel_rfl) (by kernel_rfl) (fun _ _ _ h => h) (Or.inr ⟨by rfl, rfl⟩) hHeld ?_
              simp only [Act.put, List.getElem_toArray, List.getElem_cons_succ, List.getElem_cons_zero, List.setIfInBounds_toArray, List.set_cons_zero, List.set_cons_succ]
              refine wpAnyH_take (i := 11) (oi := _) rfl (by kernel_rfl) (by kernel_rfl) (by kernel_rfl) (fun _ _ _ h => h) (Or.inr ⟨by rfl, rfl⟩) hHeld ?_
              simp only [Act.put, List.getElem_toArray, List.getElem_cons_succ, List.getElem_cons_zero, List.setIfInBounds_toArray, List.set_cons_zero, List.set_cons_succ]
              refine wpAnyH_take (i := 12) (oi := _) rfl (by kernel_rfl) (by kernel_rfl) (by kernel_rfl) (fun _ _ _ h => h) (Or.inr ⟨by rfl, rfl⟩) hHeld ?_
              simp only [Act.put, List.getElem_toArray, List.getElem_cons_succ, List.getElem_cons_zero, List.setIfInBounds_toArray, List.set_cons_zero, List.set_cons_succ]
              refine wpAnyH_take (i := 13) (oi := _) rfl (by kernel_rfl) (by kernel_rfl) (by kernel_rfl) (fun _ _ _ h => h) (Or.inr ⟨by rfl, rfl⟩) hHeld ?_
              simp only [Act.put, List.getElem_toArray, List.getElem_cons_succ, List.getElem_cons_zero, List.setIfInBounds_toArray, List.set_cons_zero, List.set_cons_succ]
              refine wpAnyH_take (i := 14) (oi := _) rfl (by kernel_rfl) (by kernel_rfl) (by kernel_rfl) (fun _ _ _ h => h) (Or.inr ⟨by rfl, rfl⟩) hHeld ?_
              simp only [Act.put, List.getElem_toArray, List.getElem_cons_succ, List.getElem_cons_zero, List.setIfInBounds_toArray, List.set_cons_zero, List.set_cons_succ]
              refine wpAnyH_take (i := 15) (oi := _) rfl (by kernel_rfl) (by kernel_rfl) (by kernel_rfl) (fun _ _ _ h => h) (Or.inr ⟨by rfl, rfl⟩) hHeld ?_
              simp only [Act.put, List.getElem_toArray, List.getElem_cons_succ, List.getElem_cons_zero, List.setIfInBounds_toArray, List.set_cons_zero, List.set_cons_succ]
              refine wpAnyH_take (i := 16) (oi := _) (v := ?_) rfl (by kernel_rfl) (by kernel_rfl) (by kernel_rfl) (fun _ _ _ h => h) (Or.inl ⟨by rfl, ?_⟩) hHeld ?_
              rotate_left
              · intro w hSw; go_simp; try with_reducible rfl
              simp only [Act.put, List.getElem_toArray, List.getElem_cons_succ, List.getElem_cons_zero, List.setIfInBounds_toArray, List.set_cons_zero, List.set_cons_succ]
              refine wpAnyH_done (by kernel_rfl) ?_ _
              clear hHeld
              have hb2 := hb.trans (hb6.drew.mono hb.size)
              go_wp2_with fail
              go_roundw
              case rel => exact ⟨k + 1, by omega, by go_num, HNX.out, hb.trans ((Below.trans (Below.refl _ _) hb6).drew.mono hb.size)⟩
              case measure => simp [intOf]; omega
            · rw [hix] at cc
              have e3 := hj
              have hjl : j < to.F.length := by rw [HFC.out.2]; exact (List.getElem?_eq_some_iff.1 hj).1
              have e4 := List.getElem?_eq_getElem hjl
              generalize to.F[j] = y at e4
              obtain ⟨b1, o1, hCA, hl1, cx⟩ := cols_cells (HTF.out wr hb).cs HE2.out
              obtain ⟨b2, o2, hDA, hl2, cy⟩ := cols_cells (HTT.out wr hb).cs e4
              have hS6 := fun (W : World) (h : Below wr.heap.size wr W) => And.intro (And.intro (show W.cell? ⟨w.heap.size, 1, none⟩ = some (.slice (some ⟨b1, o1, none⟩) f.Cn f.Cc) from by have h9 := (HK.out W (hb.trans (h.mono hb.size))).1.2.1; rw [hCA] at h9; exact h9) (show W.cell? ⟨w.heap.size + 1, 1, none⟩ = some (.slice (some ⟨b2, o2, none⟩) to.Cn to.Cc) from by have h9 := (HK.out W (hb.trans (h.mono hb.size))).2.2.1; rw [hDA] at h9; exact h9)) (And.intro (cx.below h hl1).1 (cy.below h hl2).1)
              have HS6 := Lib.hid hS6
              have HJ := Lib.hid hj
              have HE4 := Lib.hid e4
              have j1 : (k : Int) < (f.Cn : Int) := by have h1 := (List.getElem?_eq_some_iff.1 HE2.out).1; have h2 := HLF.out.2.1; omega
              have j2 : (j : Int) < (to.Cn : Int) := by have h2 := HLT.out.2.1; omega
              have j3 : (0 : Int) ≤ (j : Int) := by omega
              have j4 : decide ((0 : Int) ≤ (j : Int)) = true := decide_eq_true j3
              clear hix hS6 e3 e4 hjl hCA hDA hl1 hl2 cx cy hj
              obtain ⟨xW, xR, xA, xn, xc, xl⟩ := x
              obtain ⟨yW, yR, yA, yn, yc, yl⟩ := y
              go_upto_region 9 with (first
                | (go_at_call 32; ((with_reducible refine cc.mono ?_); rintro en w6 ⟨rfl, hb6⟩))
                | fail)
              obtain ⟨⟨s1', s2'⟩, s3', s4'⟩ := HS6.out w6 hb6
              have HB6 := Lib.hid (hb.trans (hb6.drew.mono hb.size))
              clear hb6 cc
              refine wp_region_held_drew (S := fun w' => (w'.cell? ⟨w.heap.size, 1, none⟩ = some (.slice (some ⟨b1, o1, none⟩) f.Cn f.Cc) ∧ w'.cell? ⟨w.heap.size + 1, 1, none⟩ = some (.slice (some ⟨b2, o2, none⟩) to.Cn to.Cc)) ∧ w'.cell? ⟨b1, o1 + k * 3, none⟩ = some (.int .i64 xW) ∧ w'.cell? ⟨b2, o2 + j * 3, none⟩ = some (.int .i64 yW)) (by kernel_rfl) ⟨⟨s1', s2'⟩, s3', s4'⟩ (fun hHeld => ?_)
              refine wpAnyH_take (i := 0) (oi := _) (v := ?_) rfl (by kernel_rfl) (by kernel_rfl) (by kernel_rfl) (fun _ _ _ h => h) (Or.inl ⟨by rfl, ?_⟩) hHeld ?_
              rotate_left
              · intro w hSw; obtain ⟨⟨s0, s1⟩, s2, s3⟩ := hSw; go_simp; try with_reducible rfl
              simp only [Act.put, List.getElem_toArray, List.getElem_cons_succ, List.getElem_cons_zero, List.setIfInBounds_toArray, List.set_cons_zero, List.set_cons_succ]
              refine wpAnyH_take (i := 1) (oi := _) (v := ?_) rfl (by kernel_rfl) (by kernel_rfl) (by kernel_rfl) (fun _ _ _ h => h) (Or.inl ⟨by rfl, ?_⟩) hHeld ?_
              rotate_left
              · intro w hSw; obtain ⟨⟨s0, s1⟩, s2, s3⟩ := hSw; go_simp; try with_reducible rfl
              simp only [Act.put, List.getElem_toArray, List.getElem_cons_succ, List.getElem_cons_zero, List.setIfInBounds_toArray, List.set_cons_zero, List.set_cons_succ]
              refine wpAnyH_take (i := 2) (oi := _) (v := ?_) rfl (by kernel_rfl) (by kernel_rfl) (by kernel_rfl) (fun _ _ _ h => h) (Or.inl ⟨by rfl, ?_⟩) hHeld ?_
              rotate_left
              · intro w hSw; obtain ⟨⟨s0, s1⟩, s2, s3⟩ := hSw; go_simp; try with_reducible rfl
              simp only [Act.put, List.getElem_toArray, List.getElem_cons_succ, List.getElem_cons_zero, List.setIfInBounds_toArray, List.set_cons_zero, List.set_cons_succ]
              refine wpAnyH_take (i := 3) (oi := _) (v := ?_) rfl (by kernel_rfl) (by kernel_rfl) (by kernel_rfl) (fun _ _ _ h => h) (Or.inl ⟨by rfl, ?_⟩) hHeld ?_
              rotate_left
              · intro w hSw; obtain ⟨⟨s0, s1⟩, s2, s3⟩ := hSw; go_simp; try with_reducible rfl
              simp only [Act.put, List.getElem_toArray, List.getElem_cons_succ, List.getElem_cons_zero, List.setIfInBounds_toArray, List.set_cons_zero, List.set_cons_succ]
              refine wpAnyH_take (i := 4) (oi := _) (v := ?_) rfl (by kernel_rfl) (by kernel_rfl) (by kernel_rfl) (fun _ _ _ h => h) (Or.inl ⟨by rfl, ?_⟩) hHeld ?_
              rotate_left
              · intro w hSw; obtain ⟨⟨s0, s1⟩, s2, s3⟩ := hSw; go_simp; try with_reducible rfl
              simp only [Act.put, List.getElem_toArray, List.getElem_cons_succ, List.getElem_cons_zero, List.setIfInBounds_toArray, List.set_cons_zero, List.set_cons_succ]
              refine wpAnyH_take (i := 5) (oi := _) (v := ?_) rfl (by kernel_rfl) (by kernel_rfl) (by kernel_rfl) (fun _ _ _ h => h) (Or.inl ⟨by rfl, ?_⟩) hHeld ?_
              rotate_left
              · intro w hSw; obtain ⟨⟨s0, s1⟩, s2, s3⟩ := hSw; go_simp; try with_reducible rfl
              simp only [Act.put, List.getElem_toArray, List.getElem_cons_succ, List.getElem_cons_zero, List.setIfInBounds_toArray, List.set_cons_zero, List.set_cons_succ]
              refine wpAnyH_take (i := 6) (oi := _) (v := ?_) rfl (by kernel_rfl) (by kernel_rfl) (by kernel_rfl) (fun _ _ _ h => h) (Or.inl ⟨by rfl, ?_⟩) hHeld ?_
              rotate_left
              · intro w hSw; obtain ⟨⟨s0, s1⟩, s2, s3⟩ := hSw; go_simp; try with_reducible rfl
              simp only [Act.put, List.getElem_toArray, List.getElem_cons_succ, List.getElem_cons_zero, List.setIfInBounds_toArray, List.set_cons_zero, List.set_cons_succ]
              refine wpAnyH_take (i := 7) (oi := _) (v := ?_) rfl (by kernel_rfl) (by kernel_rfl) (by kernel_rfl) (fun _ _ _ h => h) (Or.inl ⟨by rfl, ?_⟩) hHeld ?_
              rotate_left
              · intro w hSw; obtain ⟨⟨s0, s1⟩, s2, s3⟩ := hSw; go_simp; try with_reducible rfl
              simp only [Act.put, List.getElem_toArray, List.getElem_cons_succ, List.getElem_cons_zero, List.setIfInBounds_toArray, List.set_cons_zero, List.set_cons_succ]
              refine wpAnyH_take (i := 8) (oi := _) (v := ?_) rfl (by kernel_rfl) (by kernel_rfl) (by kernel_rfl) (fun _ _ _ h => h) (Or.inl ⟨by rfl, ?_⟩) hHeld ?_
              rotate_left
              · intro w hSw; obtain ⟨⟨s0, s1⟩, s2, s3⟩ := hSw; go_simp; try with_reducible rfl
              simp only [Act.put, List.getElem_toArray, List.getElem_cons_succ, List.getElem_cons_zero, List.setIfInBounds_toArray, List.set_cons_zero, List.set_cons_succ]
              refine wpAnyH_take (i := 9) (oi := _) (v := ?_) rfl (by kernel_rfl) (by kernel_rfl) (by kernel_rfl) (fun _ _ _ h => h) (Or.inl ⟨by rfl, ?_⟩) hHeld ?_
              rotate_left
              · intro w hSw; obtain ⟨⟨s0, s1⟩, s2, s3⟩ := hSw; go_simp; try with_reducible rfl
              simp only [Act.put, List.getElem_toArray, List.getElem_cons_succ, List.getElem_cons_zero, List.setIfInBounds_toArray, List.set_cons_zero, List.set_cons_succ]
              refine wpAnyH_take (i := 10) (oi := _) (v := ?_) rfl (by kernel_rfl) (by kernel_rfl) (by kernel_rfl) (fun _ _ _ h => h) (Or.inl ⟨by rfl, ?_⟩) hHeld ?_
              rotate_left
              · intro w hSw; obtain ⟨⟨s0, s1⟩, s2, s3⟩ := hSw; go_simp; try with_reducible rfl
              simp only [Act.put, List.getElem_toArray, List.getElem_cons_succ, List.getElem_cons_zero, List.setIfInBounds_toArray, List.set_cons_zero, List.set_cons_succ]
              refine wpAnyH_take (i := 11) (oi := _) (v := ?_) rfl (by kernel_rfl) (by kernel_rfl) (by kernel_rfl) (fun _ _ _ h => h) (Or.inl ⟨by rfl, ?_⟩) hHeld ?_
              rotate_left
              · intro w hSw; obtain ⟨⟨s0, s1⟩, s2, s3⟩ := hSw; go_simp; try with_reducible rfl
              simp only [Act.put, List.getElem_toArray, List.getElem_cons_succ, List.getElem_cons_zero, List.setIfInBounds_toArray, List.set_cons_zero, List.set_cons_succ]
              refine wpAnyH_take (i := 12) (oi := _) (v := ?_) rfl (by kernel_rfl) (by kernel_rfl) (by kernel_rfl) (fun _ _ _ h => h) (Or.inl ⟨by rfl, ?_⟩) hHeld ?_
              rotate_left
              · intro w hSw; obtain ⟨⟨s0, s1⟩, s2, s3⟩ := hSw; go_simp; try with_reducible rfl
              simp only [Act.put, List.getElem_toArray, List.getElem_cons_succ, List.getElem_cons_zero, List.setIfInBounds_toArray, List.set_cons_zero, List.set_cons_succ]
              refine wpAnyH_take (i := 13) (oi := _) (v := ?_) rfl (by kernel_rfl) (by kernel_rfl) (by kernel_rfl) (fun _ _ _ h => h) (Or.inl ⟨by rfl, ?_⟩) hHeld ?_
              rotate_left
              · intro w hSw; obtain ⟨⟨s0, s1⟩, s2, s3⟩ := hSw; go_simp; try with_reducible rfl
              simp only [Act.put, List.getElem_toArray, List.getElem_cons_succ, List.getElem_cons_zero, List.setIfInBounds_toArray, List.set_cons_zero, List.set_cons_succ]
              refine wpAnyH_take (i := 14) (oi := _) (v := ?_) rfl (by kernel_rfl) (by kernel_rfl) (by kernel_rfl) (fun _ _ _ h => h) (Or.inl ⟨by rfl, ?_⟩) hHeld ?_
              rotate_left
              · intro w hSw; obtain ⟨⟨s0, s1⟩, s2, s3⟩ := hSw; go_simp; try with_reducible rfl
              simp only [Act.put, List.getElem_toArray, List.getElem_cons_succ, List.getElem_cons_zero, List.setIfInBounds_toArray, List.set_cons_zero, List.set_cons_succ]
              refine wpAnyH_take (i := 15) (oi := _) (v := ?_) rfl (by kernel_rfl) (by kernel_rfl) (by kernel_rfl) (fun _ _ _ h => h) (Or.inl ⟨by rfl, ?_⟩) hHeld ?_
              rotate_left
              · intro w hSw; obtain ⟨⟨s0, s1⟩, s2, s3⟩ := hSw; go_simp; try with_reducible rfl
              simp only [Act.put, List.getElem_toArray, List.getElem_cons_succ, List.getElem_cons_zero, List.setIfInBounds_toArray, List.set_cons_zero, List.set_cons_succ]
              refine wpAnyH_take (i := 16) (oi := _) (v := ?_) rfl (by kernel_rfl) (by kernel_rfl) (by kernel_rfl) (fun _ _ _ h => h) (Or.inl ⟨by rfl, ?_⟩) hHeld ?_
              rotate_left
              · intro w hSw; obtain ⟨⟨s0, s1⟩, s2, s3⟩ := hSw; go_simp; try with_reducible rfl
              simp only [Act.put, List.getElem_toArray, List.getElem_cons_succ, List.getElem_cons_zero, List.setIfInBounds_toArray, List.set_cons_zero, List.set_cons_succ]
              refine wpAnyH_done (by kernel_rfl) ?_ _
              clear hHeld s1' s2' s3' s4'
              by_cases hne : yW = xW
              · subst hne
                have d1 : (yW != yW) = false := by simp
                have hnext : WidOk f to (k + 1) := fun k' i id' x' y' hk' h1 h2 h3 h4 => by
                  by_cases hkk : k' = k
                  · subst hkk
                    rw [HE1.out] at h1; injection h1 with h1; subst h1
                    have hi := HINJ.out i j _ h2 HJ.out
                    subst hi
                    rw [HE2.out] at h3; injection h3 with h3; subst h3
                    rw [HE4.out] at h4; injection h4 with h4; subst h4
                    rfl
                  · exact HWO.out k' i id' x' y' (by omega) h1 h2 h3 h4
                have HNX := Lib.hid hnext
                clear hnext
                go_wp2_with fail
                go_roundw
                case rel => exact ⟨k + 1, by omega, by go_num, HNX.out, HB6.out⟩
                case measure => simp [intOf]; omega
              · have d1 : (yW != xW) = true := by simpa using hne
                have HNE := Lib.hid hne
                clear hne
                go_wp2_with fail
                go_ret
                refine ⟨_, rfl, .inr (.inr ⟨HY.out, q, rfl, HQ.out, .inl ⟨fun hall => ?_, rfl⟩⟩), HB.out.trans (HB6.out.mono HB.out.size)⟩
                exact HNE.out (hall k j id _ _ (by rw [HLF.out.1]; exact hlt) HE1.out HJ.out HE2.out HE4.out).symm
          · have hke : k = f.Tn := by omega
            subst hke
            have hwo : WidOk f to f.ty.length := by rw [HLF.out.1]; exact HWO.out
            have i9 : ¬ ((f.Tn : Int) < (f.Tn : Int)) := by omega
            have e1 := idAt_of HQ.out
            generalize hwho : idAt f.es q = who at *
            have hww := HWF.out who (List.mem_of_getElem? e1)
            have cix := fun (W : World) => ridx_any who hww W
            have hiq : (q : Int) < (f.En : Int) := by rw [← HLF.out.2.2]; have := HQ.out; omega
            obtain ⟨be, oe, hEA, hle, ge⟩ := ids_cell (HTF.out wr hb).es e1
            obtain ⟨⟨c0, c1, c2⟩, ⟨d0, d1, d2⟩⟩ := HK.out wr hb
            rw [hEA] at c2
            have HWO2 := Lib.hid hwo
            have HWH := Lib.hid hwho
            clear e1 hww hEA hwo c0 c1 d0 d1 ccol hwho
            go_upto_region 12 with fail
            refine wp_region_held_drew (S := fun w' => (w'.cell? ⟨w.heap.size, 2, none⟩ = some (.slice (some ⟨be, oe, none⟩) f.En f.Ec) ∧ w'.cell? ⟨w.heap.size + 1, 2, none⟩ = some (.slice to.EA to.En to.Ec)) ∧ w'.cell? ⟨be, oe + q, none⟩ = some (.int .u64 who)) (by kernel_rfl) ⟨⟨c2, d2⟩, ge⟩ (fun hHeld => ?_)
            refine wpAnyH_take (i := 0) (oi := _) (v := ?_) rfl (by kernel_rfl) (by kernel_rfl) (by kernel_rfl) (fun _ _ _ h => h) (Or.inl ⟨by rfl, ?_⟩) hHeld ?_
            rotate_left
            · intro w hSw; obtain ⟨⟨s0, s1⟩, s2⟩ := hSw; go_simp; try with_reducible rfl
            simp only [Act.put, List.getElem_toArray, List.getElem_cons_succ, List.getElem_cons_zero, List.setIfInBounds_toArray, List.set_cons_zero, List.set_cons_succ]
            refine wpAnyH_take (i := 1) (oi := _) (v := ?_) rfl (by kernel_rfl) (by kernel_rfl) (by kernel_rfl) (fun _ _ _ h => h) (Or.inl ⟨by rfl, ?_⟩) hHeld ?_
            rotate_left
            · intro w hSw; obtain ⟨⟨s0, s1⟩, s2⟩ := hSw; go_simp; try with_reducible rfl
            simp only [Act.put, List.getElem_toArray, List.getElem_cons_succ, List.getElem_cons_zero, List.setIfInBounds_toArray, List.set_cons_zero, List.set_cons_succ]
            refine wpAnyH_take (i := 2) (oi := _) (v := ?_) rfl (by kernel_rfl) (by kernel_rfl) (by kernel_rfl) (fun _ _ _ h => h) (Or.inl ⟨by rfl, ?_⟩) hHeld ?_
            rotate_left
            · intro w hSw; obtain ⟨⟨s0, s1⟩, s2⟩ := hSw; go_simp; try with_reducible rfl
            simp only [Act.put, List.getElem_toArray, List.getElem_cons_succ, List.getElem_cons_zero, List.setIfInBounds_toArray, List.set_cons_zero, List.set_cons_succ]
            refine wpAnyH_take (i := 3) (oi := _) (v := ?_) rfl (by kernel_rfl) (by kernel_rfl) (by kernel_rfl) (fun _ _ _ h => h) (Or.inl ⟨by rfl, ?_⟩) hHeld ?_
            rotate_left
            · intro w hSw; obtain ⟨⟨s0, s1⟩, s2⟩ := hSw; go_simp; try with_reducible rfl
            simp only [Act.put, List.getElem_toArray, List.getElem_cons_succ, List.getElem_cons_zero, List.setIfInBounds_toArray, List.set_cons_zero, List.set_cons_succ]
            refine wpAnyH_take (i := 4) (oi := _) (v := ?_) rfl (by kernel_rfl) (by kernel_rfl) (by kernel_rfl) (fun _ _ _ h => h) (Or.inl ⟨by rfl, ?_⟩) hHeld ?_
            rotate_left
            · intro w hSw; obtain ⟨⟨s0, s1⟩, s2⟩ := hSw; go_simp; try with_reducible rfl
            simp only [Act.put, List.getElem_toArray, List.getElem_cons_succ, List.getElem_cons_zero, List.setIfInBounds_toArray, List.set_cons_zero, List.set_cons_succ]
            refine wpAnyH_take (i := 5) (oi := _) (v := ?_) rfl (by kernel_rfl) (by kernel_rfl) (by kernel_rfl) (fun _ _ _ h => h) (Or.inl ⟨by rfl, ?_⟩) hHeld ?_
            rotate_left
            · intro w hSw; obtain ⟨⟨s0, s1⟩, s2⟩ := hSw; go_simp; try with_reducible rfl
            simp only [Act.put, List.getElem_toArray, List.getElem_cons_succ, List.getElem_cons_zero, List.setIfInBounds_toArray, List.set_cons_zero, List.set_cons_succ]
            refine wpAnyH_take (i := 6) (oi := _) (v := ?_) rfl (by kernel_rfl) (by kernel_rfl) (by kernel_rfl) (fun _ _ _ h => h) (Or.inl ⟨by rfl, ?_⟩) hHeld ?_
            rotate_left
            · intro w hSw; obtain ⟨⟨s0, s1⟩, s2⟩ := hSw; go_simp; try with_reducible rfl
            simp only [Act.put, List.getElem_toArray, List.getElem_cons_succ, List.getElem_cons_zero, List.setIfInBounds_toArray, List.set_cons_zero, List.set_cons_succ]
            refine wpAnyH_ready (rs := [7]) (by kernel_rfl) (by simp) (AllReadyH.cons (o := _) rfl (fun K hK => ?_) AllReadyH.nil)
            go_simp
            (with_reducible refine (cix _).mono ?_)
            rintro en w7 ⟨rfl, rfl⟩
            refine hK.out _ _ hHeld (fun hHeld => ?_)
            clear hK K
            try simp only [Act.put, List.getElem_toArray, List.getElem_cons_succ, List.getElem_cons_zero, List.setIfInBounds_toArray, List.set_cons_zero, List.set_cons_succ]
            refine wpAnyH_ready (rs := [8]) (by kernel_rfl) (by simp) (AllReadyH.cons (o := _) rfl (fun K hK => ?_) AllReadyH.nil)
            go_simp
            (with_reducible refine (chas _ _ hb.drew).mono ?_)
            rintro en w8 ⟨rfl, rfl⟩
            refine hK.out _ _ hHeld (fun hHeld => ?_)
            clear hK K
            try simp only [Act.put, List.getElem_toArray, List.getElem_cons_succ, List.getElem_cons_zero, List.setIfInBounds_toArray, List.set_cons_zero, List.set_cons_succ]
            refine wpAnyH_done (by kernel_rfl) ?_ _
            have HB7 := Lib.hid (HB.out.trans (hb.drew.mono HB.out.size))
            clear hHeld c2 d2 ge cix chas
            cases hh : hasI to.es (idx who)
            · have HH := Lib.hid hh
              clear hh
              go_wp2_with fail
              go_ret
              exact ⟨_, rfl, .inr (.inr ⟨HY.out, q, rfl, HQ.out, .inr ⟨HWO2.out, by rw [HWH.out, HH.out]; rfl⟩⟩), HB7.out⟩
            · have HH := Lib.hid hh
              clear hh
              go_wp2_with fail
              go_ret
              exact ⟨_, rfl, .inr (.inr ⟨HY.out, q, rfl, HQ.out, .inr ⟨HWO2.out, by rw [HWH.out, HH.out]; rfl⟩⟩), HB7.out⟩
end Go.Proofs.Ytbcbknajhdaneaa
