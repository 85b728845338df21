/- What is proved: copying into a row of the call's own; the contract of column's Set$1. -/
import Derived.Test.YtbcbknajhdaneaaTaW
import Derived.Test.YtbcbknajhdaneaaHeld
namespace Go.Proofs.Ytbcbknajhdaneaa
open Go.RowKit
set_option linter.unusedVariables false
set_option linter.unusedSimpArgs false
theorem splice_take {α : Type} (L : List α) (off n : Nat) (cs : List α) (h : off + cs.length ≤ n) (hn : n ≤ L.length) : (splice L off cs).take n = splice (L.take n) off cs := by
  unfold splice
  rw [List.take_append, List.take_append, List.take_take, List.length_take, Nat.min_eq_left (by omega : off ≤ L.length)]
  rw [Nat.min_eq_right (by omega : off ≤ n), List.take_take, Nat.min_eq_left (by omega : off ≤ n)]
  congr 1
  rw [List.take_of_length_le (by omega : cs.length ≤ n - off), List.drop_take]
  congr 2
  omega
theorem run_copy_ownrow {P : Program} {w : World} (dT sT ty elem : TypeId) (hu : P.underlying dT = some (.slice elem)) (hsz : (P.info? elem).map (·.size) = some 1) (dp sp : Option Addr) (dLen dCap sLen sCap : Nat)
    (lim : Nat) (e : TypeId) (A : Option Addr) (n c : Nat) (xs : List Value) (off : Nat) (cs : List Value) (ho : w.ownsRow lim e 1 (.slice A n c) n xs) (hn : cs.length = Nat.min sLen dLen)
    (hpos : 0 < cs.length → dp = A.map (·.add off) ∧ ∃ ad, sp = some ad ∧ ∀ j v, cs[j]? = some v → w.cell? (ad.add j) = some v) (hfit : off + cs.length ≤ n) (h1 : ∀ v ∈ cs, v.oneCell' = true) :
    ∃ w', (Builtin.copy_ #[dT, sT] ty #[.slice dp dLen dCap, .slice sp sLen sCap]).run P w = .ok (goInt cs.length) w' ∧ w'.ownsRow lim e 1 (.slice A n c) n (splice xs off cs) ∧ Below lim w w' := by
  have hxs : xs.length = n := by have := ho.1; omega
  by_cases h0 : cs.length = 0
  · obtain rfl : cs = [] := List.eq_nil_of_length_eq_zero h0
    refine ⟨w, run_copy_none (P := P) w dT sT ty elem dp sp dLen dCap sLen sCap hu hsz (by simpa using hn.symm), ?_, Below.refl _ _⟩
    have : splice xs off [] = xs := by simp [splice]
    rw [this]; exact ho
  · obtain ⟨rfl, ad, rfl, hsrc⟩ := hpos (by omega)
    rcases ho.2 with ⟨hv, hnn⟩ | ⟨g, cap, cur, hv, hb, hg, hnc, hcap, hcur, htk⟩
    · omega
    · injection hv with hA _ hc
      subst hA hc
      have hadd : (Option.map (fun x : Addr => x.add off) (some ⟨g, 0, none⟩)) = some ⟨g, off, none⟩ := by simp [add_none]
      have hrun := run_copy_row (P := P) w dT sT ty elem g off dLen dCap ad sLen sCap cur e cs hu hsz hg hn hsrc (by omega) h1
      rw [hadd]
      have e3 : cur.toList.take off ++ cs ++ cur.toList.drop (off + cs.length) = splice cur.toList off cs := by unfold splice; rw [List.append_assoc]
      rw [e3] at hrun
      refine ⟨_, hrun, ⟨by rw [length_splice _ _ _ (by omega), hxs, Nat.mul_one], .inr ⟨g, c, (splice cur.toList off cs).toArray, rfl, hb, setRow_heap w g _ _ e _ hg, hnc, hcap, ?_, ?_⟩⟩, below_setRow (Below.refl _ _) hb _⟩
      · rw [List.size_toArray, length_splice _ _ _ (by simp; omega)]; simpa using hcur
      · rw [Nat.mul_one] at htk ⊢
        show (splice cur.toList off cs).take n = _
        rw [splice_take _ _ _ _ hfit (by simp; omega), htk]
theorem step_copy_ownrow {P : Program} {ops : Array Oper} {o : Oper} {a : Act} {w : World} {K : Act → World → Prop} {Q : Exit → Act → World → Prop} {E : Prop} (hgd : o.guard = none) (d s : Operand) (dT sT : TypeId)
    (ho : o.op = .call { callee := .builtin .copy, args := #[d, s], argTypes := #[dT, sT] }) (elem : TypeId) (hu : P.underlying dT = some (.slice elem)) (hsz : (P.info? elem).map (·.size) = some 1)
    (dp sp : Option Addr) (dLen dCap sLen sCap : Nat) (hd : a.eval d = .slice dp dLen dCap) (hs : a.eval s = .slice sp sLen sCap)
    (lim : Nat) (e : TypeId) (A : Option Addr) (n c : Nat) (xs : List Value) (off : Nat) (cs : List Value) (hown : w.ownsRow lim e 1 (.slice A n c) n xs) (hn : cs.length = Nat.min sLen dLen)
    (hpos : 0 < cs.length → dp = A.map (·.add off) ∧ ∃ ad, sp = some ad ∧ ∀ j v, cs[j]? = some v → w.cell? (ad.add j) = some v) (hfit : off + cs.length ≤ n) (h1 : ∀ v ∈ cs, v.oneCell' = true)
    (h : ∀ w', w'.ownsRow lim e 1 (.slice A n c) n (splice xs off cs) → Below lim w w' → K (a.put o.dst (goInt cs.length)) w') :
    if Region.wanted o (yielded ops a.tmps) = true then Oper.wp P o a w K Q else E := by
  have hw : Region.wanted o (yielded ops a.tmps) = true := by simp [Region.wanted, hgd]
  rw [if_pos hw]
  obtain ⟨w', hrun, h2, h3⟩ := run_copy_ownrow (P := P) (w := w) dT sT o.type elem hu hsz dp sp dLen dCap sLen sCap lim e A n c xs off cs hown hn hpos hfit h1
  unfold Oper.wp
  simp [execOp, ho, resolve, invoke, builtin, hd, hs, hrun, Result.andThen]
  exact h w' h2 h3
/-- a row with one value laid over -/
def setC (l : List Int) (W k : Nat) (v : List Int) : List Int := splice l (k * W) v
theorem ids_splice (l : List Int) (off : Nat) (v : List Int) : splice (ids l) off (ids v) = ids (splice l off v) := by
  unfold splice ids
  rw [List.map_append, List.map_append, List.map_take, List.map_drop, List.length_map]
def Set1R (b0 lim : Nat) (A : Option Addr) (n c : Nat) (l : List Int) (er : Int) (w : World) (e : Ending) (w' : World) : Prop :=
  e = .returned (.int .i64 er) ∧ w'.ownsRow lim 26 1 (.slice A n c) n (ids l) ∧ Below lim w w'
set_option maxRecDepth 100000 in
set_option maxHeartbeats 4000000 in
theorem set1_bad (b0 br bv lim : Nat) (W R : Int) (A : Option Addr) (n c : Nat) (l : List Int) (vA : Option Addr) (vn vc : Nat) (w : World)
    (hb0 : b0 < lim) (hbr : br < lim) (hbv : bv < lim) (hlim : lim ≤ w.heap.size) (hk : Blk w b0 68 #[.int .i64 W, .int .i64 R, .slice A n c]) (hv : w.cell? ⟨bv, 0, none⟩ = some (.slice vA vn vc))
    (ho : w.ownsRow lim 26 1 (.slice A n c) n (ids l)) (hne : ((vn : Int) != W) = true) :
    Calls Try.prog 123 #[.pointer (some ⟨b0, 0, none⟩), .pointer (some ⟨bv, 0, none⟩), .pointer (some ⟨br, 0, none⟩)] w (Set1R b0 lim A n c l 140 w) := by
  have s0 : w.cell? ⟨b0, 0, none⟩ = some (.int .i64 W) := hk.cell 0
  have HO := Lib.hid ho
  clear ho hk
  go_enter Try.func123, Try.ntmps123
  go_wp2_with fail
  go_quiet (fail)
  go_wp2_with fail
  go_ret
  exact ⟨rfl, HO.out, below_drewN' (Below.refl _ _) _⟩
set_option maxRecDepth 100000 in
set_option maxHeartbeats 4000000 in
theorem set1_ok (b0 br bv lim W R k : Nat) (A : Option Addr) (n c : Nat) (l : List Int) (vA : Option Addr) (vc : Nat) (vl : List Int) (w : World)
    (hb0 : b0 < lim) (hbr : br < lim) (hbv : bv < lim) (hlim : lim ≤ w.heap.size) (hk : Blk w b0 68 #[.int .i64 (W : Int), .int .i64 (R : Int), .slice A n c]) (hv : w.cell? ⟨bv, 0, none⟩ = some (.slice vA W vc)) (hr : w.cell? ⟨br, 0, none⟩ = some (.int .i64 (k : Int)))
    (ho : w.ownsRow lim 26 1 (.slice A n c) n (ids l)) (hvR : Reads w lim 1 vA W (ids vl)) (hkR : k < R) (hW4 : W ≤ 4) (hR1 : R ≤ 1048578) (hn : n = W * R) (hnc : n ≤ c) (hcm : c ≤ maxLen) :
    Calls Try.prog 123 #[.pointer (some ⟨b0, 0, none⟩), .pointer (some ⟨bv, 0, none⟩), .pointer (some ⟨br, 0, none⟩)] w (Set1R b0 lim A n c (setC l W k vl) 0 w) := by
  have hvl : vl.length = W := by have := hvR.1; rw [ids_len] at this; omega
  have h1 := rows_le (W := W) hkR
  have h2 : R * W = W * R := Nat.mul_comm _ _
  have hm : (k + 1) * W = k * W + W := Nat.succ_mul k W
  have s0' : w.cell? ⟨b0, 0, none⟩ = some (.int .i64 (W : Int)) := hk.cell 0
  have s1' : w.cell? ⟨b0, 1, none⟩ = some (.int .i64 (R : Int)) := hk.cell 1
  have s2' : w.cell? ⟨b0, 2, none⟩ = some (.slice A n c) := hk.cell 2
  have s3' := hr
  have s4' := hv
  have ca := fun (w : World) => cat_any W R k A n c w hkR hW4 hR1 hn hnc hcm
  unfold colV at ca
  have HVL := Lib.hid hvl
  have HMUL := Lib.hid hm
  have HFIT := Lib.hid (show k * W + W ≤ n by omega)
  have HK := Lib.hid (fun (w2 : World) (h : Below w.heap.size w w2) => (⟨own_below ho h, trivial, (hvR.below (h.mono hlim)).2⟩ : w2.ownsRow lim 26 1 (.slice A n c) n (ids l) ∧ True ∧ (0 < W → ∃ ad, vA = some ad ∧ ad.block < lim ∧ ∀ j u, (ids vl)[j]? = some u → w2.cell? (ad.add j) = some u)))
  have hne : ((W : Int) != (W : Int)) = false := by simp
  have hlb : b0 < w.heap.size := by omega
  have hlr : br < w.heap.size := by omega
  have hlv : bv < w.heap.size := by omega
  have hlb1 := hb0
  have hlr1 := hbr
  have hlv1 := hbv
  have HHLIM := Lib.hid hlim
  clear hr hv hk ho hvR hvl h1 h2 hm hn hkR hnc hcm
  go_enter Try.func123, Try.ntmps123
  go_wp2_with fail
  go_quiet (fail)
  go_wp2_with fail
  generalize hww : w.drewN _ = wq
  obtain rfl : wq = w.drewN _ := hww.symm
  refine wp_region_held_drew (S := fun w' => w'.cell? ⟨b0, 0, none⟩ = some (.int .i64 (W : Int)) ∧ w'.cell? ⟨b0, 1, none⟩ = some (.int .i64 (R : Int)) ∧ w'.cell? ⟨b0, 2, none⟩ = some (.slice A n c) ∧ w'.cell? ⟨br, 0, none⟩ = some (.int .i64 (k : Int)) ∧ w'.cell? ⟨bv, 0, none⟩ = some (.slice vA W vc)) (by kernel_rfl) ⟨s0', s1', s2', s3', s4'⟩ (fun hHeld => ?_)
  refine wpAnyH_take (i := 0) (oi := _) (v := ?_) rfl (by kernel_rfl) (by kernel_rfl) (by kernel_rfl) (fun _ _ _ h => h) (Or.inl ⟨by rfl, ?_⟩) hHeld ?_
  rotate_left
  · intro w hSw; obtain ⟨s0, s1, s2, s3, s4⟩ := hSw; go_simp; try with_reducible rfl
  simp only [Act.put, List.getElem_toArray, List.getElem_cons_succ, List.getElem_cons_zero, List.setIfInBounds_toArray, List.set_cons_zero, List.set_cons_succ]
  refine wpAnyH_take (i := 1) (oi := _) (v := ?_) rfl (by kernel_rfl) (by kernel_rfl) (by kernel_rfl) (fun _ _ _ h => h) (Or.inl ⟨by rfl, ?_⟩) hHeld ?_
  rotate_left
  · intro w hSw; obtain ⟨s0, s1, s2, s3, s4⟩ := hSw; go_simp; try with_reducible rfl
  simp only [Act.put, List.getElem_toArray, List.getElem_cons_succ, List.getElem_cons_zero, List.setIfInBounds_toArray, List.set_cons_zero, List.set_cons_succ]
  refine wpAnyH_take (i := 2) (oi := _) (v := ?_) rfl (by kernel_rfl) (by kernel_rfl) (by kernel_rfl) (fun _ _ _ h => h) (Or.inl ⟨by rfl, ?_⟩) hHeld ?_
  rotate_left
  · intro w hSw; obtain ⟨s0, s1, s2, s3, s4⟩ := hSw; go_simp; try with_reducible rfl
  simp only [Act.put, List.getElem_toArray, List.getElem_cons_succ, List.getElem_cons_zero, List.setIfInBounds_toArray, List.set_cons_zero, List.set_cons_succ]
  refine wpAnyH_take (i := 3) (oi := _) (v := ?_) rfl (by kernel_rfl) (by kernel_rfl) (by kernel_rfl) (fun _ _ _ h => h) (Or.inl ⟨by rfl, ?_⟩) hHeld ?_
  rotate_left
  · intro w hSw; obtain ⟨s0, s1, s2, s3, s4⟩ := hSw; go_simp; try with_reducible rfl
  simp only [Act.put, List.getElem_toArray, List.getElem_cons_succ, List.getElem_cons_zero, List.setIfInBounds_toArray, List.set_cons_zero, List.set_cons_succ]
  refine wpAnyH_take (i := 5) (oi := _) (v := ?_) rfl (by kernel_rfl) (by kernel_rfl) (by kernel_rfl) (fun _ _ _ h => h) (Or.inl ⟨by rfl, ?_⟩) hHeld ?_
  rotate_left
  · intro w hSw; obtain ⟨s0, s1, s2, s3, s4⟩ := hSw; go_simp; try with_reducible rfl
  simp only [Act.put, List.getElem_toArray, List.getElem_cons_succ, List.getElem_cons_zero, List.setIfInBounds_toArray, List.set_cons_zero, List.set_cons_succ]
  refine wpAnyH_ready (rs := [4]) (by kernel_rfl) (by simp) (AllReadyH.cons (o := _) rfl (fun K hK => ?_) AllReadyH.nil)
  go_simp
  refine (ca _).mono ?_
  rintro e w2 ⟨rfl, hb2⟩
  have hb2 : Below w.heap.size w w2 := (below_drewN' (Below.refl w.heap.size w) _).trans hb2
  have hk2 := HK.out _ hb2
  refine hK.out _ _ ⟨cell_below' hb2 s0' hlb, cell_below' hb2 s1' hlb, cell_below' hb2 s2' hlb, cell_below' hb2 s3' hlr, cell_below' hb2 s4' hlv⟩ (fun hHeld => ?_)
  clear hK K
  try simp only [Act.put, List.getElem_toArray, List.getElem_cons_succ, List.getElem_cons_zero, List.setIfInBounds_toArray, List.set_cons_zero, List.set_cons_succ]
  refine wpAnyH_ready (rs := [6]) (by kernel_rfl) (by simp) (AllReadyH.cons (o := _) rfl (fun K hK => ?_) AllReadyH.nil)
  refine step_copy_ownrow rfl (.tmp 16) (.tmp 17) _ _ rfl 26 Try.underlying44 info_uu (atA A W k) vA W W W vc rfl rfl lim 26 A n c (ids l) (k * W) (ids vl) hk2.1 ?_ ?_ ?_ (ids_one vl) ?_
  · rw [ids_len, HVL.out]; simp
  · intro h0
    rw [ids_len, HVL.out] at h0
    obtain ⟨ad, e, _, hc⟩ := hk2.2.2 h0
    refine ⟨?_, ad, e, hc⟩
    unfold atA
    rw [if_neg (by rw [HMUL.out]; omega)]
  · rw [ids_len, HVL.out]; exact HFIT.out
  intro w5 ho5 hb5
  refine hK.out _ _ ⟨cell_below' hb5 (cell_below' hb2 s0' hlb) hlb1, cell_below' hb5 (cell_below' hb2 s1' hlb) hlb1, cell_below' hb5 (cell_below' hb2 s2' hlb) hlb1, cell_below' hb5 (cell_below' hb2 s3' hlr) hlr1, cell_below' hb5 (cell_below' hb2 s4' hlv) hlv1⟩ (fun hHeld => ?_)
  clear hK K
  try simp only [Act.put, List.getElem_toArray, List.getElem_cons_succ, List.getElem_cons_zero, List.setIfInBounds_toArray, List.set_cons_zero, List.set_cons_succ]
  refine wpAnyH_done (by kernel_rfl) ?_ _
  go_wp2_with fail
  go_ret
  exact ⟨rfl, by unfold setC; rw [← ids_splice]; exact ho5, (hb2.mono HHLIM.out).trans hb5⟩
end Go.Proofs.Ytbcbknajhdaneaa
