/- What is proved: contracts of the document's Value, Values and Widths of tables. -/
import Derived.Test.YtbcbknajhdaneaaTc4
namespace Go.Proofs.Ytbcbknajhdaneaa
open Go.RowKit
set_option linter.unusedVariables false
set_option linter.unusedSimpArgs false
theorem chunk_snoc {l : List Int} {W k j : Nat} {y : Int} (hj : j < W) (h : l[k * W + j]? = some y) : (chunk l W k).take (j + 1) = (chunk l W k).take j ++ [y] := by
  refine take_snoc ?_
  unfold chunk
  rw [List.getElem?_take, if_pos hj, List.getElem?_drop]
  exact h
set_option maxRecDepth 100000 in
set_option maxHeartbeats 4000000 in
theorem rvalue_any (W R k : Nat) (A : Option Addr) (n c : Nat) (l : List Int) (w : World) (hR : Reads w w.heap.size 1 A n (ids l)) (hk : k < R) (hW : W ≤ 4) (hR1 : R ≤ 1048578) (hn : n = W * R) :
    Calls Try.prog 83 #[colV (W : Int) (R : Int) A n c, .int .i64 (k : Int)] w (OwnU (chunk l W k) w) := by
  have hl : l.length = n := by have := hR.1; rw [ids_len] at this; omega
  have h1 := rows_le (W := W) hk
  have h2 : R * W = W * R := Nat.mul_comm _ _
  have hm : (k + 1) * W = k * W + W := Nat.succ_mul k W
  have h4 : R * W ≤ 1048578 * 4 := Nat.mul_le_mul hR1 hW
  have hcl := chunk_len (l := l) hk (hl.trans hn)
  have e1 : IntKind.i64.wrap ((k : Int) * (W : Int)) = ((k * W : Nat) : Int) := by rw [← Int.natCast_mul, i64_wrap (by omega)]
  obtain ⟨i0, hi0, hz0, hz1, hz2⟩ := info_parts info_u64
  have hB := (Below.refl w.heap.size w).alloc (Nat.le_refl _) (.cells #[.int .i64 (W : Int), .int .i64 (R : Int), .slice A n c] 68)
  have hkb := Blk.new w 68 #[.int .i64 (W : Int), .int .i64 (R : Int), .slice A n c]
  have hfit : k * W + W ≤ n := by omega
  have hnb : n ≤ 4194312 := by omega
  have hcs := fun (j : Nat) (y : Int) (hj : j < W) (hy : l[k * W + j]? = some y) => chunk_snoc (l := l) (k := k) hj hy
  have HCL := Lib.hid hcl
  have HCS := Lib.hid hcs
  have HL := Lib.hid hl
  clear hcl hcs h1 h2 hm h4 hk hR1 hn hl
  generalize chunk l W k = ch at *
  generalize k * W = f at *
  unfold colV
  obtain ⟨⟨c0, c1, c2⟩, _⟩ := blk_cells3 hkb
  have HK := Lib.hid hkb
  clear hkb
  go_enter Try.func83, Try.ntmps83
  go_wp2_with fail
  clear c0 c1 c2
  go_loopw [5, 9] (fun o i wr => ∃ j : Nat, j ≤ W ∧ i = .int .i64 j ∧ wr.ownsRow w.heap.size 26 1 o j (ids (ch.take j)) ∧ Below w.heap.size w wr ∧ Blk wr w.heap.size 68 #[.int .i64 (W : Int), .int .i64 (R : Int), .slice A n c])
    (fun _ i _ => W - (intOf i).toNat)
  case atStart => exact ⟨0, Nat.zero_le _, rfl, World.ownsRow_nil _ _ _ _, hB, HK.out⟩
  case round =>
    obtain ⟨j, hj, rfl, ho, hb, hkw⟩ := hrel
    by_cases hlt : j < W
    · have e2 := List.getElem?_eq_getElem (l := l) (i := f + j) (by rw [HL.out]; omega)
      generalize l[f + j]'(by rw [HL.out]; omega) = y at e2
      obtain ⟨b, off, rfl, hbl, g⟩ := ids_cell hR e2
      have g1 := cell_below' hb g hbl
      obtain ⟨⟨c0, c1, c2⟩, _⟩ := blk_cells3 hkw
      have HT := Lib.hid (HCS.out j y hlt e2)
      have i1 : (f : Int) + (j : Int) < (n : Int) := by omega
      have et : ((f : Int) + (j : Int)).toNat = f + j := by omega
      have HO := Lib.hid ho
      have HKW := Lib.hid hkw
      obtain ⟨Ao, co, rfl⟩ := own_slice ho
      have g2 : wr.cell? ⟨b, off + (f + j), none⟩ = some (.int .u64 y) := g1
      clear hR e2 g g1 ho hkw
      go_wp2_with (first
        | (at_builtin
           refine wpList_append_any _ rfl (.tmp 12) (.tmp 23) _ rfl w.heap.size 26 i0 _ 1 8 Try.underlying44 hi0 hz0 hz1 hz2 rfl (by omega) _ j (ids (ch.take j)) rfl
             ?_ (wr.heap.size + 1) (some ⟨wr.heap.size, 0, none⟩) 1 1 [.int .u64 y] rfl ?_ (by simp [Value.oneCell']) (by simp only [maxLen]; omega) (by omega) (by have := hb.size; simp; omega) ?_
           · exact HO.out.alloc _
           · exact lit_reads1 _ _ _ rfl
           intro v1 w1 hown1 hg1 hat1)
        | fail)
      have hb1 := own_grown_below (hb.alloc hb.size (.cells #[.int .u64 y] 26)) (HO.out.alloc _) hg1
      go_roundw
      case rel => exact ⟨j + 1, by omega, by go_num, by rw [HT.out, ids_app]; exact hown1, hb1, (HKW.out.alloc _).grown hg1 (fun e => own_blk_ne (HO.out.alloc (.cells #[.int .u64 y] 26)) (HKW.out.alloc (.cells #[.int .u64 y] 26)) (by decide) e.symm)⟩
      case measure => simp [intOf]; omega
    · have : j = W := by omega
      subst this
      rw [List.take_of_length_le (by rw [HCL.out]; exact Nat.le_refl _)] at ho
      have HO := Lib.hid ho
      obtain ⟨Ao, co, rfl⟩ := own_slice ho
      clear hR ho hkw
      go_wp2_with fail
      go_ret
      exact ⟨_, rfl, by rw [HCL.out]; exact HO.out, hb⟩
/-- values of the call's own -/
def OwnVs (ls : List (List Int)) (w : World) (e : Ending) (w' : World) : Prop :=
  ∃ v G, e = .returned v ∧ w'.ownsRow w.heap.size 44 1 v G.length (rws G) ∧ G.map Rw.l = ls ∧ (∀ x ∈ G, RwFresh w' w.heap.size x) ∧ Below w.heap.size w w'
def rowL (F : List Col) (k : Nat) : List (List Int) := F.map fun x => chunk x.l x.W.toNat k
theorem rwFresh_grown {w w' : World} {base b n size : Nat} {x : Rw} {e : TypeId} {v : Value} {xs : List Value} (h : RwFresh w base x) (ho : w.ownsRow b e size v n xs) (hne : e ≠ 26) (hg : w.grownBy w' v.ownBlock) : RwFresh w' base x := colFresh_grown h ho hne hg
set_option maxRecDepth 100000 in
set_option maxHeartbeats 4000000 in
theorem rvalues_any (t : Tab) (k : Nat) (w : World) (h : TabOk w w.heap.size t) (hn : t.Cn ≤ 65536) (hb0 : tabB t = true) (hk : k < t.es.length) :
    Calls Try.prog 29 #[t.V, .int .i64 (k : Int)] w (OwnVs (rowL t.F k) w) := by
  obtain ⟨_, _, hle, hcb, _⟩ := tabB_parts hb0
  obtain ⟨i0, hi0, hz0, hz1, hz2⟩ := info_parts info_val
  have hB := (Below.refl w.heap.size w).alloc (Nat.le_refl _) (.cells #[.slice t.TA t.Tn t.Tc, .slice t.CA t.Cn t.Cc, .slice t.EA t.En t.Ec] 25)
  obtain ⟨⟨c0, c1, c2⟩, _⟩ := blk_cells3 (Blk.new w 25 #[.slice t.TA t.Tn t.Tc, .slice t.CA t.Cn t.Cc, .slice t.EA t.En t.Ec])
  have hlen := h.len
  obtain ⟨TA, Tn, Tc, ty, CA, Cn, Cc, F, EA, En, Ec, es⟩ := t
  simp only at *
  have L2 := Lib.hid hlen.2.1
  have hcok := h.csok
  have hcs := h.cs
  simp only at hcok hcs
  unfold Tab.V
  simp only
  go_enter Try.func29, Try.ntmps29
  go_wp2_with fail
  clear c0 c1 c2
  go_loopw [5, 11] (fun o i wr => ∃ j : Nat, j ≤ Cn ∧ i = .int .i64 j ∧ Below w.heap.size w wr ∧
      ∃ G, wr.ownsRow w.heap.size 44 1 o G.length (rws G) ∧ G.map Rw.l = rowL (F.take j) k ∧ ∀ x ∈ G, RwFresh wr w.heap.size x)
    (fun _ i _ => Cn - (intOf i).toNat)
  case atStart => exact ⟨0, Nat.zero_le _, rfl, hB, [], World.ownsRow_nil _ _ _ _, rfl, by simp⟩
  case round =>
    obtain ⟨j, hj, rfl, hb, G, ho, hp, hfr⟩ := hrel
    have hGl : G.length = j := by
      have h1 := congrArg List.length hp
      unfold rowL at h1
      rw [List.length_map, List.length_map, List.length_take, L2.out, Nat.min_eq_left hj] at h1
      exact h1
    by_cases hlt : j < Cn
    · have e1 := List.getElem?_eq_getElem (l := F) (i := j) (by rw [L2.out]; exact hlt)
      generalize F[j]'(by rw [L2.out]; exact hlt) = x at e1
      obtain ⟨b, off, rfl, hbl, gc⟩ := cols_cells hcs e1
      obtain ⟨g0, g1, g2⟩ := gc.below hb hbl
      have hxm := List.mem_of_getElem? e1
      obtain ⟨hc1, hc2⟩ := hcb x hxm
      have hxo := hcok x hxm
      unfold colB at hc1
      obtain ⟨hW0, hW4, hR0, hR1, hn'⟩ := of_decide_eq_true hc1
      obtain ⟨xW, xR, xA, xn, xc, xl⟩ := x
      simp only at *
      obtain ⟨Wn, rfl⟩ := Int.eq_ofNat_of_zero_le hW0
      obtain ⟨Rn, rfl⟩ := Int.eq_ofNat_of_zero_le hR0
      have hnn : xn = Wn * Rn := by rw [← Int.natCast_mul] at hn'; omega
      have cv := fun (o : Obj) => rvalue_any Wn Rn k xA xn xc xl (wr.alloc o) ((hxo.1.below (hb.alloc hb.size o)).more (hb.alloc hb.size o).size) (by omega) (by omega) (by omega) hnn
      have HT := Lib.hid (show rowL (F.take (j + 1)) k = rowL (F.take j) k ++ [chunk xl Wn k] from by unfold rowL; rw [take_snoc e1, List.map_append]; simp)
      have HWD := Lib.hid (show ∀ y ∈ chunk xl Wn k, Word y from fun y hy => hxo.2.2.2 y (chunk_mem hy))
      have HO := Lib.hid ho
      have HP := Lib.hid hp
      have HFR := Lib.hid hfr
      have HGL := Lib.hid (show G.length ≤ 65536 by omega)
      obtain ⟨Ao, co, rfl⟩ := own_slice ho
      generalize chunk xl Wn k = ch at *
      unfold OwnU colV at cv
      clear e1 gc ho hp hfr hGl hc1 hc2 hxo hxm hn' hnn hcs hcok h hcb
      go_wp2_with (first
        | (go_at_call 83; ((with_reducible refine (cv _).mono ?_); rintro en w2 ⟨vv, rfl, hov, hb2⟩; obtain ⟨xA', xc', rfl⟩ := own_slice hov; have HOV := Lib.hid hov; clear hov))
        | (at_builtin
           refine wpList_append_any _ rfl (.tmp 15) (.tmp 19) _ rfl w.heap.size 44 i0 _ 1 24 Try.underlying28 hi0 hz0 hz1 hz2 rfl (by omega) _ G.length (rws G) rfl
             ?_ (w2.heap.size + 1) (some ⟨w2.heap.size, 0, none⟩) 1 1 [.slice xA' ch.length xc'] rfl ?_ (by simp [Value.oneCell']) (by have := HGL.out; simp only [maxLen]; omega) (by have := HGL.out; omega) ?_ ?_
           · exact (own_below (HO.out.alloc _) hb2).alloc _
           · exact lit_reads1 _ _ _ rfl
           · exact Nat.le_trans hb.size (by have := hb2.size; simp at this ⊢; omega)
           intro v1 w1 hown1 hg1 hat1)
        | fail)
      have hb3 : Below w.heap.size w w2 := (hb.alloc hb.size _).trans (hb2.mono (by have := hb.size; simp; omega))
      have hb4 := own_grown_below (hb3.alloc hb3.size (.cells #[.slice xA' ch.length xc'] 44)) ((own_below (HO.out.alloc _) hb2).alloc _) hg1
      go_roundw
      case rel =>
        refine ⟨j + 1, by omega, by go_num, hb4, G ++ [⟨xA', ch.length, xc', ch⟩], ?_, ?_, fun y hy => ?_⟩
        · rw [rws_app, List.length_append]; exact hown1
        · rw [List.map_append, HP.out, HT.out]; rfl
        · have hk1 := (own_below (HO.out.alloc (.cells #[.int .i64 (Wn : Int), .int .i64 (Rn : Int), .slice xA xn xc] 68)) hb2).alloc (.cells #[.slice xA' ch.length xc'] 44)
          have hstep : ∀ z, RwFresh w2 w.heap.size z → RwFresh w1 w.heap.size z := fun z hz =>
            rwFresh_grown (hz.below ((Below.refl _ w2).alloc (Nat.le_refl _) _)) hk1 (by decide) hg1
          rcases List.mem_append.1 hy with hy | hy
          · exact hstep y (((HFR.out y hy).below ((Below.refl _ wr).alloc (Nat.le_refl _) _)).below hb2)
          · rw [List.mem_singleton] at hy; subst hy
            exact hstep _ (colFresh_base (rwFresh_own HOV.out HWD.out) (by have := hb.size; simp; omega))
      case measure => simp [intOf]; omega
    · have : j = Cn := by omega
      subst this
      rw [List.take_of_length_le (by rw [L2.out]; omega)] at hp
      have HO := Lib.hid ho
      have HP := Lib.hid hp
      have HFR := Lib.hid hfr
      obtain ⟨Ao, co, rfl⟩ := own_slice ho
      clear hcs hcok ho hp hfr hGl h hcb
      go_wp2_with fail
      go_ret
      exact ⟨_, G, rfl, HO.out, HP.out, HFR.out, hb⟩
set_option maxRecDepth 100000 in
set_option maxHeartbeats 4000000 in
theorem rwidths_any (t : Tab) (w : World) (h : TabOk w w.heap.size t) (hn : t.Cn ≤ 65536) : Calls Try.prog 74 #[t.V] w (OwnN (t.F.map Col.W) w) := by
  obtain ⟨i0, hi0, hz0, hz1, hz2⟩ := info_parts info_int
  have hB := (Below.refl w.heap.size w).alloc (Nat.le_refl _) (.cells #[.slice t.TA t.Tn t.Tc, .slice t.CA t.Cn t.Cc, .slice t.EA t.En t.Ec] 25)
  obtain ⟨⟨c0, c1, c2⟩, _⟩ := blk_cells3 (Blk.new w 25 #[.slice t.TA t.Tn t.Tc, .slice t.CA t.Cn t.Cc, .slice t.EA t.En t.Ec])
  have hlen := h.len
  obtain ⟨TA, Tn, Tc, ty, CA, Cn, Cc, F, EA, En, Ec, es⟩ := t
  simp only at *
  have L2 := Lib.hid hlen.2.1
  have hcs := h.cs
  simp only at hcs
  unfold Tab.V
  simp only
  go_enter Try.func74, Try.ntmps74
  go_wp2_with fail
  clear c0 c1 c2 hlen h
  go_loopw [3, 9] (fun o i wr => ∃ j : Nat, j ≤ Cn ∧ i = .int .i64 j ∧ Below w.heap.size w wr ∧ wr.ownsRow w.heap.size 3 1 o j (ins ((F.take j).map Col.W)))
    (fun _ i _ => Cn - (intOf i).toNat)
  case atStart => exact ⟨0, Nat.zero_le _, rfl, hB, World.ownsRow_nil _ _ _ _⟩
  case round =>
    obtain ⟨j, hj, rfl, hb, ho⟩ := hrel
    by_cases hlt : j < Cn
    · have e1 := List.getElem?_eq_getElem (l := F) (i := j) (by rw [L2.out]; exact hlt)
      generalize F[j]'(by rw [L2.out]; exact hlt) = x at e1
      obtain ⟨b, off, rfl, hbl, gc⟩ := cols_cells hcs e1
      obtain ⟨g0, g1, g2⟩ := gc.below hb hbl
      have HT := Lib.hid (show ins ((F.take (j + 1)).map Col.W) = ins ((F.take j).map Col.W) ++ [.int .i64 x.W] from by unfold ins; rw [take_snoc e1, List.map_append, List.map_append]; simp)
      have HO := Lib.hid ho
      obtain ⟨Ao, co, rfl⟩ := own_slice ho
      obtain ⟨xW, xR, xA, xn, xc, xl⟩ := x
      simp only at g0 g1 g2
      clear e1 gc ho hcs
      go_wp2_with (first
        | (at_builtin
           refine wpList_append_any _ rfl (.tmp 13) (.tmp 16) _ rfl w.heap.size 3 i0 _ 1 8 Try.underlying47 hi0 hz0 hz1 hz2 rfl (by omega) _ j (ins ((F.take j).map Col.W)) rfl
             ?_ (wr.heap.size + 2) (some ⟨wr.heap.size + 1, 0, none⟩) 1 1 [.int .i64 xW] rfl ?_ (by simp [Value.oneCell']) (by simp only [maxLen]; omega) (by omega) (by have := hb.size; simp; omega) ?_
           · exact (HO.out.alloc _).alloc _
           · exact lit_reads2 _ _ _ _ rfl
           intro v1 w1 hown1 hg1 hat1)
        | fail)
      have hb4 := own_grown_below ((hb.alloc hb.size (.cells #[.int .i64 xW, .int .i64 xR, .slice xA xn xc] 68)).alloc (by have := hb.size; simp; omega) (.cells #[.int .i64 xW] 3)) ((HO.out.alloc _).alloc _) hg1
      go_roundw
      case rel => exact ⟨j + 1, by omega, by go_num, hb4, by rw [HT.out]; exact hown1⟩
      case measure => simp [intOf]; omega
    · have : j = Cn := by omega
      subst this
      rw [List.take_of_length_le (by rw [L2.out]; omega)] at ho
      have HO := Lib.hid ho
      obtain ⟨Ao, co, rfl⟩ := own_slice ho
      clear hcs ho
      go_wp2_with fail
      go_ret
      exact ⟨_, rfl, by rw [List.length_map, L2.out]; exact HO.out, hb⟩
end Go.Proofs.Ytbcbknajhdaneaa
