/- What is proved: shift's both: the iterator over what both types have, for every loop body that keeps maps. -/
import Derived.Test.YtbcbknajhdaneaaVSa5
import Derived.RangeFuncBox
import Derived.RangeFuncNested
import Derived.RangeFuncBound
import Derived.RangeFuncLeaves
import Derived.Shelf.Abstract
import Derived.OwnWalkIn
import Derived.TacticsInMore
import Derived.LoopNIn
import Derived.LoopIn
namespace Go.Proofs.Ytbcbknajhdaneaa
open Go.RowKit Go.Maps
set_option linter.unusedVariables false
set_option linter.unusedSimpArgs false
attribute [local go_sem] Oper.semAt_some
set_option maxRecDepth 100000 in
set_option maxHeartbeats 4000000 in
theorem both1_in (n : Nat) (hn : 1 ≤ n) (l bf bt n₀ : Nat) (f to : Tab) (J Jx : List (PIn f.ty.length to.ty.length) → World → Prop) (W : World) (hn₀ : n₀ ≤ W.heap.size)
    (hkf : Blk W bf 25 #[.slice f.TA f.Tn f.Tc, .slice f.CA f.Cn f.Cc, .slice f.EA f.En f.Ec]) (hkt : Blk W bt 25 #[.slice to.TA to.Tn to.Tc, .slice to.CA to.Cn to.Cc, .slice to.EA to.En to.Ec])
    (hf : TabOk W n₀ f) (ht : TabOk W n₀ to) (hfn : f.Tn ≤ 65536) (htn : to.Tn ≤ 65536) (hnd : Inj f.ty) (hJ : AbidesFrom W.heap.size J)
    (hY : ∀ pre x W1, J pre W1 → pre.length < to.Tn → YieldAt Fence.wide (n - 1) Try.prog l (encP x) W1 fun e W' =>
      (e = .returned (.bool true) ∧ J (pre ++ [x]) W' ∧ KpM n₀ W1 W') ∨ (e = .returned (.bool false) ∧ Jx (pre ++ [x]) W')) (h0 : J [] W) :
    CallsIn Fence.wide n Try.prog 126 #[.func (.yield l) #[] #[], .pointer (some ⟨bf, 0, none⟩), .pointer (some ⟨bt, 0, none⟩)] W fun e W' => (∃ v, e = .returned v) ∧
      ((∃ ys, ys = bothL f.ty.length to.ty.length f.ty to.ty ∧ J ys W') ∨ (∃ pre, pre <+: bothL f.ty.length to.ty.length f.ty to.ty ∧ Jx pre W')) := by
  have cpl := places_any f W (hf.more hn₀) hfn hnd
  obtain ⟨⟨f0, f1, f2⟩, _⟩ := blk_cells3 hkf
  have hll := ht.len.1
  have hW := ht.tyw
  have hR := ht.ty
  have HKT := Lib.hid hkt
  have HND := Lib.hid hnd
  have HFL := Lib.hid hf.len.1
  have hJ2 : ∀ q W1 W2, W.heap.size ≤ W1.heap.size → Below W1.heap.size W1 W2 → J q W1 → J q W2 := fun q W1 W2 h1 h hj => hJ _ _ _ none hj (below_none h) (fun r e => by cases e)
  have HJ0 := Lib.hid h0
  unfold Tab.V at cpl
  obtain ⟨TA, Tn, Tc, l1, CA, Cn, Cc, F, EA, En, Ec, es⟩ := f
  obtain ⟨UA, Un, Uc, l2, DA, Dn, Dc, G, HA, Hn, Hc, gs⟩ := to
  simp only at *
  have HW := Lib.hid hW
  have HLL := Lib.hid hll
  clear hf ht hkf hkt hnd h0 hW hll
  refine callsIn_of_wp Try.func126 rfl trivial ?_ rfl
  simp only [Try.ntmps126, List.size_toArray, List.length_cons, List.length_nil, Nat.reduceAdd, Nat.reduceSub, Array.replicate_succ, Array.replicate_zero, List.push_toArray, List.append_toArray, List.nil_append, List.cons_append]
  gi_wp2_with (first
    | (refine ⟨trivial, ?_⟩; gi_at_call 127; (with_reducible refine (callsIn_wide.2 cpl).mono ?_); rintro e w2 ⟨bm, rfl, hm, hbm, hb2⟩; obtain ⟨⟨g0, g1, g2⟩, _⟩ := blk_cells3 (blk_below HKT.out hb2))
    | fail)
  have HJ2 := Lib.hid (hJ2 [] W w2 (Nat.le_refl _) hb2 HJ0.out)
  have HM2 := Lib.hid hm
  have HB2 := Lib.hid (hb2.mono hn₀)
  have HZ2 := Lib.hid hb2.size
  clear hm hb2 f0 f1 f2
  gi_loopw [14] (fun i wr => ∃ k : Nat, k ≤ Un ∧ i = .int .i64 k ∧ J (bothL l1.length l2.length l1 (l2.take k)) wr ∧ IdxM wr bm l1 ∧ Below n₀ W wr ∧ W.heap.size ≤ wr.heap.size)
    (fun i _ => Un - (intOf i).toNat)
  case atStart => exact ⟨0, Nat.zero_le _, rfl, HJ2.out, HM2.out, HB2.out, HZ2.out⟩
  case round =>
    obtain ⟨k, hk, rfl, hJs, hm, hb, hsz⟩ := hrel
    clear g0 g1 g2
    by_cases hlt : k < Un
    · have e1 := List.getElem?_eq_getElem (l := l2) (i := k) (by rw [HLL.out]; exact hlt)
      generalize l2[k]'(by rw [HLL.out]; exact hlt) = x at e1
      have hwx : Word x := HW.out x (List.mem_of_getElem? e1)
      have hsn := bothL_snoc (A := l1.length) (B := l2.length) (l := l1) e1
      obtain ⟨b, off, rfl, hbb, g0⟩ := ids_cell hR e1
      have g1 := cell_below' hb g0 hbb
      have i1 : (k : Int) < (Un : Int) := by omega
      have hlen : (bothL l1.length l2.length l1 (l2.take k)).length < Un := by
        have := bothFrom_le l1.length l2.length l1 (l2.take k) 0
        rw [List.length_take] at this
        unfold bothL
        omega
      obtain ⟨c, hrun, hc⟩ := hm.look hwx
      cases hh : l1.contains x
      · rw [hh] at hrun hsn
        rw [if_neg (by decide), List.append_nil] at hsn
        have HJ3 := Lib.hid (show J (bothL l1.length l2.length l1 (l2.take (k + 1))) wr from by rw [hsn]; exact hJs)
        have HM := Lib.hid hm
        clear e1 hsn g0 hJs hc hh hY hJ hJ2 hm hlen
        refine wpIn_wide.2 ?_
        go_wp2
        go_roundw
        case rel => exact ⟨k + 1, by omega, by go_num, HJ3.out, HM.out, hb, hsz⟩
        case measure => simp [intOf]; omega
      · rw [hh] at hrun hsn
        rw [if_pos rfl] at hsn
        have hix := ixN_at HND.out hh
        have hci := hc _ hix
        subst hci
        have hxl := (List.getElem?_eq_some_iff.1 hix).1
        have hik : ixN l1 x < l1.length ∧ k < l2.length := ⟨hxl, by rw [HLL.out]; exact hlt⟩
        rw [pairAt_of hik] at hsn
        have hY2 := hY (bothL l1.length l2.length l1 (l2.take k)) ⟨(ixN l1 x, k), hik⟩ wr hJs hlen
        unfold encP at hY2
        simp only at hY2
        have HT := Lib.hid hsn
        have HP := Lib.hid (show bothL l1.length l2.length l1 (l2.take k) ++ [⟨(ixN l1 x, k), hik⟩] <+: bothL l1.length l2.length l1 l2 from by rw [← hsn]; exact bothL_pre l1.length l2.length l1 l2 (k + 1))
        have HM := Lib.hid hm
        obtain ⟨fn, tmps, assign, body, hy, hRd⟩ := hY2
        clear e1 hsn g0 hJs hc hh hY hJ hJ2 hm hlen hix
        gi_wp2
        refine hRd.mono ?_
        rintro e W3 (⟨rfl, hJ3, hk3⟩ | ⟨rfl, hJx3⟩)
        · have hb5 := hb.trans hk3.1
          have hz3 : W.heap.size ≤ W3.heap.size := Nat.le_trans hsz hk3.1.size
          have HM3 := Lib.hid (HM.out.at_ hk3.2)
          clear hk3 hy hRd hrun
          gi_wp2
          go_roundw
          case rel => exact ⟨k + 1, by omega, by go_num, by rw [HT.out]; exact hJ3, HM3.out, hb5, hz3⟩
          case measure => simp [intOf]; omega
        · clear hy hRd hrun
          gi_wp2
          refine bodyPost_ret (results_none rfl _ _ _) rfl ?_
          exact ⟨⟨_, rfl⟩, .inr ⟨_, HP.out, hJx3⟩⟩
    · have hke : k = Un := by omega
      subst hke
      rw [List.take_of_length_le (by rw [HLL.out]; omega)] at hJs
      have HJ := Lib.hid hJs
      have i1 : ¬ ((k : Int) < (k : Int)) := by omega
      clear hJs hR hY hJ hJ2 hm
      gi_wp2
      go_end0
      exact ⟨⟨_, rfl⟩, .inl HJ.out⟩
/-- a sequence of the places that two types share, handed back -/
def SeqB (n₀ : Nat) (f to : Tab) (w : World) (e : Ending) (w' : World) : Prop :=
  ∃ bf bt, e = .returned (.func (.func 126) #[] #[.pointer (some ⟨bf, 0, none⟩), .pointer (some ⟨bt, 0, none⟩)]) ∧
    (∀ n, 1 ≤ n → SeqStopsK Fence.wide n Try.prog 126 #[.pointer (some ⟨bf, 0, none⟩), .pointer (some ⟨bt, 0, none⟩)] encP (KpM n₀) (fun l => l = bothL f.ty.length to.ty.length f.ty to.ty) (fun pre => pre <+: bothL f.ty.length to.ty.length f.ty to.ty) to.Tn w') ∧ Below w.heap.size w w'
theorem both_any (n₀ : Nat) (f to : Tab) (w : World) (hn : n₀ ≤ w.heap.size) (hf : TabOk w n₀ f) (ht : TabOk w n₀ to) (hfn : f.Tn ≤ 65536) (htn : to.Tn ≤ 65536) (hnd : Inj f.ty) : Calls Try.prog 100 #[f.V, to.V] w (SeqB n₀ f to w) := by
  obtain ⟨W0, hW0, hB, hsz, k0, k1⟩ := two_blk w 25 25 #[.slice f.TA f.Tn f.Tc, .slice f.CA f.Cn f.Cc, .slice f.EA f.En f.Ec] #[.slice to.TA to.Tn to.Tc, .slice to.CA to.Cn to.Cc, .slice to.EA to.En to.Ec]
  have hfin : SeqB n₀ f to w (.returned (.func (.func 126) #[] #[.pointer (some ⟨w.heap.size, 0, none⟩), .pointer (some ⟨w.heap.size + 1, 0, none⟩)])) W0 :=
    ⟨_, _, rfl, fun n hl0 l J Jx W hW hJ hJx hY h0 =>
      both1_in n hl0 l _ _ n₀ f to J Jx W (Nat.le_trans hn (Nat.le_trans hB.size hW.size)) (blk_below k0 hW) (blk_below k1 hW) (hf.keep (hB.mono hn |>.trans (hW.mono (Nat.le_trans hn hB.size)))) (ht.keep (hB.mono hn |>.trans (hW.mono (Nat.le_trans hn hB.size)))) hfn htn hnd hJ hY h0, hB⟩
  have HW := Lib.hid hW0
  clear hW0 hB hsz k0 k1 hf ht hnd
  unfold Tab.V
  go_enter Try.func100, Try.ntmps100
  go_upto_region 1 with fail
  rw [← HW.out]
  go_wp2_with fail
  go_ret
  exact hfin
end Go.Proofs.Ytbcbknajhdaneaa
