/- What is proved: the shift laws' spoil, and that a Moved stands behind it. -/
import Derived.Test.YtbcbknajhdaneaaQSe5
namespace Go.Proofs.Ytbcbknajhdaneaa
open Go.RowKit Go.Maps
set_option linter.unusedVariables false
set_option linter.unusedSimpArgs false
def BelowV (base : Nat) (w w' : World) : Prop := Below base w w' ∧ ∀ (g : Nat) (cs : Array Value), Blk w g 82 cs → Blk w' g 82 cs
theorem BelowV.refl (base : Nat) (w : World) : BelowV base w w := ⟨Below.refl _ _, fun _ _ h => h⟩
theorem BelowV.alloc {base : Nat} {w w' : World} (h : BelowV base w w') (hb : base ≤ w'.heap.size) (o : Obj) : BelowV base w (w'.alloc o) :=
  ⟨h.1.alloc hb o, fun g cs hk => (h.2 g cs hk).alloc o⟩
theorem BelowV.set1 {base g j : Nat} {w w' : World} {e : TypeId} {cur : Array Value} (h : BelowV base w w') (hg : base ≤ g) (hh : w'.heap[g]? = some (.cells cur e (0, 0))) (he : e ≠ 82) (v : Value) : BelowV base w (w'.setCell ⟨g, j, none⟩ v) :=
  ⟨h.1.setCell (p := ⟨g, j, none⟩) hg v, fun g2 cs hk => blk_far_of (h.2 g2 cs hk) hh he v⟩
set_option maxRecDepth 100000 in
set_option maxHeartbeats 8000000 in
theorem spoil11v_any (t : Tab) (base : Nat) (w : World) (h : TabFresh w base t) (hB : base ≤ w.heap.size) (hs : t.Tn ≤ 281474976710656 ∧ t.Cn ≤ 281474976710656 ∧ t.En ≤ 281474976710656 ∧ ∀ x ∈ t.F, x.n ≤ 281474976710656) :
    Calls Try.prog 54 #[t.V] w fun e w' => e = .returned (.tuple #[]) ∧ BelowV base w w' := by
  have hlen := h.ok.len
  obtain ⟨tt, htt⟩ : ∃ tt, tt = t := ⟨_, rfl⟩
  have hI : SpI tt base w.heap.size (w.alloc (.cells #[.slice t.TA t.Tn t.Tc, .slice t.CA t.Cn t.Cc, .slice t.EA t.En t.Ec] 25)) := by
    have hb := (Below.refl w.heap.size w).alloc (Nat.le_refl _) (.cells #[.slice t.TA t.Tn t.Tc, .slice t.CA t.Cn t.Cc, .slice t.EA t.En t.Ec] 25)
    rw [htt]
    exact ⟨Blk.new w _ _, own_below h.cs hb, h.ty.2.2.2.2.below hb, h.es.2.2.2.2.below hb, fun x hx => (h.csf x hx).2.below hb⟩
  have hb0 := (BelowV.refl base w).alloc hB (.cells #[.slice t.TA t.Tn t.Tc, .slice t.CA t.Cn t.Cc, .slice t.EA t.En t.Ec] 25)
  obtain ⟨TA, Tn, Tc, ty, CA, Cn, Cc, F, EA, En, Ec, es⟩ := t
  unfold Tab.V
  simp only at *
  obtain ⟨m1, m2, m3, m4⟩ := hs
  have L2 := Lib.hid hlen.2.1
  have M4 := Lib.hid m4
  have HT := Lib.hid htt
  have HBX := Lib.hid (fun (W : World) (h : SpI tt base w.heap.size W) => show Blk W w.heap.size 25 #[.slice TA Tn Tc, .slice CA Cn Cc, .slice EA En Ec] from by have := h.box; rw [htt] at this; exact this)
  have HTY := Lib.hid (fun (W : World) (h : SpI tt base w.heap.size W) => show IntS W base 27 TA Tn from by have := h.ty; rw [htt] at this; exact this)
  have HES := Lib.hid (fun (W : World) (h : SpI tt base w.heap.size W) => show IntS W base 27 EA En from by have := h.es; rw [htt] at this; exact this)
  have HCO := Lib.hid (fun (W : World) (h : SpI tt base w.heap.size W) => show W.ownsRow base 68 3 (.slice CA Cn Cc) Cn (cols F) from by have := h.cs; rw [htt] at this; exact this)
  have HCI := Lib.hid (fun (W : World) (h : SpI tt base w.heap.size W) (x : Col) (hx : x ∈ F) => show IntS W base 26 x.A x.n from by have := h.csi; rw [htt] at this; exact this x hx)
  have HI := Lib.hid hI
  have HB0 := Lib.hid hb0
  clear h hlen m4 htt hI hb0
  go_enter Try.func54, Try.ntmps54
  go_wp2_with fail
  go_loopw [10] (fun i wr => ∃ j : Nat, j ≤ Tn ∧ i = .int .i64 j ∧ BelowV base w wr ∧ SpI tt base w.heap.size wr) (fun i _ => Tn - (intOf i).toNat)
  case atStart => exact ⟨0, Nat.zero_le _, rfl, HB0.out, HI.out⟩
  case round =>
    obtain ⟨j, hj, rfl, hb, hI⟩ := hrel
    obtain ⟨⟨c0, c1, c2⟩, _⟩ := blk_cells3 (HBX.out _ hI)
    have HBB := Lib.hid hb
    have HII := Lib.hid hI
    by_cases hlt : j < Tn
    · obtain ⟨g, x, rfl, hg, hc, hf, hw, cur, hh⟩ := (HTY.out _ hI).cell hlt
      have HH := Lib.hid hh
      have HG := Lib.hid hg
      clear hb hI c1 c2 hg hh hw
      go_wp2_with fail
      go_roundw
      case rel => exact ⟨j + 1, by omega, by go_num, HBB.out.set1 HG.out HH.out (by decide) _, HII.out.set HH.out (by decide) (u64_wrap_word _)⟩
      case measure => simp [intOf]; omega
    · have : j = Tn := by omega
      subst this
      clear hb hI c0 c2
      go_wp2_with fail
      clear c1
      go_loopw [24] (fun i wr => ∃ j : Nat, j ≤ Cn ∧ i = .int .i64 j ∧ BelowV base w wr ∧ SpI tt base w.heap.size wr) (fun i _ => Cn - (intOf i).toNat)
      case atStart => exact ⟨0, Nat.zero_le _, rfl, HBB.out, HII.out⟩
      case round =>
        clear HBB HII
        obtain ⟨k, hk, rfl, hb, hI⟩ := hrel
        obtain ⟨⟨c0, c1, c2⟩, _⟩ := blk_cells3 (HBX.out _ hI)
        have HBB := Lib.hid hb
        have HII := Lib.hid hI
        by_cases hlt : k < Cn
        · have e1 := List.getElem?_eq_getElem (l := F) (i := k) (by rw [L2.out]; exact hlt)
          generalize F[k]'(by rw [L2.out]; exact hlt) = x at e1
          obtain ⟨b, off, hCA, hbl, g0, g1, g2⟩ := cols_cells (Reads.of_own (HCO.out _ hI)) e1
          have HXM := Lib.hid (List.mem_of_getElem? e1)
          have hxm := M4.out x HXM.out
          obtain ⟨xW, xR, xA, xn, xc, xl⟩ := x
          simp only at g0 g1 g2 hxm
          subst hCA
          clear hb hI c0 c1 c2 e1
          go_wp2_with fail
          obtain ⟨wo, rfl⟩ : ∃ wo, wo = wr := ⟨_, rfl⟩
          have HK3 := Lib.hid (Blk.new wo 68 #[.int .i64 xW, .int .i64 xR, .slice xA xn xc])
          have HB3 := Lib.hid (HBB.out.alloc (Nat.le_trans hB HBB.out.1.size) (.cells #[.int .i64 xW, .int .i64 xR, .slice xA xn xc] 68))
          have HI3 := Lib.hid (HII.out.below ((Below.refl _ wo).alloc (Nat.le_refl _) (.cells #[.int .i64 xW, .int .i64 xR, .slice xA xn xc] 68)))
          clear g0 g1 g2 HBB HII
          go_hide hQ
          go_loopw [31] (fun i wr => ∃ m : Nat, m ≤ xn ∧ i = .int .i64 m ∧ BelowV base w wr ∧ SpI tt base w.heap.size wr ∧ Blk wr wo.heap.size 68 #[.int .i64 xW, .int .i64 xR, .slice xA xn xc]) (fun i _ => xn - (intOf i).toNat)
          case atStart => exact ⟨0, Nat.zero_le _, rfl, HB3.out, HI3.out, HK3.out⟩
          case round =>
            obtain ⟨m, hm, rfl, hb, hI, hkc⟩ := hrel
            obtain ⟨⟨c0, c1, c2⟩, _⟩ := blk_cells3 hkc
            have HBB := Lib.hid hb
            have HII := Lib.hid hI
            have HKC := Lib.hid hkc
            by_cases hlt2 : m < xn
            · obtain ⟨g, y, hxA, hg, hc, hf, hw, cur, hh⟩ := (HCI.out _ hI _ HXM.out).cell hlt2
              simp only at hxA
              subst hxA
              have HH := Lib.hid hh
              have HG := Lib.hid hg
              clear hb hI c0 c1 hg hh hw hkc
              go_wp2_with fail
              go_roundw
              case rel => exact ⟨m + 1, by omega, by go_num, HBB.out.set1 HG.out HH.out (by decide) _, HII.out.set HH.out (by decide) (u64_wrap_word _), blk_far_of HKC.out HH.out (by decide) _⟩
              case measure => simp [intOf]; omega
            · have : m = xn := by omega
              subst this
              clear hb hI c0 c1 c2 hkc
              subst hQ
              go_wp2_with fail
              go_roundw
              case rel => exact ⟨k + 1, by omega, by go_num, HBB.out, HII.out⟩
              case measure => simp [intOf]; omega
        · have : k = Cn := by omega
          subst this
          clear hb hI c0 c1
          go_wp2_with fail
          clear c2
          go_loopw [46] (fun i wr => ∃ j : Nat, j ≤ En ∧ i = .int .i64 j ∧ BelowV base w wr ∧ SpI tt base w.heap.size wr) (fun i _ => En - (intOf i).toNat)
          case atStart => exact ⟨0, Nat.zero_le _, rfl, HBB.out, HII.out⟩
          case round =>
            clear HBB HII
            obtain ⟨j, hj, rfl, hb, hI⟩ := hrel
            obtain ⟨⟨c0, c1, c2⟩, _⟩ := blk_cells3 (HBX.out _ hI)
            have HBB := Lib.hid hb
            have HII := Lib.hid hI
            by_cases hlt : j < En
            · obtain ⟨g, x, rfl, hg, hc, hf, hw, cur, hh⟩ := (HES.out _ hI).cell hlt
              have HH := Lib.hid hh
              have HG := Lib.hid hg
              clear hb hI c0 c1 hg hh hw
              go_wp2_with fail
              go_roundw
              case rel => exact ⟨j + 1, by omega, by go_num, HBB.out.set1 HG.out HH.out (by decide) _, HII.out.set HH.out (by decide) (u64_wrap_word _)⟩
              case measure => simp [intOf]; omega
            · have : j = En := by omega
              subst this
              clear hb hI c0 c1 c2
              go_wp2_with fail
              refine bodyPost_end (v := .tuple #[]) (by simp [results, Try.results54, go_sem, *]) rfl ?_
              exact ⟨rfl, HBB.out⟩
end Go.Proofs.Ytbcbknajhdaneaa
