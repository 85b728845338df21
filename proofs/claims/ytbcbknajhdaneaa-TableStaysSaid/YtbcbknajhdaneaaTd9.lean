/- What is proved: the contract of the law's spoil: only memory of the table's own is written. -/
import Derived.Test.YtbcbknajhdaneaaTd8
namespace Go.Proofs.Ytbcbknajhdaneaa
open Go.RowKit
set_option linter.unusedVariables false
set_option linter.unusedSimpArgs false
theorem u64_wrap_word (x : Int) : Word (IntKind.u64.wrap x) := by
  unfold Word IntKind.wrap
  simp [IntKind.min, IntKind.max, IntKind.bits, IntKind.signed]
  omega
theorem IntS.cell {w : World} {base n : Nat} {e : TypeId} {A : Option Addr} (h : IntS w base e A n) {j : Nat} (hj : j < n) :
    ∃ g x, A = some ⟨g, 0, none⟩ ∧ base ≤ g ∧ w.cell? ⟨g, j, none⟩ = some (.int .u64 x) ∧ w.frozen? ⟨g, j, none⟩ = false ∧ Word x ∧ ∃ cur, w.heap[g]? = some (.cells cur e (0, 0)) := by
  obtain ⟨g, cur, rfl, h1, h2, h3⟩ := h (by omega)
  obtain ⟨x, hx, hw⟩ := h3 j hj
  refine ⟨g, x, rfl, h1, ?_, ?_, hw, cur, h2⟩
  · rw [cell_of_row w g j cur e (0, 0) h2]; exact hx
  · simp [World.frozen?, h2]
theorem intS_set {w : World} {base n g j : Nat} {e e2 : TypeId} {A : Option Addr} {cur : Array Value} {y : Int} (h : IntS w base e A n) (hg : w.heap[g]? = some (.cells cur e2 (0, 0))) (hy : Word y) : IntS (w.setCell ⟨g, j, none⟩ (.int .u64 y)) base e A n := fun h0 => by
  obtain ⟨g', cur', rfl, h1, h2, h3⟩ := h h0
  by_cases hgg : g' = g
  · subst hgg
    refine ⟨g', cur'.setIfInBounds j (.int .u64 y), rfl, h1, by simp [World.setCell, Array.getElem?_modify, h2], fun i hi => ?_⟩
    rw [Array.getElem?_setIfInBounds]
    split
    · split
      · exact ⟨y, rfl, hy⟩
      · rename_i hij hlt
        subst hij
        obtain ⟨x, hx, _⟩ := h3 _ hi
        exact absurd (Array.getElem?_eq_some_iff.1 hx).1 hlt
    · exact h3 i hi
  · exact ⟨g', cur', rfl, h1, (Below.heap_setCell _ _ _ _ (by simpa using hgg)).trans h2, h3⟩
structure SpI (t : Tab) (base tb : Nat) (w : World) : Prop where
  box : Blk w tb 25 #[.slice t.TA t.Tn t.Tc, .slice t.CA t.Cn t.Cc, .slice t.EA t.En t.Ec]
  cs : w.ownsRow base 68 3 (.slice t.CA t.Cn t.Cc) t.Cn (cols t.F)
  ty : IntS w base 27 t.TA t.Tn
  es : IntS w base 27 t.EA t.En
  csi : ∀ x ∈ t.F, IntS w base 26 x.A x.n
theorem SpI.below {t : Tab} {base tb : Nat} {w w' : World} (h : SpI t base tb w) (hb : Below w.heap.size w w') : SpI t base tb w' :=
  ⟨blk_below h.box hb, own_below h.cs hb, h.ty.below hb, h.es.below hb, fun x hx => (h.csi x hx).below hb⟩
theorem blk_far_of {w : World} {g g2 j : Nat} {t e : TypeId} {cs cur : Array Value} (h : Blk w g2 t cs) (hg : w.heap[g]? = some (.cells cur e (0, 0))) (hne : e ≠ t) (v : Value) : Blk (w.setCell ⟨g, j, none⟩ v) g2 t cs :=
  h.far (p := ⟨g, j, none⟩) (fun e9 => by
    have e9 : g2 = g := e9
    subst e9
    unfold Blk at h
    rw [h] at hg
    injection hg with hg
    injection hg with _ h7
    exact hne h7.symm) v
theorem own_far_of {w : World} {g j n base size : Nat} {e e2 : TypeId} {v : Value} {xs : List Value} {cur : Array Value} (h : w.ownsRow base e size v n xs) (hg : w.heap[g]? = some (.cells cur e2 (0, 0))) (hne : e ≠ e2) (y : Value) : (w.setCell ⟨g, j, none⟩ y).ownsRow base e size v n xs :=
  h.kept (grown_set1 _ _ _ _) (.inr (own_blk_ne h (show Blk w g e2 cur from hg) hne))
theorem SpI.set {t : Tab} {base tb g j : Nat} {w : World} {e : TypeId} {cur : Array Value} {y : Int} (h : SpI t base tb w) (hg : w.heap[g]? = some (.cells cur e (0, 0))) (he : e ≠ 25 ∧ e ≠ 68) (hy : Word y) : SpI t base tb (w.setCell ⟨g, j, none⟩ (.int .u64 y)) :=
  ⟨blk_far_of h.box hg he.1 _, own_far_of h.cs hg (Ne.symm he.2) _, intS_set h.ty hg hy, intS_set h.es hg hy, fun x hx => intS_set (h.csi x hx) hg hy⟩
set_option maxRecDepth 100000 in
set_option maxHeartbeats 8000000 in
theorem spoil_any (t : Tab) (base : Nat) (w : World) (h : TabFresh w base t) (hB : base ≤ w.heap.size) (hs : t.Tn ≤ 281474976710656 ∧ t.Cn ≤ 281474976710656 ∧ t.En ≤ 281474976710656 ∧ ∀ x ∈ t.F, x.n ≤ 281474976710656) :
    Calls Try.prog 23 #[t.V] w fun e w' => e = .returned (.tuple #[]) ∧ Below base w w' := by
  have hlen := h.ok.len
  obtain ⟨tt, htt⟩ : ∃ tt, tt = t := ⟨_, rfl⟩
  have hI : SpI tt base w.heap.size (w.alloc (.cells #[.slice t.TA t.Tn t.Tc, .slice t.CA t.Cn t.Cc, .slice t.EA t.En t.Ec] 25)) := by
    have hb := (Below.refl w.heap.size w).alloc (Nat.le_refl _) (.cells #[.slice t.TA t.Tn t.Tc, .slice t.CA t.Cn t.Cc, .slice t.EA t.En t.Ec] 25)
    rw [htt]
    exact ⟨Blk.new w _ _, own_below h.cs hb, h.ty.2.2.2.2.below hb, h.es.2.2.2.2.below hb, fun x hx => (h.csf x hx).2.below hb⟩
  have hb0 := (Below.refl base w).alloc hB (.cells #[.slice t.TA t.Tn t.Tc, .slice t.CA t.Cn t.Cc, .slice t.EA t.En t.Ec] 25)
  obtain ⟨TA, Tn, Tc, ty, CA, Cn, Cc, F, EA, En, Ec, es⟩ := t
  unfold Tab.V
  simp only at *
  obtain ⟨m1, m2, m3, m4⟩ := hs
  have L2 := Lib.hid hlen.2.1
  have M4 := Lib.hid m4
  have HT := Lib.hid htt
  have HBX := Lib.hid (fun (W : World) (h : SpI tt base w.heap.size W) => show Blk W w.heap.size 25 #[.slice TA Tn Tc, .slice CA Cn Cc, .slice EA En Ec] from by have := h.box; rw [htt] at this; exact this)
  have HTY := Lib.hid (fun (W : World) (h : SpI tt base w.heap.size W) => show IntS W base 27 TA Tn from by have := h.ty; rw [htt] at this; exact this)
  have HES := Lib.hid (fun (W : World) (h : SpI tt base w.heap.size W) => show IntS W base 27 EA En from by have := h.es; rw [htt] at this; exact this)
  have HCO := Lib.hid (fun (W : World) (h : SpI tt base w.heap.size W) => show W.ownsRow base 68 3 (.slice CA Cn Cc) Cn (cols F) from by have := h.cs; rw [htt] at this; exact this)
  have HCI := Lib.hid (fun (W : World) (h : SpI tt base w.heap.size W) (x : Col) (hx : x ∈ F) => show IntS W base 26 x.A x.n from by have := h.csi; rw [htt] at this; exact this x hx)
  have HI := Lib.hid hI
  have HB0 := Lib.hid hb0
  clear h hlen m4 htt hI hb0
  go_enter Try.func23, Try.ntmps23
  go_wp2_with fail
  go_loopw [10] (fun i wr => ∃ j : Nat, j ≤ Tn ∧ i = .int .i64 j ∧ Below base w wr ∧ SpI tt base w.heap.size wr) (fun i _ => Tn - (intOf i).toNat)
  case atStart => exact ⟨0, Nat.zero_le _, rfl, HB0.out, HI.out⟩
  case round =>
    obtain ⟨j, hj, rfl, hb, hI⟩ := hrel
    obtain ⟨⟨c0, c1, c2⟩, _⟩ := blk_cells3 (HBX.out _ hI)
    have HBB := Lib.hid hb
    have HII := Lib.hid hI
    by_cases hlt : j < Tn
    · obtain ⟨g, x, rfl, hg, hc, hf, hw, cur, hh⟩ := (HTY.out _ hI).cell hlt
      have HH := Lib.hid hh
      have HG := Lib.hid hg
      clear hb hI c1 c2 hg hh hw
      go_wp2_with fail
      go_roundw
      case rel => exact ⟨j + 1, by omega, by go_num, HBB.out.setCell (p := ⟨g, j, none⟩) HG.out _, HII.out.set HH.out (by decide) (u64_wrap_word _)⟩
      case measure => simp [intOf]; omega
    · have : j = Tn := by omega
      subst this
      clear hb hI c0 c2
      go_wp2_with fail
      clear c1
      go_loopw [24] (fun i wr => ∃ j : Nat, j ≤ Cn ∧ i = .int .i64 j ∧ Below base w wr ∧ SpI tt base w.heap.size wr) (fun i _ => Cn - (intOf i).toNat)
      case atStart => exact ⟨0, Nat.zero_le _, rfl, HBB.out, HII.out⟩
      case round =>
        clear HBB HII
        obtain ⟨k, hk, rfl, hb, hI⟩ := hrel
        obtain ⟨⟨c0, c1, c2⟩, _⟩ := blk_cells3 (HBX.out _ hI)
        have HBB := Lib.hid hb
        have HII := Lib.hid hI
        by_cases hlt : k < Cn
        · have e1 := List.getElem?_eq_getElem (l := F) (i := k) (by rw [L2.out]; exact hlt)
          generalize F[k]'(by rw [L2.out]; exact hlt) = x at e1
          obtain ⟨b, off, hCA, hbl, g0, g1, g2⟩ := cols_cells (Reads.of_own (HCO.out _ hI)) e1
          have HXM := Lib.hid (List.mem_of_getElem? e1)
          have hxm := M4.out x HXM.out
          obtain ⟨xW, xR, xA, xn, xc, xl⟩ := x
          simp only at g0 g1 g2 hxm
          subst hCA
          clear hb hI c0 c1 c2 e1
          go_wp2_with fail
          obtain ⟨wo, rfl⟩ : ∃ wo, wo = wr := ⟨_, rfl⟩
          have HK3 := Lib.hid (Blk.new wo 68 #[.int .i64 xW, .int .i64 xR, .slice xA xn xc])
          have HB3 := Lib.hid (HBB.out.alloc (Nat.le_trans hB HBB.out.size) (.cells #[.int .i64 xW, .int .i64 xR, .slice xA xn xc] 68))
          have HI3 := Lib.hid (HII.out.below ((Below.refl _ wo).alloc (Nat.le_refl _) (.cells #[.int .i64 xW, .int .i64 xR, .slice xA xn xc] 68)))
          clear g0 g1 g2 HBB HII
          go_hide hQ
          go_loopw [31] (fun i wr => ∃ m : Nat, m ≤ xn ∧ i = .int .i64 m ∧ Below base w wr ∧ SpI tt base w.heap.size wr ∧ Blk wr wo.heap.size 68 #[.int .i64 xW, .int .i64 xR, .slice xA xn xc]) (fun i _ => xn - (intOf i).toNat)
          case atStart => exact ⟨0, Nat.zero_le _, rfl, HB3.out, HI3.out, HK3.out⟩
          case round =>
            obtain ⟨m, hm, rfl, hb, hI, hkc⟩ := hrel
            obtain ⟨⟨c0, c1, c2⟩, _⟩ := blk_cells3 hkc
            have HBB := Lib.hid hb
            have HII := Lib.hid hI
            have HKC := Lib.hid hkc
            by_cases hlt2 : m < xn
            · obtain ⟨g, y, hxA, hg, hc, hf, hw, cur, hh⟩ := (HCI.out _ hI _ HXM.out).cell hlt2
              simp only at hxA
              subst hxA
              have HH := Lib.hid hh
              have HG := Lib.hid hg
              clear hb hI c0 c1 hg hh hw hkc
              go_wp2_with fail
              go_roundw
              case rel => exact ⟨m + 1, by omega, by go_num, HBB.out.setCell (p := ⟨g, m, none⟩) HG.out _, HII.out.set HH.out (by decide) (u64_wrap_word _), blk_far_of HKC.out HH.out (by decide) _⟩
              case measure => simp [intOf]; omega
            · have : m = xn := by omega
              subst this
              clear hb hI c0 c1 c2 hkc
              subst hQ
              go_wp2_with fail
              go_roundw
              case rel => exact ⟨k + 1, by omega, by go_num, HBB.out, HII.out⟩
              case measure => simp [intOf]; omega
        · have : k = Cn := by omega
          subst this
          clear hb hI c0 c1
          go_wp2_with fail
          clear c2
          go_loopw [46] (fun i wr => ∃ j : Nat, j ≤ En ∧ i = .int .i64 j ∧ Below base w wr ∧ SpI tt base w.heap.size wr) (fun i _ => En - (intOf i).toNat)
          case atStart => exact ⟨0, Nat.zero_le _, rfl, HBB.out, HII.out⟩
          case round =>
            clear HBB HII
            obtain ⟨j, hj, rfl, hb, hI⟩ := hrel
            obtain ⟨⟨c0, c1, c2⟩, _⟩ := blk_cells3 (HBX.out _ hI)
            have HBB := Lib.hid hb
            have HII := Lib.hid hI
            by_cases hlt : j < En
            · obtain ⟨g, x, rfl, hg, hc, hf, hw, cur, hh⟩ := (HES.out _ hI).cell hlt
              have HH := Lib.hid hh
              have HG := Lib.hid hg
              clear hb hI c0 c1 hg hh hw
              go_wp2_with fail
              go_roundw
              case rel => exact ⟨j + 1, by omega, by go_num, HBB.out.setCell (p := ⟨g, j, none⟩) HG.out _, HII.out.set HH.out (by decide) (u64_wrap_word _)⟩
              case measure => simp [intOf]; omega
            · have : j = En := by omega
              subst this
              clear hb hI c0 c1 c2
              go_wp2_with fail
              refine bodyPost_end (v := .tuple #[]) (by simp [results, Try.results23, go_sem, *]) rfl ?_
              exact ⟨rfl, HBB.out⟩
end Go.Proofs.Ytbcbknajhdaneaa
