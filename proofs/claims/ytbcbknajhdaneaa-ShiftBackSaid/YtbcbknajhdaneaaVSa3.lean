/- What is proved: shift's places: where each id stands. -/
import Derived.Test.YtbcbknajhdaneaaVSa2
import Derived.Test.YtbcbknajhdaneaaVTg4
namespace Go.Proofs.Ytbcbknajhdaneaa
open Go.RowKit Go.Maps
set_option linter.unusedVariables false
set_option linter.unusedSimpArgs false
/-- no id stands twice -/
def Inj (l : List Int) : Prop := ∀ (j k : Nat) (x : Int), l[j]? = some x → l[k]? = some x → j = k
theorem mem_take_no {l : List Int} (hn : Inj l) {k : Nat} {x : Int} (h : l[k]? = some x) : x ∉ l.take k := fun hm => by
  obtain ⟨j, hj⟩ := List.getElem?_of_mem hm
  rw [List.getElem?_take] at hj
  split at hj
  · have := hn j k x hj h
    omega
  · cases hj
theorem I.inj {l : List Int} (h : I l) : Inj l := fun j k x hj hk => by
  have e1 := ibAt_at h hj
  have e2 := ibAt_at h hk
  omega
set_option maxRecDepth 100000 in
set_option maxHeartbeats 4000000 in
theorem places_any (t : Tab) (w : World) (h : TabOk w w.heap.size t) (hn : t.Tn ≤ 65536) (hnd : Inj t.ty) :
    Calls Try.prog 127 #[t.V] w fun e w' => ∃ b, e = .returned (.map (some b)) ∧ IdxM w' b t.ty ∧ w.heap.size ≤ b ∧ Below w.heap.size w w' := by
  have hB := (Below.refl w.heap.size w).alloc (Nat.le_refl _) (.cells #[.slice t.TA t.Tn t.Tc, .slice t.CA t.Cn t.Cc, .slice t.EA t.En t.Ec] 25)
  obtain ⟨⟨c0, c1, c2⟩, _⟩ := blk_cells3 (Blk.new w 25 #[.slice t.TA t.Tn t.Tc, .slice t.CA t.Cn t.Cc, .slice t.EA t.En t.Ec])
  obtain ⟨W0, hW0⟩ : ∃ W0, W0 = w.alloc (.cells #[.slice t.TA t.Tn t.Tc, .slice t.CA t.Cn t.Cc, .slice t.EA t.En t.Ec] 25) := ⟨_, rfl⟩
  have hsz : W0.heap.size = w.heap.size + 1 := by rw [hW0]; simp
  rw [← hW0] at hB c0 c1 c2
  have hm0 := idxm_new W0
  have hb1 := hB.alloc hB.size (.map #[] 0)
  have c0' := cell_below' ((Below.refl W0.heap.size W0).alloc (Nat.le_refl _) (.map #[] 0)) c0 (by omega)
  have hl := h.len.1
  have hR := h.ty
  have hW := h.tyw
  obtain ⟨TA, Tn, Tc, l, CA, Cn, Cc, F, EA, En, Ec, es⟩ := t
  simp only at *
  unfold Tab.V
  simp only
  have HW := Lib.hid hW0
  have HS := Lib.hid hsz
  have HB1 := Lib.hid hb1
  have HM0 := Lib.hid hm0
  have HWD := Lib.hid hW
  have HND := Lib.hid hnd
  have HLL := Lib.hid hl
  clear h hW0 hB c1 c2 hW hnd hsz hb1 hm0
  have hmm := @run_makeMap Try.prog
  go_enter Try.func127, Try.ntmps127
  go_upto_region 1 with fail
  rw [← HW.out]
  go_wp2_with fail
  clear c0 c0'
  go_loopw [10] (fun i wr => ∃ k : Nat, k ≤ Tn ∧ i = .int .i64 k ∧ IdxM wr W0.heap.size (l.take k) ∧ Below w.heap.size w wr)
    (fun i _ => Tn - (intOf i).toNat)
  case atStart => exact ⟨0, Nat.zero_le _, rfl, HM0.out, HB1.out⟩
  case round =>
    obtain ⟨k, hk, rfl, hm, hb⟩ := hrel
    by_cases hlt : k < Tn
    · have e1 := List.getElem?_eq_getElem (l := l) (i := k) (by rw [HLL.out]; exact hlt)
      generalize l[k]'(by rw [HLL.out]; exact hlt) = x at e1
      obtain ⟨b, off, rfl, hbl, g⟩ := ids_cell hR e1
      have g0 := cell_below' hb g hbl
      have i1 : (k : Int) < (Tn : Int) := by omega
      have hkl : (l.take k).length = k := by rw [List.length_take, HLL.out]; omega
      obtain ⟨wm, hrun, hm2, hg2⟩ := hm.put (x := x) (HWD.out x (List.mem_of_getElem? e1)) (mem_take_no HND.out e1) (by omega)
      rw [hkl] at hrun
      rw [← take_snoc e1] at hm2
      have hb2 : Below w.heap.size w wm := hb.grown hg2 hb.size (fun k hk => by
        injection hk with hk
        have := HS.out
        omega)
      have HM2 := Lib.hid hm2
      clear e1 g hm hm2 hg2 hkl hl
      go_wp2_with fail
      go_roundw
      case rel => exact ⟨k + 1, by omega, by go_num, HM2.out, hb2⟩
      case measure => simp [intOf]; omega
    · have hke : k = Tn := by omega
      subst hke
      rw [List.take_of_length_le (by omega)] at hm
      have HM := Lib.hid hm
      have i1 : ¬ ((k : Int) < (k : Int)) := by omega
      clear hm hR hl
      go_wp2_with fail
      go_ret
      exact ⟨_, rfl, HM.out, by have := HS.out; omega, hb⟩
end Go.Proofs.Ytbcbknajhdaneaa
