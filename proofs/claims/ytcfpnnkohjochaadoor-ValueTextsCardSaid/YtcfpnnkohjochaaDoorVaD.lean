/- What is proved: widths (an array of 24 numbers); contracts of Wide, Width, Fits, and of the document's Wide, Component, Fits; zeros. -/
import Derived.Test.YtcfpnnkohjochaaDoorVaC
import Derived.Laws.Rows
import Derived.Laws.Cells
import Derived.Laws.CopyOwn
import Derived.OwnWalk
namespace Go.Proofs.YtcfpnnkohjochaaDoor
open Go.RowKit
set_option linter.unusedVariables false
set_option linter.unusedSimpArgs false
def wdV (L : List Int) : Array Value := (L.map (Value.int .i64)).toArray
theorem wdV_size (L : List Int) : (wdV L).size = L.length := by unfold wdV; simp
theorem wdV_at {L : List Int} {k : Nat} {x : Int} (h : L[k]? = some x) : (wdV L)[k]? = some (.int .i64 x) := by unfold wdV; simp [h]
def wideB (L : List Int) : Bool := L.all fun n => decide (0 ≤ n ∧ n ≤ 4)
theorem wide_step {L : List Int} {k : Nat} {x : Int} (h : L[k]? = some x) (hq : wideB (L.take k) = true) (hx : 0 ≤ x ∧ x ≤ 4) : wideB (L.take (k + 1)) = true := by
  rw [take_snoc h]
  unfold wideB at hq ⊢
  rw [List.all_append, hq]
  simp [hx]
theorem wide_no {L : List Int} {k : Nat} {x : Int} (h : L[k]? = some x) (hx : ¬ (0 ≤ x ∧ x ≤ 4)) : wideB L = false := by
  unfold wideB
  rw [List.all_eq_false]
  exact ⟨x, List.mem_of_getElem? h, by simpa using hx⟩
theorem load24 {P : Program} {W : World} {b : Nat} {cs : Array Value} (hsz : cs.size = 24) (h : ∀ j v, cs[j]? = some v → W.cell? ⟨b, j, none⟩ = some v) : (loadCellsFrom ⟨b, 0, none⟩ 0 24 #[]).run P W = .ok cs W := by
  have := run_loadCells_list (P := P) W ⟨b, 0, none⟩ cs.toList (fun j v hv => by
    rw [add_none, Nat.zero_add]
    exact h j v (by simpa using hv))
  have e : cs.toList.length = 24 := by simpa using hsz
  rw [e] at this
  simpa [loadCells] using this
theorem new_cell (w : World) (t : TypeId) (cs : Array Value) {k : Nat} {v : Value} (h : cs[k]? = some v) : (w.alloc (.cells cs t)).cell? ⟨w.heap.size, k, none⟩ = some v := by
  rw [World.cell?_alloc_mark w cs t (0, 0) k]; exact h
def wideE (L : List Int) : Int := if wideB L then 0 else 141
set_option maxRecDepth 100000 in
set_option maxHeartbeats 2000000 in
theorem wide_v (L : List Int) (hL : L.length = 24) (w : World) : Calls Tryd.prog 22 #[.agg (wdV L)] w fun e w' => e = .returned (.int .i64 (wideE L)) ∧ Below w.heap.size w w' := by
  have HLN := Lib.hid hL
  go_enter Tryd.func22, Tryd.ntmps22
  go_wp2_with fail
  go_loopw [4] (fun i wr => ∃ k : Nat, k ≤ 24 ∧ i = .int .i64 k ∧ wideB (L.take k) = true ∧ wr = w.alloc (.cells (wdV L) 43))
    (fun i _ => 24 - (intOf i).toNat)
  case atStart => exact ⟨0, Nat.zero_le _, rfl, rfl, rfl⟩
  case round =>
    obtain ⟨k, hk, rfl, hq, rfl⟩ := hrel
    have hb := (Below.refl w.heap.size w).alloc (Nat.le_refl _) (.cells (wdV L) 43)
    by_cases hlt : k < 24
    · have e1 := List.getElem?_eq_getElem (l := L) (i := k) (by omega)
      generalize L[k]'(by omega) = x at e1
      have g := new_cell w 43 (wdV L) (wdV_at e1)
      have i1 : (k : Int) < (24 : Int) := by omega
      rcases (show x < 0 ∨ (0 ≤ x ∧ 4 < x) ∨ (0 ≤ x ∧ x ≤ 4) from by omega) with h | ⟨h, h2⟩ | ⟨h, h2⟩
      · have hf := Lib.hid (show wideE L = 141 from by unfold wideE; rw [wide_no e1 (by omega)]; rfl)
        clear hq e1 hL
        go_wp2_with fail
        try rw [Exit.noGoto_ret]
        go_ret
        exact ⟨by rw [hf.out] <;> rfl, hb⟩
      · have hf := Lib.hid (show wideE L = 141 from by unfold wideE; rw [wide_no e1 (by omega)]; rfl)
        clear hq e1 hL
        go_wp2_with fail
        try rw [Exit.noGoto_ret]
        go_ret
        exact ⟨by rw [hf.out] <;> rfl, hb⟩
      · have hf := Lib.hid (wide_step e1 hq ⟨h, h2⟩)
        clear hq e1 hL
        go_wp2_with fail
        go_roundw
        case rel => exact ⟨k + 1, by omega, by go_num, hf.out, by trivial⟩
        case measure => simp [intOf]; omega
    · have hkq : k = 24 := by omega
      subst hkq
      rw [List.take_of_length_le (by omega)] at hq
      have hf := Lib.hid (show wideE L = 0 from by unfold wideE; rw [hq]; rfl)
      clear hq hL
      go_wp2_with fail
      try rw [Exit.noGoto_ret]
      go_ret
      exact ⟨by rw [hf.out] <;> rfl, hb⟩
theorem info_wd : (Tryd.prog.info? 43).map (·.size) = some 24 := by kernel_rfl
theorem last_blk (w : World) (o : Obj) : (w.alloc o).heap[w.heap.size]? = some o := by
  show (w.heap.push o)[w.heap.size]? = some o
  simp
theorem run_index_wd {L : List Int} {k : Nat} {x : Int} (h : L[k]? = some x) (hL : L.length = 24) (W : World) : (Instr.index 43 (.agg (wdV L)) (.int .i64 k)).run Tryd.prog W = .ok (.int .i64 x) W := by
  have hk : k < 24 := by have := (List.getElem?_eq_some_iff.1 h).1; omega
  have hu := run_underlying (P := Tryd.prog) Tryd.underlying43
  have hg := wdV_at h
  simp [Instr.index, hu, go_sem, hk, part, hg]
/-- the width at a place -/
def wdAt (L : List Int) (c : Int) : Int := L.getD (c - 1).toNat 0
def widE (L : List Int) (c : Int) : Int := if wideB L then (if 1 ≤ c ∧ c ≤ 24 then 0 else 2) else 141
def widV (L : List Int) (c : Int) : Int := if widE L c = 0 then wdAt L c else 0
theorem wid_ways (L : List Int) (c : Int) : (wideE L = 141 ∧ widE L c = 141 ∧ widV L c = 0) ∨ (wideE L = 0 ∧ c < 1 ∧ widE L c = 2 ∧ widV L c = 0) ∨ (wideE L = 0 ∧ 1 ≤ c ∧ 24 < c ∧ widE L c = 2 ∧ widV L c = 0) ∨ (wideE L = 0 ∧ 1 ≤ c ∧ c ≤ 24 ∧ widE L c = 0 ∧ widV L c = wdAt L c) := by
  unfold widV widE wideE
  cases wideB L
  · left; simp
  · right
    rcases (show c < 1 ∨ (1 ≤ c ∧ 24 < c) ∨ (1 ≤ c ∧ c ≤ 24) from by omega) with h | ⟨h, h2⟩ | ⟨h, h2⟩
    · left; simp [h, show ¬ (1 ≤ c ∧ c ≤ 24) from by omega]
    · right; left; simp [h, h2, show ¬ (1 ≤ c ∧ c ≤ 24) from by omega]
    · right; right; simp [h, h2]
theorem wdAt_at {L : List Int} {c : Int} (hL : L.length = 24) (h1 : 1 ≤ c) (h2 : c ≤ 24) : L[(c - 1).toNat]? = some (wdAt L c) := by
  unfold wdAt
  rw [List.getD_eq_getElem?_getD, List.getElem?_eq_getElem (by omega)]
  rfl
set_option maxRecDepth 100000 in
set_option maxHeartbeats 2000000 in
theorem width_v (L : List Int) (hL : L.length = 24) (c : Int) (w : World) : Calls Tryd.prog 19 #[.agg (wdV L), .int .i64 c] w fun e w' => e = .returned (.tuple #[.int .i64 (widV L c), .int .i64 (widE L c)]) ∧ Below w.heap.size w w' := by
  have hin : (Tryd.prog.info? 43).map (·.size) = some (wdV L).size := by rw [info_wd, wdV_size, hL]
  have hbk := last_blk w (.cells (wdV L) 43)
  have HIN := Lib.hid hin
  have HBK := Lib.hid hbk
  clear hin hbk
  have cw := fun W => wide_v L hL W
  have hb0 := (Below.refl w.heap.size w).alloc (Nat.le_refl _) (.cells (wdV L) 43)
  rcases wid_ways L c with ⟨k1, k8, k9⟩ | ⟨k1, k2, k8, k9⟩ | ⟨k1, k2, k3, k8, k9⟩ | ⟨k1, k2, k3, k8, k9⟩
  · rw [k8, k9]
    rw [k1] at cw
    clear k1 k8 k9 hL
    go_enter Tryd.func19, Tryd.ntmps19
    go_wp2_with (first
      | (refine wpList_load_row rfl 43 (.tmp 2) rfl w.heap.size rfl 43 (wdV L) (0, 0) _ HBK.out Tryd.underlying43 rfl HIN.out ?_)
      | (go_at_call 22; ((with_reducible refine (cw _).mono ?_); rintro e w1 ⟨rfl, hb1⟩))
      | fail)
    go_ret2
    exact ⟨rfl, hb0.trans (hb1.mono (by simp))⟩
  · rw [k8, k9]
    rw [k1] at cw
    clear k1 k8 k9 hL
    go_enter Tryd.func19, Tryd.ntmps19
    go_wp2_with (first
      | (refine wpList_load_row rfl 43 (.tmp 2) rfl w.heap.size rfl 43 (wdV L) (0, 0) _ HBK.out Tryd.underlying43 rfl HIN.out ?_)
      | (go_at_call 22; ((with_reducible refine (cw _).mono ?_); rintro e w1 ⟨rfl, hb1⟩))
      | fail)
    go_ret2
    exact ⟨rfl, hb0.trans (hb1.mono (by simp))⟩
  · rw [k8, k9]
    rw [k1] at cw
    have t1 : decide (c < 1) = false := decide_eq_false (by omega)
    clear k1 k8 k9 hL
    go_enter Tryd.func19, Tryd.ntmps19
    go_wp2_with (first
      | (refine wpList_load_row rfl 43 (.tmp 2) rfl w.heap.size rfl 43 (wdV L) (0, 0) _ HBK.out Tryd.underlying43 rfl HIN.out ?_)
      | (go_at_call 22; ((with_reducible refine (cw _).mono ?_); rintro e w1 ⟨rfl, hb1⟩))
      | fail)
    go_ret2
    exact ⟨rfl, hb0.trans (hb1.mono (by simp))⟩
  · rw [k8, k9]
    rw [k1] at cw
    obtain ⟨k, hk, hk24⟩ : ∃ k : Nat, c = (k : Int) + 1 ∧ k < 24 := ⟨(c - 1).toNat, by omega, by omega⟩
    have g0 := new_cell w 43 (wdV L) (wdV_at (wdAt_at hL k2 k3))
    generalize wdAt L c = x at *
    have hk9 : (c - 1).toNat = k := by omega
    rw [hk9] at g0
    have t1 : decide (c < 1) = false := decide_eq_false (by omega)
    have t2 : decide (24 < c) = false := decide_eq_false (by omega)
    have t5 : ¬ (24 < (k : Int) + 1) := by omega
    have t6 : ¬ ((k : Int) + 1 < 1) := by omega
    have t7 : (k : Int) < 24 := by omega
    clear hk9
    subst hk
    have hg := fun (W : World) (h : Below (w.heap.size + 1) (w.alloc (.cells (wdV L) 43)) W) => cell_below' h g0 (by simp)
    clear k1 k8 k9 hL
    go_enter Tryd.func19, Tryd.ntmps19
    go_wp2_with (first
      | (refine wpList_load_row rfl 43 (.tmp 2) rfl w.heap.size rfl 43 (wdV L) (0, 0) _ HBK.out Tryd.underlying43 rfl HIN.out ?_)
      | (go_at_call 22; ((with_reducible refine (cw _).mono ?_); rintro e w1 ⟨rfl, hb1⟩; have hb2 := hb1.mono (show w.heap.size + 1 ≤ _ from by simp); have g1 := hg _ hb2; have hb3 := hb0.trans (hb1.mono (show w.heap.size ≤ _ from by simp)); clear hb1 hb2))
      | fail)
    go_ret2
    exact ⟨rfl, hb3⟩
theorem fits_v (L : List Int) (hL : L.length = 24) (c : Int) (A : Option Addr) (n cp : Nat) (hn : n ≤ 281474976710656) (w : World) : Calls Tryd.prog 21 #[.agg (wdV L), .int .i64 c, .slice A n cp] w fun e w' => e = .returned (.bool (widE L c == 0 && (n : Int) == widV L c)) ∧ Below w.heap.size w w' := by
  have hin : (Tryd.prog.info? 43).map (·.size) = some (wdV L).size := by rw [info_wd, wdV_size, hL]
  have hbk := last_blk w (.cells (wdV L) 43)
  have HIN := Lib.hid hin
  have HBK := Lib.hid hbk
  clear hin hbk
  have cw := fun W => width_v L hL c W
  have hb0 := (Below.refl w.heap.size w).alloc (Nat.le_refl _) (.cells (wdV L) 43)
  generalize widE L c = e at *
  generalize widV L c = v at *
  clear hL
  cases t : (e == 0)
  all_goals
    try have t0 : (e != 0) = true := by simpa using t
    go_enter Tryd.func21, Tryd.ntmps21
    go_wp2_with (first
      | (refine wpList_load_row rfl 43 (.tmp 3) rfl w.heap.size rfl 43 (wdV L) (0, 0) _ HBK.out Tryd.underlying43 rfl HIN.out ?_)
      | (go_at_call 19; ((with_reducible refine (cw _).mono ?_); rintro e w1 ⟨rfl, hb1⟩))
      | fail)
    go_ret
    exact ⟨by simp, hb0.trans (hb1.mono (by simp))⟩
set_option maxRecDepth 100000 in
set_option maxHeartbeats 2000000 in
theorem rwide_v (L : List Int) (hL : L.length = 24) (w : World) : Calls Tryd.prog 23 #[.agg (wdV L)] w fun e w' => e = .returned (.bool (wideB L)) ∧ Below w.heap.size w w' := by
  have hin : (Tryd.prog.info? 43).map (·.size) = some (wdV L).size := by rw [info_wd, wdV_size, hL]
  have hbk := last_blk w (.cells (wdV L) 43)
  have HIN := Lib.hid hin
  have HBK := Lib.hid hbk
  clear hin hbk
  have hb := (Below.refl w.heap.size w).alloc (Nat.le_refl _) (.cells (wdV L) 43)
  go_enter Tryd.func23, Tryd.ntmps23
  go_wp2_with (first
    | (refine wpList_load_row rfl 43 (.tmp 1) rfl w.heap.size rfl 43 (wdV L) (0, 0) _ HBK.out Tryd.underlying43 rfl HIN.out ?_)
    | fail)
  go_loop [6] (fun i => ∃ k : Nat, k ≤ 24 ∧ i = .int .i64 k ∧ wideB (L.take k) = true)
    (fun i => 24 - (intOf i).toNat)
  case atStart => exact ⟨0, Nat.zero_le _, rfl, rfl⟩
  case round =>
    obtain ⟨k, hk, rfl, hq⟩ := hrel
    by_cases hlt : k < 24
    · have e1 := List.getElem?_eq_getElem (l := L) (i := k) (by omega)
      generalize L[k]'(by omega) = x at e1
      have g := run_index_wd e1 hL
      have i1 : (k : Int) < (24 : Int) := by omega
      rcases (show x < 0 ∨ (0 ≤ x ∧ 4 < x) ∨ (0 ≤ x ∧ x ≤ 4) from by omega) with h | ⟨h, h2⟩ | ⟨h, h2⟩
      · have hf := Lib.hid (wide_no e1 (show ¬ (0 ≤ x ∧ x ≤ 4) from by omega))
        clear hq e1 hL
        go_wp2_with fail
        try rw [Exit.noGoto_ret]
        go_ret
        exact ⟨by rw [hf.out] <;> rfl, hb⟩
      · have hf := Lib.hid (wide_no e1 (show ¬ (0 ≤ x ∧ x ≤ 4) from by omega))
        clear hq e1 hL
        go_wp2_with fail
        try rw [Exit.noGoto_ret]
        go_ret
        exact ⟨by rw [hf.out] <;> rfl, hb⟩
      · have hf := Lib.hid (wide_step e1 hq ⟨h, h2⟩)
        clear hq e1 hL
        go_wp2_with fail
        go_round
        case rel => exact ⟨k + 1, by omega, by go_num, hf.out⟩
        case measure => simp [intOf]; omega
    · have hkq : k = 24 := by omega
      subst hkq
      rw [List.take_of_length_le (by omega)] at hq
      have hf := Lib.hid hq
      clear hq hL
      go_wp2_with fail
      try rw [Exit.noGoto_ret]
      go_ret
      exact ⟨by rw [hf.out] <;> rfl, hb⟩
def compB (c : Int) : Bool := decide (1 ≤ c ∧ c ≤ 24)
theorem comp_v (c : Int) (w : World) : Calls Tryd.prog 24 #[.int .i64 c] w fun e w' => e = .returned (.bool (compB c)) ∧ w = w' := by
  unfold compB
  rcases (show c < 1 ∨ (1 ≤ c ∧ 24 < c) ∨ (1 ≤ c ∧ c ≤ 24) from by omega) with h | ⟨h, h2⟩ | ⟨h, h2⟩
  · have t : decide (1 ≤ c) = false := decide_eq_false (by omega)
    rw [show decide (1 ≤ c ∧ c ≤ 24) = false from decide_eq_false (by omega)]
    go_enter Tryd.func24, Tryd.ntmps24
    go_wp2_with fail
    go_ret
    exact ⟨rfl, rfl⟩
  · have t : decide (1 ≤ c) = true := decide_eq_true (by omega)
    have t2 : decide (c ≤ 24) = false := decide_eq_false (by omega)
    rw [show decide (1 ≤ c ∧ c ≤ 24) = false from decide_eq_false (by omega)]
    go_enter Tryd.func24, Tryd.ntmps24
    go_wp2_with fail
    go_ret
    exact ⟨rfl, rfl⟩
  · have t : decide (1 ≤ c) = true := decide_eq_true (by omega)
    have t2 : decide (c ≤ 24) = true := decide_eq_true (by omega)
    rw [show decide (1 ≤ c ∧ c ≤ 24) = true from decide_eq_true (by omega)]
    go_enter Tryd.func24, Tryd.ntmps24
    go_wp2_with fail
    go_ret
    exact ⟨rfl, rfl⟩
end Go.Proofs.YtcfpnnkohjochaaDoor
