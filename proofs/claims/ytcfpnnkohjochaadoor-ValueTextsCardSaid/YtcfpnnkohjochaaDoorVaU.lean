/- What is proved: how widths by value read as an argument; a guarded load of a row; the walk of the law ValueFits. -/
import Derived.Test.YtcfpnnkohjochaaDoorVaT
import Derived.OpenShut
import Derived.Deep.Slices
namespace Go.Proofs.YtcfpnnkohjochaaDoor
open Go.RowKit
set_option linter.unusedVariables false
set_option linter.unusedSimpArgs false
section
open Go.Deep Go.ChangeShapes Go.WideShapes
theorem wd_cells : Tryd.prog.cellsOf 43 = 24 := by kernel_rfl
theorem int_cells : Tryd.prog.cellsOf 3 = 1 := by kernel_rfl
set_option maxRecDepth 100000 in
theorem open_wid {H : Type} {enc : TypeId × Value → H} {W : World} {base : Nat} {sp : Nat → Bool} {held : Bool} {r : Reach} {b0 : Nat} {v : Value} {d : DataW H} {p : List MemPlace}
    (hv : Value.okWide Tryd.prog W r b0 43 v) (h : DataW.Trod enc Tryd.prog W base sp held 43 v d p) : ∃ L : List Int, v = .agg (wdV L) ∧ L.length = 24 := by
  simp only [Value.okWide, Tryd.underlying43] at hv
  obtain ⟨cs, rfl, hsz, _⟩ := hv
  rw [wd_cells] at hsz
  obtain ⟨fuel, hf⟩ := h
  obtain ⟨xs, k, hk, hxy, _, hxl, hf2⟩ := DataW.trod_array Tryd.underlying43 hf
  have each : ∀ j, j < 24 → ∃ z : Int, cs[j]? = some (.int .i64 z) := by
    intro j hj
    have g := hf2 j hj
    rw [int_cells] at g
    obtain ⟨y, hy⟩ : ∃ y, xs[j]? = some y := ⟨_, List.getElem?_eq_getElem (by omega)⟩
    rw [hy] at g
    obtain ⟨z, e0, _, _⟩ := DataW.trod_int Tryd.underlying3 g
    refine ⟨z, ?_⟩
    have e1 : ((cs.toList.drop (j * 1)).take 1)[0]? = some (.int .i64 z) := by
      have : (Value.agg cs).cells.toList = cs.toList := rfl
      rw [this] at e0
      rw [e0]; rfl
    rw [List.getElem?_take_of_lt (by omega), List.getElem?_drop] at e1
    simpa using e1
  obtain ⟨q, hq⟩ := choose_lt each
  refine ⟨(List.range 24).map q, ?_, by simp⟩
  unfold wdV
  congr 1
  apply Array.ext_getElem?
  intro j
  by_cases hj : j < 24
  · rw [hq j hj]; simp [hj]
  · have e1 : cs[j]? = none := Array.getElem?_eq_none (by omega)
    rw [e1, Eq.comm, Array.getElem?_eq_none_iff]
    simp; omega
end
section
variable {P : Program}
theorem wpList_load_row_gd {ops : Array Oper} {rest : List Oper} {o : Oper} {a : Act} {w : World} {Q : Exit → Act → World → Prop} (hw : Region.wanted o (yielded ops a.tmps) = true) (ty : TypeId) (x : Operand) (ho : o.op = .load ty x)
    (g : Nat) (hx : a.eval x = .pointer (some ⟨g, 0, none⟩)) (t : TypeId) (cs : Array Value) (fr : Nat × Nat) (d : TypeDesc) (hg : w.heap[g]? = some (.cells cs t fr))
    (hu : P.underlying ty = some d) (hd : (match d with | .struct _ | .array _ _ => true | _ => false) = true) (hi : (P.info? ty).map (·.size) = some cs.size)
    (h : wpList P ops Q rest (a.put o.dst (.agg cs)) w) : wpList P ops Q (o :: rest) a w := by
  show (if _ then _ else _)
  rw [if_pos hw]
  exact .inl (wp_load_row ty x ho g hx t cs fr d hg hu hd hi h)
end
theorem wd_in {L : List Int} (hL : L.length = 24) (h : wideE L = 0) {c : Int} (h1 : 1 ≤ c) (h2 : c ≤ 24) : 0 ≤ wdAt L c ∧ wdAt L c ≤ 4 := by
  have hb : wideB L = true := by
    unfold wideE at h
    cases e : wideB L with
    | true => rfl
    | false => rw [e] at h; simp at h
  have hm := List.mem_of_getElem? (wdAt_at hL h1 h2)
  unfold wideB at hb
  have := List.all_eq_true.1 hb _ hm
  simpa using this
/-- zeros, and an error -/
def ZeroK (m : Nat) (x : Int) (w : World) (e : Ending) (w' : World) : Prop := ∃ A c, e = .returned (.tuple #[.slice A m c, .int .i64 x]) ∧ m ≤ 8 ∧ Below w.heap.size w w'
theorem zero_ways (k : Int) : (k < 0 ∧ ∀ w, Calls Tryd.prog 20 #[.int .i64 k] w (ZeroK 0 2 w)) ∨ (0 ≤ k ∧ 4 < k ∧ ∀ w, Calls Tryd.prog 20 #[.int .i64 k] w (ZeroK 0 2 w)) ∨ (∃ m : Nat, k = m ∧ m ≤ 4 ∧ ∀ w, Calls Tryd.prog 20 #[.int .i64 k] w (ZeroK m 0 w)) := by
  have hl : ∀ k, (zerosL k).length = k := fun k => by unfold zerosL; simp
  rcases (show k < 0 ∨ (0 ≤ k ∧ 4 < k) ∨ (0 ≤ k ∧ k ≤ 4) from by omega) with h | ⟨h, h2⟩ | ⟨h, h2⟩
  · refine .inl ⟨h, fun w => (zero_v k w).mono ?_⟩
    rintro e w' ⟨v, rfl, ho, hb⟩
    rw [if_neg (by omega), hl] at ho
    rw [if_neg (by omega)]
    obtain ⟨A, c, rfl⟩ := own_slice ho
    exact ⟨A, c, rfl, by omega, hb⟩
  · refine .inr (.inl ⟨h, h2, fun w => (zero_v k w).mono ?_⟩)
    rintro e w' ⟨v, rfl, ho, hb⟩
    rw [if_neg (by omega), hl] at ho
    rw [if_neg (by omega)]
    obtain ⟨A, c, rfl⟩ := own_slice ho
    exact ⟨A, c, rfl, by omega, hb⟩
  · refine .inr (.inr ⟨k.toNat, by omega, by omega, fun w => (zero_v k w).mono ?_⟩)
    rintro e w' ⟨v, rfl, ho, hb⟩
    rw [if_pos ⟨h, h2⟩, hl] at ho
    rw [if_pos ⟨h, h2⟩]
    obtain ⟨A, c, rfl⟩ := own_slice ho
    exact ⟨A, c, rfl, by omega, hb⟩
set_option maxRecDepth 100000 in
set_option maxHeartbeats 8000000 in
theorem fits_law (L : List Int) (hL : L.length = 24) (c k : Int) (w : World) (hE : Env w) : Calls Tryd.prog 5 #[.agg (wdV L), .int .i64 c, .int .i64 k] w fun e w' => e = .returned (.bool true) ∧ Below w.heap.size w w' := by
  have hin : (Tryd.prog.info? 43).map (·.size) = some (wdV L).size := by rw [info_wd, wdV_size, hL]
  have hbk := last_blk w (.cells (wdV L) 43)
  have HIN := Lib.hid hin
  have hB := (Below.refl w.heap.size w).alloc (Nat.le_refl _) (.cells (wdV L) 43)
  have h1 := Below.refl (w.alloc (.cells (wdV L) 43)).heap.size (w.alloc (.cells (wdV L) 43))
  have HBK := fun (W : World) (h : Below (w.alloc (.cells (wdV L) 43)).heap.size (w.alloc (.cells (wdV L) 43)) W) => (h.block w.heap.size (by simp)).trans hbk
  have cw := fun (W : World) (h : Below w.heap.size w W) => wakes_any W (hE.below h)
  have ct := fun W => width_v L hL c W
  have ce := fun W => wide_v L hL W
  have cf := fun (A : Option Addr) (n cp : Nat) (hn : n ≤ 8) W => fits_v L hL c A n cp (by omega) W
  have key : (∃ x : Int, widE L c = x ∧ (x == 0) = false ∧ (x != 0) = true) ∨ (∃ v : Int, wideE L = 0 ∧ widE L c = 0 ∧ widV L c = v ∧ (decide (v < 0)) = false ∧ decide (4 < v) = false) := by
    rcases wid_ways L c with ⟨k1, k8, k9⟩ | ⟨k1, k2, k8, k9⟩ | ⟨k1, k2, k3, k8, k9⟩ | ⟨k1, k2, k3, k8, k9⟩
    · exact .inl ⟨_, k8, rfl, rfl⟩
    · exact .inl ⟨_, k8, rfl, rfl⟩
    · exact .inl ⟨_, k8, rfl, rfl⟩
    · obtain ⟨a, b⟩ := wd_in hL k1 k2 k3
      exact .inr ⟨_, k1, k8, k9, decide_eq_false (by omega), decide_eq_false (by omega)⟩
  clear hin hbk hE hL
  rcases key with ⟨x, k1, k2, k3⟩ | ⟨v, k1, k2, k3, k4, k5⟩
  · rw [k1] at ct cf
    rw [k2] at cf
    clear k1
    have cf := fun A n cp hn W => (cf A n cp hn W).mono (R' := fun e w' => e = .returned (.bool false) ∧ Below W.heap.size W w') (fun e w' h => ⟨by rw [h.1, Bool.false_and], h.2⟩)
    rcases zero_ways k with ⟨z1, cz⟩ | ⟨z1, z2, cz⟩ | ⟨m, rfl, z2, cz⟩
    all_goals
      go_enter Tryd.func5, Tryd.ntmps5
      go_wp2_with (first
        | (refine wpList_load_row rfl 43 (.tmp 3) rfl w.heap.size rfl 43 (wdV L) (0, 0) _ (HBK _ h1) Tryd.underlying43 rfl HIN.out ?_)
        | (go_at_call 9; ((with_reducible refine (cw _ hB).mono ?_); rintro e w1 ⟨rfl, hb1⟩; have hB := hB.trans (hb1.mono hB.size); have h1 := h1.trans (hb1.mono h1.size)))
        | (go_at_call 19; ((with_reducible refine (ct _).mono ?_); rintro e w2 ⟨rfl, hb2⟩; have hB := hB.trans (hb2.mono hB.size); have h1 := h1.trans (hb2.mono h1.size)))
        | (go_at_call 20; ((with_reducible refine (cz _).mono ?_); rintro e w3 ⟨A3, c3, rfl, hm3, hb3⟩; have hB := hB.trans (hb3.mono hB.size); have h1 := h1.trans (hb3.mono h1.size)))
        | (go_at_call 21; ((with_reducible refine (cf _ _ _ hm3 _).mono ?_); rintro e w4 ⟨rfl, hb4⟩; have hB := hB.trans (hb4.mono hB.size); have h1 := h1.trans (hb4.mono h1.size)))
        | fail)
      go_ret
      exact ⟨rfl, hB⟩
  · rw [k2, k3] at ct cf
    rw [k1] at ce
    clear k1 k2 k3
    rcases zero_ways k with ⟨z1, cz⟩ | ⟨z1, z2, cz⟩ | ⟨m, rfl, z2, cz⟩
    all_goals
      (try have z3 := decide_eq_false (show ¬ (k < 0) by omega))
      go_enter Tryd.func5, Tryd.ntmps5
      go_wp2_with (first
        | (refine wpList_load_row rfl 43 (.tmp 3) rfl w.heap.size rfl 43 (wdV L) (0, 0) _ (HBK _ h1) Tryd.underlying43 rfl HIN.out ?_)
        | (refine wpList_load_row_gd rfl 43 (.tmp 3) rfl w.heap.size rfl 43 (wdV L) (0, 0) _ (HBK _ h1) Tryd.underlying43 rfl HIN.out ?_)
        | (go_at_call 9; ((with_reducible refine (cw _ hB).mono ?_); rintro e w1 ⟨rfl, hb1⟩; have hB := hB.trans (hb1.mono hB.size); have h1 := h1.trans (hb1.mono h1.size)))
        | (go_at_call 19; ((with_reducible refine (ct _).mono ?_); rintro e w2 ⟨rfl, hb2⟩; have hB := hB.trans (hb2.mono hB.size); have h1 := h1.trans (hb2.mono h1.size)))
        | (go_at_call 22; ((with_reducible refine (ce _).mono ?_); rintro e w5 ⟨rfl, hb5⟩; have hB := hB.trans (hb5.mono hB.size); have h1 := h1.trans (hb5.mono h1.size)))
        | (go_at_call 20; ((with_reducible refine (cz _).mono ?_); rintro e w3 ⟨A3, c3, rfl, hm3, hb3⟩; have hB := hB.trans (hb3.mono hB.size); have h1 := h1.trans (hb3.mono h1.size)))
        | (go_at_call 21; ((with_reducible refine (cf _ _ _ hm3 _).mono ?_); rintro e w4 ⟨rfl, hb4⟩; have hB := hB.trans (hb4.mono hB.size); have h1 := h1.trans (hb4.mono h1.size)))
        | fail)
      go_ret
      first | exact ⟨rfl, hB⟩ | exact ⟨by simp, hB⟩
theorem fits_row (L : List Int) (hL : L.length = 24) (c : Int) (hc : (Lit.int .i64 c).wf = true) (k : Int) (hk : (Lit.int .i64 k).wf = true) (w : World) (hE : Env w) : Calls Tryd.prog 5 #[.agg (wdV L), .int .i64 c, .int .i64 k] w fun e w' => e = .returned (.bool true) ∧ Below w.heap.size w w' :=
  fits_law L hL c k w hE
end Go.Proofs.YtcfpnnkohjochaaDoor
