/- What is proved: package value's texts: its iterator, what slices.Collect gathers of it; Text. -/
import Derived.Test.YtcfpnnkohjochaaDoorVaF
import Derived.Test.YtcfpnnkohjochaaDoorShelf
import Derived.RangeFuncBox
import Derived.RangeFuncNested
import Derived.RangeFuncBound
import Derived.RangeFuncLeaves
import Derived.RangeFuncCalls
import Derived.Shelf.Abstract
import Derived.OwnWalkIn
import Derived.TacticsInMore
import Derived.LoopNIn
import Derived.LoopIn
import Derived.Maps.AppendAt
namespace Go.Proofs.YtcfpnnkohjochaaDoor
open Go.RowKit
set_option linter.unusedVariables false
set_option linter.unusedSimpArgs false
attribute [local go_sem] Oper.semAt_some
abbrev WInt := { x : Int // Word x }
def vals (l : List WInt) : List Int := l.map (·.1)
theorem vals_word (l : List WInt) : ∀ x ∈ vals l, Word x := by
  intro x hx
  obtain ⟨y, _, rfl⟩ := List.mem_map.1 hx
  exact y.2
theorem wints : ∀ l : List Int, (∀ x ∈ l, Word x) → ∃ H : List WInt, vals H = l
  | [], _ => ⟨[], rfl⟩
  | x :: l, h => by
    obtain ⟨H, rfl⟩ := wints l (fun y hy => h y (List.mem_cons_of_mem _ hy))
    exact ⟨⟨x, h x (List.mem_cons_self ..)⟩ :: H, rfl⟩
/-- a word's text -/
def hexS (x : Int) : ByteArray := ⟨(hexL x.toNat).toArray⟩
theorem format_int (x : Int) (h : Word x) (w : World) (hT : Tz w) : Calls Tryd.prog 44 #[.int .u64 x, .int .i64 16] w fun e w' => e = .returned (.string (hexS x)) ∧ Below w.heap.size w w' := by
  obtain ⟨h0, h1⟩ := h
  obtain ⟨n, rfl⟩ : ∃ n : Nat, x = n := ⟨x.toNat, by omega⟩
  exact format_any n (by omega) w hT
def encT (x : WInt) : Array Value := #[.string (hexS x.1)]
theorem below_none {w w' : World} (h : Below w.heap.size w w') : w.grownBy w' none := ⟨h.os, h.tape, h.output, h.size, fun k hk _ => h.block k hk⟩
theorem info_str : (Tryd.prog.info? 9).map (fun i => (i.zero, i.size, i.bytes)) = some (some (.string ⟨#[]⟩), 1, 16) := by kernel_rfl
set_option maxRecDepth 100000 in
set_option maxHeartbeats 4000000 in
theorem texts1_in (n : Nat) (hn : 1 ≤ n) (l bv n₀ nn c : Nat) (A : Option Addr) (ls : List WInt) (hnn : nn ≤ 4) (J Jx : List WInt → World → Prop) (W : World) (hT : Tz W)
    (hbv : bv < n₀) (hg : 5 < n₀) (hn₀ : n₀ ≤ W.heap.size) (cv : W.cell? ⟨bv, 0, none⟩ = some (.slice A nn c)) (hR : Reads W n₀ 1 A nn (ids (vals ls))) (hJ : AbidesFrom W.heap.size J)
    (hY : ∀ pre x W1, J pre W1 → pre.length < 4 → YieldAt Fence.wide (n - 1) Tryd.prog l (encT x) W1 fun e W' =>
      (e = .returned (.bool true) ∧ J (pre ++ [x]) W' ∧ Below n₀ W1 W') ∨ (e = .returned (.bool false) ∧ Jx (pre ++ [x]) W')) (h0 : J [] W) :
    CallsIn Fence.wide n Tryd.prog 43 #[.func (.yield l) #[] #[], .pointer (some ⟨bv, 0, none⟩)] W fun e W' => (∃ v, e = .returned v) ∧
      ((∃ ys, ys = ls ∧ J ys W') ∨ (∃ pre, pre <+: ls ∧ Jx pre W')) := by
  have hl : ls.length = nn := by have := hR.1; rw [ids_len] at this; simpa [vals] using this
  have hTz := fun (W' : World) (h : Below n₀ W W') => Lib.hid (⟨Nat.lt_of_lt_of_le hT.1 h.size, cell_below' h hT.2 hg⟩ : Tz W')
  clear hT
  refine callsIn_of_wp Tryd.func43 rfl trivial ?_ rfl
  simp only [Tryd.ntmps43, List.size_toArray, List.length_cons, List.length_nil, Nat.reduceAdd, Nat.reduceSub, Array.replicate_succ, Array.replicate_zero, List.push_toArray, List.append_toArray, List.nil_append, List.cons_append]
  gi_wp2
  gi_loopw [7] (fun i wr => ∃ k : Nat, k ≤ nn ∧ i = .int .i64 k ∧ J (ls.take k) wr ∧ Below n₀ W wr ∧ W.heap.size ≤ wr.heap.size)
    (fun i _ => nn - (intOf i).toNat)
  case atStart => exact ⟨0, Nat.zero_le _, rfl, h0, Below.refl _ _, Nat.le_refl _⟩
  case round =>
    obtain ⟨k, hk, rfl, hJs, hb, hsz⟩ := hrel
    clear h0
    by_cases hlt : k < nn
    · have e1 := List.getElem?_eq_getElem (l := ls) (i := k) (by omega)
      generalize ls[k]'(by omega) = x at e1
      have e2 : (vals ls)[k]? = some x.1 := by unfold vals; rw [List.getElem?_map, e1]; rfl
      obtain ⟨b, off, rfl, hbb, g0⟩ := ids_cell hR e2
      have g1 := cell_below' hb g0 hbb
      have hlen : (ls.take k).length < 4 := by rw [List.length_take]; omega
      have hstep := take_snoc e1
      have hcx := format_int x.1 x.2 wr (hTz wr hb).out
      have hpfx : ls.take k ++ [x] <+: ls := by rw [← hstep]; exact List.take_prefix _ _
      have HT := Lib.hid hstep
      have HX := Lib.hid hpfx
      clear hstep e1 e2 g0 hR hpfx
      obtain ⟨q, hq⟩ : ∃ q, q = ls.take k := ⟨_, rfl⟩
      rw [← hq] at hJs hlen HT HX
      have HQ := Lib.hid hq
      clear hq
      gi_wp2_with (first
        | (refine ⟨trivial, ?_⟩; gi_at_call 44; (with_reducible refine (callsIn_wide.2 hcx).mono ?_); rintro e w2 ⟨rfl, hb2⟩; obtain ⟨fn, tmps, assign, body, hy, hRd⟩ := hY q x w2 (hJ _ _ _ none hJs (below_none hb2) (fun r e => by cases e)) hlen; unfold encT at hy)
        | fail)
      have hb2n := hb.trans (hb2.mono (Nat.le_trans hn₀ hsz))
      have hz2 := Nat.le_trans hsz hb2.size
      refine hRd.mono ?_
      rintro e W3 (⟨rfl, hJ3, hk3⟩ | ⟨rfl, hJx3⟩)
      · have hb3 := hb2n.trans hk3
        have hz3 : W.heap.size ≤ W3.heap.size := Nat.le_trans hz2 hk3.size
        clear hb2 hk3 hy hRd
        gi_wp2
        go_roundw
        case rel => exact ⟨k + 1, by omega, by go_num, by rw [HT.out]; exact hJ3, hb3, hz3⟩
        case measure => simp [intOf]; omega
      · clear hb2 hy hRd
        gi_wp2
        refine bodyPost_ret (results_none rfl _ _ _) rfl ?_
        exact ⟨⟨_, rfl⟩, .inr ⟨_, HX.out, hJx3⟩⟩
    · have : k = nn := by omega
      subst this
      rw [List.take_of_length_le (by omega)] at hJs
      have HJ := Lib.hid hJs
      clear hJs hR hY hJ
      gi_wp2
      go_end0
      exact ⟨⟨_, rfl⟩, .inl ⟨_, rfl, HJ.out⟩⟩
/-- a value that is the sequence of the texts of words -/
def SeqT (v : Value) (n₀ : Nat) (ys : List WInt) (w : World) : Prop :=
  ∃ bv, v = .func (.func 43) #[] #[.pointer (some ⟨bv, 0, none⟩)] ∧ ∀ n, 1 ≤ n → SeqStopsK Fence.wide n Tryd.prog 43 #[.pointer (some ⟨bv, 0, none⟩)] encT (Below n₀) (fun l => l = ys) (fun pre => pre <+: ys) 4 w
theorem texts_any (A : Option Addr) (n c : Nat) (ls : List WInt) (w : World) (hT : Tz w) (hR : Reads w w.heap.size 1 A n (ids (vals ls))) (hn : n ≤ 4) :
    Calls Tryd.prog 33 #[.slice A n c] w fun e w' => ∃ v, (e = .returned v ∧ SeqT v w'.heap.size ls w') ∧ Below w.heap.size w w' := by
  have hT0 := hT.below ((Below.refl w.heap.size w).alloc (Nat.le_refl _) (.cells #[.slice A n c] 26))
  have hR0 := (hR.alloc (Nat.le_refl _) (.cells #[.slice A n c] 26)).more (B' := (w.alloc (.cells #[.slice A n c] 26)).heap.size) (by simp)
  have hc0 := (Boxed.new w 26 (.slice A n c)).cell
  have hfin : SeqT (.func (.func 43) #[] #[.pointer (some ⟨w.heap.size, 0, none⟩)]) (w.alloc (.cells #[.slice A n c] 26)).heap.size ls (w.alloc (.cells #[.slice A n c] 26)) :=
    ⟨w.heap.size, rfl, fun n hn l J Jx W hW hJ hJx hY h0 => texts1_in n hn l w.heap.size _ _ c A ls (by omega) J Jx W (hT0.below hW) (by simp) hT0.1 hW.size (cell_below' hW hc0 (by simp)) (hR0.below hW) hJ hY h0⟩
  have HF := Lib.hid hfin
  clear hfin hT0 hR0 hc0 hT hR
  go_enter Tryd.func33, Tryd.ntmps33
  go_wp2_with fail
  go_ret
  exact ⟨_, ⟨rfl, HF.out⟩, (Below.refl _ _).alloc (Nat.le_refl _) _⟩
/-- a row of the texts of words, of the call's own -/
def OwnT (ys : List WInt) (w : World) (e : Ending) (w' : World) : Prop := ∃ v, e = .returned v ∧ w'.ownsRow w.heap.size 9 1 v ys.length (ys.map (fun x : WInt => Value.string (hexS x.1))) ∧ Below w.heap.size w w'
set_option maxRecDepth 100000 in
set_option maxHeartbeats 8000000 in
theorem append_seq (sv : Value) (n₀ : Nat) (ys : List WInt) (w : World) (hn₀ : n₀ ≤ w.heap.size) (hs : SeqT sv n₀ ys w) :
    Calls Tryd.prog 42 #[.slice none 0 0, sv] w (OwnT ys w) := by
  obtain ⟨bv, rfl, hst⟩ := hs
  obtain ⟨i0, hi0, hz0, hz1, hz2⟩ := info_parts info_str
  refine (callsIn_wide (n := 5)).1 ?_
  refine callsIn_of_wp_marks Tryd.func42 rfl trivial ?_ rfl
  simp only [Tryd.ntmps42, List.size_toArray, List.length_cons, List.length_nil, Nat.reduceAdd, Nat.reduceSub, Array.replicate_succ, Array.replicate_zero, List.push_toArray, List.append_toArray, List.nil_append, List.cons_append]
  gi_wp2
  have bO := Boxed.new w 23 (.slice none 0 0)
  have hB0 : Below w.heap.size w (w.alloc (.cells #[.slice none 0 0] 23)) := (Below.refl _ w).alloc (Nat.le_refl _) _
  refine wpIn_rangeFunc_ownG (w0 := w) rfl (by omega) (gf := 43) (lb := #[.pointer (some ⟨bv, 0, none⟩)]) rfl trivial (enters_of Tryd.func43 (by kernel_rfl) rfl)
    (hst (5 - 1) (by omega)) belowK_t (belowK_b (by simp <;> omega)) hB0 (fun _ => rfl)
    (fun pre W => (∃ v, Boxed W w.heap.size 23 v ∧ W.ownsRow w.heap.size 9 1 v pre.length (pre.map (fun x : WInt => Value.string (hexS x.1))) ∧ True) ∧ Below w.heap.size w W)
    (fun _ _ _ => False)
    (OwnFrom.and (Own.from (holdsRow_own w.heap.size w.heap.size 23 9 1 (fun pre : List WInt => pre.length) (fun pre => pre.map (fun x : WInt => Value.string (hexS x.1))) (fun _ _ => True)) _) (ownFrom_below (Nat.le_refl _) (by simp <;> omega)))
    (fun _ _ _ _ _ hs _ _ => hs)
    ⟨⟨_, bO, World.ownsRow_nil _ _ _ _, trivial⟩, hB0⟩
    (fun x => { tmps := #[.slice none 0 0, .func (.func 43) #[] #[.pointer (some ⟨bv, 0, none⟩)], .pointer (some ⟨w.heap.size, 0, none⟩), undef, .slice none 0 0, .string (hexS x.1), .func (.func 43) #[] #[.pointer (some ⟨bv, 0, none⟩)], .string (hexS x.1), undef, undef, undef, undef, undef], defers := [] }) ?assign ?body ?done ?stop
  case assign =>
    intro l x W K hK
    unfold encT
    gi_wp2
    exact hK
  case body =>
    rintro l pre x W ⟨⟨v, hv, hrow, _⟩, hB⟩ hlt
    have hc1 := hv.cell
    have hlen : pre.length ≤ 4 := by omega
    obtain ⟨A1, c1, rfl⟩ := own_slice hrow
    have HV := Lib.hid hv
    have HR := Lib.hid hrow
    gi_wp2_with (first
      | (gi_at_builtin; refine wpListIn_append_own _ rfl _ _ 23 rfl w.heap.size 9 i0 _ 1 16 Tryd.underlying23 hi0 hz0 hz1 hz2 rfl (by decide) _ _ _ rfl (HR.out.alloc _) ⟨W.heap.size, 0, none⟩ 1 1 [Value.string (hexS x.1)] rfl rfl (cell_one_new _ _ _) (by simp [Value.oneCell']) (by simp only [maxLen]; omega) (by omega) (by have := hB.size; simp; omega) ?_; intro v' w1 hown' hgrow _; obtain ⟨g', cap', rfl⟩ := ownsRow_succ hown'; obtain ⟨hv1, hv2, hr2, hk2, hb2⟩ := HV.out.appended (by decide) HR.out hB.size (by omega) hown' hgrow; have hc1 := hv1.cell; have hf1 := hv1.frozen)
      | fail)
    exact ⟨hk2.from _, hb2.mono hn₀, ⟨_, hv2, by simpa using hr2, trivial⟩, hB.trans hb2⟩
  case done =>
    rintro D ys' W hD rfl ⟨⟨v, hv, hrow, _⟩, hB⟩ hK
    have hc := hv.cell
    obtain ⟨A1, c1, rfl⟩ := own_slice hrow
    gi_wp2
    refine ⟨by simp, .inl ⟨_, _, rfl, run_takeDeferred hK, ?_⟩⟩
    exact ⟨_, results_tmp rfl _ _ _, _, rfl, ownsRow_putObj hrow _ hK rfl, hB.trans (belowK_b (w := w) (Nat.le_refl _) W D _ _ (by simp at hD; omega) hK rfl rfl)⟩
  case stop =>
    rintro D c pre W _ _ h _
    exact h.elim
end Go.Proofs.YtcfpnnkohjochaaDoor
