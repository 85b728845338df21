/- What is proved: types' some: its iterator, for every loop body; the closures that ask. -/
import Derived.Test.YtibjelonabhcmaaDoorTrX
import Derived.RangeFuncBox
import Derived.RangeFuncNested
import Derived.RangeFuncBound
import Derived.RangeFuncLeaves
import Derived.Shelf.Abstract
import Derived.OwnWalkIn
import Derived.TacticsInMore
import Derived.LoopNIn
import Derived.LoopIn
import Derived.Maps.AppendAt
namespace Go.Proofs.YtibjelonabhcmaaDoor
open Go.RowKit
set_option linter.unusedVariables false
set_option linter.unusedSimpArgs false
attribute [local go_sem] Oper.semAt_some
abbrev WInt := { x : Int // Word x }
def vals (l : List WInt) : List Int := l.map (·.1)
def encW (x : WInt) : Array Value := #[.int .u64 x.1]
def sel (l : List WInt) (p : Int → Bool) : List WInt := if tyR (vals l) then l.filter (fun x => p x.1) else []
theorem below_none {w w' : World} (h : Below w.heap.size w w') : w.grownBy w' none := ⟨h.os, h.tape, h.output, h.size, fun k hk _ => h.block k hk⟩
theorem vals_word (l : List WInt) : ∀ x ∈ vals l, Word x := by
  intro x hx
  obtain ⟨y, _, rfl⟩ := List.mem_map.1 hx
  exact y.2
/-- a closure over one cell that asks an id -/
def Asks (g bp : Nat) (p : Int → Bool) (n₀ : Nat) (W : World) : Prop :=
  ∀ x, Word x → ∀ W', Below n₀ W W' → Calls Tryd.prog g #[.int .u64 x, .pointer (some ⟨bp, 0, none⟩)] W' fun e w' => e = .returned (.bool (p x)) ∧ Below W'.heap.size W' w'
set_option maxRecDepth 100000 in
set_option maxHeartbeats 4000000 in
theorem some1_in (n : Nat) (hn : 1 ≤ n) (l bl bh n₀ nn c : Nat) (A : Option Addr) (ls : List WInt) (p : Int → Bool) (g bp : Nat) (hnn : nn ≤ 281474976710656) (J Jx : List WInt → World → Prop) (W : World)
    (hbl : bl < n₀) (hbh : bh < n₀) (hn₀ : n₀ ≤ W.heap.size) (cl : W.cell? ⟨bl, 0, none⟩ = some (.slice A nn c)) (ch : W.cell? ⟨bh, 0, none⟩ = some (.func (.func g) #[] #[.pointer (some ⟨bp, 0, none⟩)]))
    (hR : Reads W n₀ 1 A nn (ids (vals ls))) (hg : ∀ args w, (callFunc g args).run Tryd.prog w = .ok (.enter g args) w) (hc : Asks g bp p n₀ W) (hJ : AbidesFrom W.heap.size J)
    (hY : ∀ pre x W1, J pre W1 → pre.length < 12 → YieldAt Fence.wide (n - 1) Tryd.prog l (encW x) W1 fun e W' =>
      (e = .returned (.bool true) ∧ J (pre ++ [x]) W' ∧ Below n₀ W1 W') ∨ (e = .returned (.bool false) ∧ Jx (pre ++ [x]) W')) (h0 : J [] W) :
    CallsIn Fence.wide n Tryd.prog 76 #[.func (.yield l) #[] #[], .pointer (some ⟨bl, 0, none⟩), .pointer (some ⟨bh, 0, none⟩)] W fun e W' => (∃ v, e = .returned v) ∧
      ((∃ ys, ys = sel ls p ∧ J ys W') ∨ (∃ pre, pre <+: sel ls p ∧ Jx pre W')) := by
  have hl : ls.length = nn := by have := hR.1; rw [ids_len] at this; simpa [vals] using this
  have ct := tcheck_any A nn c (vals ls) W (hR.more hn₀) (vals_word ls) hnn
  refine callsIn_of_wp Tryd.func76 rfl trivial ?_ rfl
  simp only [Tryd.ntmps76, List.size_toArray, List.length_cons, List.length_nil, Nat.reduceAdd, Nat.reduceSub, Array.replicate_succ, Array.replicate_zero, List.push_toArray, List.append_toArray, List.nil_append, List.cons_append]
  unfold tyE at ct
  have hsel : sel ls p = if tyR (vals ls) then ls.filter (fun x => p x.1) else [] := rfl
  cases ht : tyR (vals ls)
  · rw [ht] at ct hsel
    have HS := Lib.hid (show sel ls p = [] from hsel)
    have hJ0 := fun W' (h : Below W.heap.size W W') => hJ _ _ _ none h0 (below_none h) (fun r e => by cases e)
    clear hY hJ hR hsel ht
    gi_wp2_with (first
      | (refine ⟨trivial, ?_⟩; gi_at_call 18; refine (callsIn_wide.2 ct).mono ?_; rintro e w1 ⟨rfl, hb1⟩)
      | fail)
    refine bodyPost_ret (results_none rfl _ _ _) rfl ?_
    exact ⟨⟨_, rfl⟩, .inl ⟨[], HS.out.symm, hJ0 _ hb1⟩⟩
  · rw [ht] at ct hsel
    have HS := Lib.hid (show sel ls p = ls.filter (fun x => p x.1) from hsel)
    have hn12 : nn ≤ 12 := by
      unfold tyR at ht
      simp only [Bool.and_eq_true, decide_eq_true_eq] at ht
      have := ht.1
      unfold vals at this
      rw [List.length_map] at this
      omega
    clear hsel ht
    have hbl2 : bl < W.heap.size := by omega
    have cl2 := fun (W' : World) (h : Below W.heap.size W W') => cell_below' h cl hbl2
    gi_wp2_with (first
      | (refine ⟨trivial, ?_⟩; gi_at_call 18; refine (callsIn_wide.2 ct).mono ?_; rintro e w1 ⟨rfl, hb1⟩; have cl3 := cl2 _ hb1)
      | fail)
    have hJ1 := hJ _ _ _ none h0 (below_none hb1) (fun r e => by cases e)
    gi_loopw [11] (fun i wr => ∃ k : Nat, k ≤ nn ∧ i = .int .i64 k ∧ J ((ls.take k).filter (fun x => p x.1)) wr ∧ Below n₀ W wr ∧ W.heap.size ≤ wr.heap.size)
      (fun i _ => nn - (intOf i).toNat)
    case atStart => exact ⟨0, Nat.zero_le _, rfl, hJ1, hb1.mono hn₀, hb1.size⟩
    case round =>
      obtain ⟨k, hk, rfl, hJs, hb, hsz⟩ := hrel
      clear hJ1 cl3 cl2 h0
      have ch1 := cell_below' hb ch hbh
      by_cases hlt : k < nn
      · have e1 := List.getElem?_eq_getElem (l := ls) (i := k) (by omega)
        generalize ls[k]'(by omega) = x at e1
        have e2 : (vals ls)[k]? = some x.1 := by unfold vals; rw [List.getElem?_map, e1]; rfl
        obtain ⟨b, off, rfl, hbb, g0⟩ := ids_cell hR e2
        have g1 := cell_below' hb g0 hbb
        have hlen : ((ls.take k).filter (fun x => p x.1)).length < 12 := Nat.lt_of_le_of_lt (List.length_filter_le _ _) (by rw [List.length_take]; omega)
        have hstep : (ls.take (k + 1)).filter (fun x => p x.1) = (ls.take k).filter (fun x => p x.1) ++ (if p x.1 then [x] else []) := by
          rw [take_snoc e1, List.filter_append]; simp [List.filter_cons]
        have hcx := hc x.1 x.2 wr hb
        have HT := Lib.hid hstep
        clear hstep e1 e2 g0 hc hR
        obtain ⟨q, hq⟩ : ∃ q, q = (ls.take k).filter (fun x => p x.1) := ⟨_, rfl⟩
        rw [← hq] at hJs hlen
        have HQ := Lib.hid hq
        clear hq
        cases hp : p x.1
        · have hpre : (ls.take (k + 1)).filter (fun x => p x.1) = q := by rw [HT.out, hp, HQ.out]; simp
          have HP := Lib.hid hpre
          rw [hp] at hcx
          clear hpre hp
          gi_wp2_with (first
            | (refine ⟨trivial, ?_⟩; (with_reducible refine (callsIn_wide.2 hcx).mono ?_); rintro e w2 ⟨rfl, hb2⟩; have hJ2 := Lib.hid (hJ _ _ _ none hJs (below_none hb2) (fun r e => by cases e)))
            | fail)
          refine ⟨(fun _ h => by cases h), ?_⟩
          have hb3 := hb.trans (hb2.mono (Nat.le_trans hn₀ hsz))
          have hz3 := Nat.le_trans hsz hb2.size
          clear hb2
          gi_wp2
          go_roundw
          case rel => exact ⟨k + 1, by omega, by go_num, by rw [HP.out]; exact hJ2.out, hb3, hz3⟩
          case measure => simp [intOf]; omega
        · have hpre : (ls.take (k + 1)).filter (fun x => p x.1) = q ++ [x] := by rw [HT.out, hp, HQ.out]; simp
          have hpfx : q ++ [x] <+: sel ls p := by
            rw [← hpre, HS.out]
            exact (List.take_prefix _ _).filter _
          have HP := Lib.hid hpre
          have HX := Lib.hid hpfx
          rw [hp] at hcx
          clear hpre hp hpfx
          gi_wp2_with (first
            | (refine ⟨trivial, ?_⟩; (with_reducible refine (callsIn_wide.2 hcx).mono ?_); rintro e w2 ⟨rfl, hb2⟩; obtain ⟨fn, tmps, assign, body, hy, hRd⟩ := hY q x w2 (hJ _ _ _ none hJs (below_none hb2) (fun r e => by cases e)) hlen; unfold encW at hy)
            | fail)
          have hb2n := hb.trans (hb2.mono (Nat.le_trans hn₀ hsz))
          have hz2 := Nat.le_trans hsz hb2.size
          refine hRd.mono ?_
          rintro e W3 (⟨rfl, hJ3, hk3⟩ | ⟨rfl, hJx3⟩)
          · have hb3 := hb2n.trans hk3
            have hz3 : W.heap.size ≤ W3.heap.size := Nat.le_trans hz2 hk3.size
            clear hb2 hk3 hy hRd
            gi_wp2
            go_roundw
            case rel => exact ⟨k + 1, by omega, by go_num, by rw [HP.out]; exact hJ3, hb3, hz3⟩
            case measure => simp [intOf]; omega
          · clear hb2 hy hRd
            gi_wp2
            refine bodyPost_ret (results_none rfl _ _ _) rfl ?_
            exact ⟨⟨_, rfl⟩, .inr ⟨_, HX.out, hJx3⟩⟩
      · have : k = nn := by omega
        subst this
        rw [List.take_of_length_le (by omega)] at hJs
        have HJ := Lib.hid hJs
        clear hJs hR hc hY hJ
        gi_wp2
        go_end0
        exact ⟨⟨_, rfl⟩, .inl ⟨_, HS.out.symm, HJ.out⟩⟩
/-- a value that is a sequence of ids -/
def Seqs (v : Value) (n₀ : Nat) (ys : List WInt) (w : World) : Prop :=
  ∃ bl bh, v = .func (.func 76) #[] #[.pointer (some ⟨bl, 0, none⟩), .pointer (some ⟨bh, 0, none⟩)] ∧ ∀ n, 1 ≤ n → SeqStopsK Fence.wide n Tryd.prog 76 #[.pointer (some ⟨bl, 0, none⟩), .pointer (some ⟨bh, 0, none⟩)] encW (Below n₀) (fun l => l = ys) (fun pre => pre <+: ys) 12 w
theorem Asks.later {g bp : Nat} {p : Int → Bool} {n₀ : Nat} {W W' : World} (h : Asks g bp p n₀ W) (hb : Below n₀ W W') : Asks g bp p n₀ W' := fun x hx W2 hb2 => h x hx W2 (hb.trans hb2)
theorem some_seqs {bl bh n₀ nn c : Nat} {A : Option Addr} {ls : List WInt} {p : Int → Bool} {g bp : Nat} {w : World} (hnn : nn ≤ 281474976710656)
    (hbl : bl < n₀) (hbh : bh < n₀) (hn₀ : n₀ ≤ w.heap.size) (cl : w.cell? ⟨bl, 0, none⟩ = some (.slice A nn c)) (ch : w.cell? ⟨bh, 0, none⟩ = some (.func (.func g) #[] #[.pointer (some ⟨bp, 0, none⟩)]))
    (hR : Reads w n₀ 1 A nn (ids (vals ls))) (hg : ∀ args w, (callFunc g args).run Tryd.prog w = .ok (.enter g args) w) (hc : Asks g bp p n₀ w) :
    Seqs (.func (.func 76) #[] #[.pointer (some ⟨bl, 0, none⟩), .pointer (some ⟨bh, 0, none⟩)]) n₀ (sel ls p) w :=
  ⟨bl, bh, rfl, fun n hn l J Jx W hW hJ hJx hY h0 =>
    some1_in n hn l bl bh n₀ nn c A ls p g bp hnn J Jx W hbl hbh (Nat.le_trans hn₀ hW.size) (cell_below' hW cl (by omega)) (cell_below' hW ch (by omega)) (hR.below (hW.mono hn₀)) hg (hc.later (hW.mono hn₀)) hJ hY h0⟩
theorem Seqs.later {v : Value} {n₀ : Nat} {ys : List WInt} {w w' : World} (h : Seqs v n₀ ys w) (hb : Below w.heap.size w w') : Seqs v n₀ ys w' := by
  obtain ⟨bl, bh, hv, hs⟩ := h
  exact ⟨bl, bh, hv, fun n hn l J Jx W hW hJ hJx hY h0 => hs n hn l J Jx W (hb.trans (hW.mono hb.size)) hJ hJx hY h0⟩
end Go.Proofs.YtibjelonabhcmaaDoor
