/- What is proved: table's rows: the iterator over the entities' indexes, for every loop body. -/
import Derived.Test.YtbcbknajhdaneaaTaP
import Derived.RangeFuncBox
import Derived.RangeFuncNested
import Derived.RangeFuncBound
import Derived.RangeFuncLeaves
import Derived.Shelf.Abstract
import Derived.OwnWalkIn
import Derived.TacticsInMore
import Derived.LoopNIn
import Derived.LoopIn
import Derived.Maps.AppendAt
namespace Go.Proofs.Ytbcbknajhdaneaa
open Go.RowKit
set_option linter.unusedVariables false
set_option linter.unusedSimpArgs false
attribute [local go_sem] Oper.semAt_some
theorem below_none {w w' : World} (h : Below w.heap.size w w') : w.grownBy w' none := ⟨h.os, h.tape, h.output, h.size, fun k hk _ => h.block k hk⟩
/-- a row and an index, in int's bounds -/
abbrev RInt := { p : Int × Int // (0 ≤ p.1 ∧ p.1 ≤ 9223372036854775807) ∧ (0 ≤ p.2 ∧ p.2 ≤ 9223372036854775807) }
def encR (x : RInt) : Array Value := #[.int .i64 x.1.1, .int .i64 x.1.2]
theorem idx_bd (a : Int) (h : Word a) : 0 ≤ idx a ∧ idx a ≤ 9223372036854775807 := by
  unfold idx pa
  have h1 := hi_bd a
  have h2 := lo_bd a
  obtain ⟨h3, h4⟩ := h
  split
  · rename_i hk
    rw [if_pos (Or.inl hk)]
    unfold lo
    omega
  · omega
def rowAt (k : Nat) (a : Int) : RInt := if h : ((0 : Int) ≤ (k : Int) ∧ (k : Int) ≤ 9223372036854775807) ∧ (0 ≤ idx a ∧ idx a ≤ 9223372036854775807) then ⟨((k : Int), idx a), h⟩ else ⟨(0, 0), by omega⟩
theorem rowAt_val {k : Nat} {a : Int} (hk : (k : Int) ≤ 9223372036854775807) (h : Word a) : (rowAt k a).1 = ((k : Int), idx a) := by
  unfold rowAt
  rw [dif_pos ⟨⟨by omega, hk⟩, idx_bd a h⟩]
def rowsFrom : Nat → List Int → List RInt
  | _, [] => []
  | k, a :: l => rowAt k a :: rowsFrom (k + 1) l
def rowsL (l : List Int) : List RInt := rowsFrom 0 l
theorem rowsFrom_len : ∀ (l : List Int) (k : Nat), (rowsFrom k l).length = l.length
  | [], _ => rfl
  | a :: l, k => by show (rowsFrom (k + 1) l).length + 1 = l.length + 1; rw [rowsFrom_len l]
theorem rowsL_len (l : List Int) : (rowsL l).length = l.length := rowsFrom_len l 0
theorem rowsFrom_at : ∀ (l : List Int) (b k : Nat) (a : Int), l[k]? = some a → (rowsFrom b l)[k]? = some (rowAt (b + k) a)
  | [], _, _, _, h => by simp at h
  | x :: l, b, 0, a, h => by simp at h; subst h; rfl
  | x :: l, b, k + 1, a, h => by
    show (rowsFrom (b + 1) l)[k]? = _
    rw [rowsFrom_at l (b + 1) k a (by simpa using h), Nat.add_right_comm, Nat.add_assoc]
theorem rowsL_at {l : List Int} {k : Nat} {a : Int} (h : l[k]? = some a) : (rowsL l)[k]? = some (rowAt k a) := by
  have := rowsFrom_at l 0 k a h
  rwa [Nat.zero_add] at this
set_option maxRecDepth 100000 in
set_option maxHeartbeats 4000000 in
theorem rows1_in (n : Nat) (hn : 1 ≤ n) (l bt n₀ nn c : Nat) (A : Option Addr) (es : List Int) (hes : ∀ x ∈ es, Word x) (hnn : nn ≤ 281474976710656) (J Jx : List RInt → World → Prop) (W : World)
    (hn₀ : n₀ ≤ W.heap.size) (ct : W.cell? ⟨bt, 2, none⟩ = some (.slice A nn c))
    (hR : Reads W n₀ 1 A nn (ids es)) (hJ : AbidesFrom W.heap.size J)
    (hY : ∀ pre x W1, J pre W1 → pre.length < nn → YieldAt Fence.wide (n - 1) Try.prog l (encR x) W1 fun e W' =>
      (e = .returned (.bool true) ∧ J (pre ++ [x]) W' ∧ Below n₀ W1 W') ∨ (e = .returned (.bool false) ∧ Jx (pre ++ [x]) W')) (h0 : J [] W) :
    CallsIn Fence.wide n Try.prog 111 #[.func (.yield l) #[] #[], .pointer (some ⟨bt, 0, none⟩)] W fun e W' => (∃ v, e = .returned v) ∧
      ((∃ ys, ys = rowsL es ∧ J ys W') ∨ (∃ pre, pre <+: rowsL es ∧ Jx pre W')) := by
  have hl : es.length = nn := by have := hR.1; rw [ids_len] at this; omega
  refine callsIn_of_wp Try.func111 rfl trivial ?_ rfl
  simp only [Try.ntmps111, List.size_toArray, List.length_cons, List.length_nil, Nat.reduceAdd, Nat.reduceSub, Array.replicate_succ, Array.replicate_zero, List.push_toArray, List.append_toArray, List.nil_append, List.cons_append]
  gi_wp2
  gi_loopw [10] (fun i wr => ∃ k : Nat, k ≤ nn ∧ i = .int .i64 k ∧ J ((rowsL es).take k) wr ∧ Below n₀ W wr ∧ W.heap.size ≤ wr.heap.size)
    (fun i _ => nn - (intOf i).toNat)
  case atStart => exact ⟨0, Nat.zero_le _, rfl, h0, Below.refl _ _, Nat.le_refl _⟩
  case round =>
    obtain ⟨k, hk, rfl, hJs, hb, hsz⟩ := hrel
    clear h0 ct
    by_cases hlt : k < nn
    · have e1 := List.getElem?_eq_getElem (l := es) (i := k) (by omega)
      generalize es[k]'(by omega) = x at e1
      have hwx : Word x := hes x (List.mem_of_getElem? e1)
      have e2 := rowsL_at e1
      have hv := rowAt_val (k := k) (a := x) (by omega) hwx
      obtain ⟨b, off, rfl, hbb, g0⟩ := ids_cell hR e1
      have g1 := cell_below' hb g0 hbb
      have hlen : ((rowsL es).take k).length < nn := by rw [List.length_take, rowsL_len]; omega
      have HT := Lib.hid (take_snoc e2)
      have HP := Lib.hid (show (rowsL es).take k ++ [rowAt k x] <+: rowsL es from by rw [← take_snoc e2]; exact List.take_prefix _ _)
      have cp := fun w => parts_any x hwx w
      have ck := fun w => kind_any x hwx w
      have hix : idx x = if kd x = 1 then pa x else 0 := rfl
      have hY2 := hY ((rowsL es).take k) (rowAt k x)
      unfold encR at hY2
      rw [hv] at hY2
      simp only at hY2
      clear e1 e2 hv g0 hR hY
      generalize (rowsL es).take k = q at *
      generalize rowAt k x = y at *
      have hJ2 : ∀ W2, Below wr.heap.size wr W2 → J q W2 := fun W2 h => hJ _ _ _ none hJs (below_none h) (fun r e => by cases e)
      clear hJ
      have hkd := kd_bd x
      rcases (show (kd x = 1 ∧ (kd x != 1) = false ∧ idx x = pa x) ∨ ((kd x != 1) = true ∧ idx x = 0) from by
        by_cases h : kd x = 1
        · exact .inl ⟨h, by simp [h], by rw [hix, if_pos h]⟩
        · exact .inr ⟨by simpa using h, by rw [hix, if_neg h]⟩) with ⟨k1, k2, k3⟩ | ⟨k2, k3⟩
      all_goals
        rw [k3] at hY2
        clear k3 hix
        generalize kd x = kx at *
        generalize pa x = px at *
        generalize pb x = pbx at *
        try clear k1
        gi_wp2_with (first
          | (refine ⟨trivial, ?_⟩; gi_at_call 64; (with_reducible refine (callsIn_wide.2 (cp _)).mono ?_); rintro e w2 ⟨rfl, hb2⟩)
          | (refine ⟨trivial, ?_⟩; gi_at_call 65; (with_reducible refine (callsIn_wide.2 (ck _)).mono ?_); rintro e w3 ⟨rfl, hb3⟩; have hb4 := hbe_tr hb2 hb3; obtain ⟨fn, tmps, assign, body, hy, hRd⟩ := hY2 w3 (hJ2 _ hb4) hlen)
          | fail)
        have hb2n := hb.trans (hb4.mono (Nat.le_trans hn₀ hsz))
        have hz2 := Nat.le_trans hsz hb4.size
        refine hRd.mono ?_
        rintro e W3 (⟨rfl, hJ3, hk3⟩ | ⟨rfl, hJx3⟩)
        · have hb5 := hb2n.trans hk3
          have hz3 : W.heap.size ≤ W3.heap.size := Nat.le_trans hz2 hk3.size
          clear hb2 hb3 hb4 hk3 hy hRd hY2 hJ2
          gi_wp2
          go_roundw
          case rel => exact ⟨k + 1, by omega, by go_num, by rw [HT.out]; exact hJ3, hb5, hz3⟩
          case measure => simp [intOf]; omega
        · clear hb2 hb3 hb4 hy hRd hY2 hJ2
          gi_wp2
          refine bodyPost_ret (results_none rfl _ _ _) rfl ?_
          exact ⟨⟨_, rfl⟩, .inr ⟨_, HP.out, hJx3⟩⟩
    · have : k = nn := by omega
      subst this
      rw [List.take_of_length_le (by rw [rowsL_len]; omega)] at hJs
      have HJ := Lib.hid hJs
      clear hJs hR hY hJ
      gi_wp2
      go_end0
      exact ⟨⟨_, rfl⟩, .inl ⟨_, rfl, HJ.out⟩⟩
/-- a sequence of rows, handed back: it asks that what lies below n₀ be kept -/
def SeqR (n₀ : Nat) (t : Tab) (w : World) (e : Ending) (w' : World) : Prop :=
  ∃ bt, e = .returned (.func (.func 111) #[] #[.pointer (some ⟨bt, 0, none⟩)]) ∧
    (∀ n, 1 ≤ n → SeqStopsK Fence.wide n Try.prog 111 #[.pointer (some ⟨bt, 0, none⟩)] encR (Below n₀) (fun l => l = rowsL t.es) (fun pre => pre <+: rowsL t.es) t.En w') ∧ Below w.heap.size w w'
theorem rows_any (n₀ : Nat) (t : Tab) (w : World) (hn : n₀ ≤ w.heap.size) (h : Reads w n₀ 1 t.EA t.En (ids t.es)) (hw : ∀ x ∈ t.es, Word x) (hs : t.En ≤ 281474976710656) : Calls Try.prog 66 #[t.V] w (SeqR n₀ t w) := by
  have hB := (Below.refl w.heap.size w).alloc (Nat.le_refl _) (.cells #[.slice t.TA t.Tn t.Tc, .slice t.CA t.Cn t.Cc, .slice t.EA t.En t.Ec] 25)
  have y2 := new_cell w 25 #[.slice t.TA t.Tn t.Tc, .slice t.CA t.Cn t.Cc, .slice t.EA t.En t.Ec] (k := 2) rfl
  have hes := h.below (hB.mono hn)
  have hfin : SeqR n₀ t w (.returned (.func (.func 111) #[] #[.pointer (some ⟨w.heap.size, 0, none⟩)])) (w.alloc (.cells #[.slice t.TA t.Tn t.Tc, .slice t.CA t.Cn t.Cc, .slice t.EA t.En t.Ec] 25)) :=
    ⟨w.heap.size, rfl, fun n hl0 l J Jx W hW hJ hJx hY h0 =>
      rows1_in n hl0 l w.heap.size n₀ t.En t.Ec t.EA t.es hw hs J Jx W (Nat.le_trans hn (Nat.le_trans hB.size hW.size)) (cell_below' hW y2 (by simp)) (hes.below (hW.mono (Nat.le_trans hn hB.size))) hJ hY h0, hB⟩
  clear h hB y2 hes
  unfold Tab.V
  go_enter Try.func66, Try.ntmps66
  go_wp2_with fail
  go_ret
  exact hfin
end Go.Proofs.Ytbcbknajhdaneaa
