/- What is proved: table's rows: the iterator over the entities' indexes, for every loop body. a map from ints to bools that is a set: its making, look-up and store. table.Check: 190 unless the table may be. contracts of column's at, joined and Get. rows of rows of words; contracts of column's joined and Get. contracts of column's New, and Push of one value. the contract of column's Push of one value. -/
import Derived.Test.YtbcbknajhdaneaaVTaP
import Derived.RangeFuncBox
import Derived.RangeFuncNested
import Derived.RangeFuncBound
import Derived.RangeFuncLeaves
import Derived.Shelf.Abstract
import Derived.OwnWalkIn
import Derived.TacticsInMore
import Derived.LoopNIn
import Derived.LoopIn
import Derived.Maps.AppendAt
import Derived.Maps.Own
import Derived.Maps.Views
import Derived.Maps.Keyed
import Derived.MapKept
import Derived.Deep.Cut
import Derived.WalkMore
import Derived.WalkKit
import Derived.Laws.CopyOwn
import Derived.OwnWalk
import Derived.IntWalk
import Derived.Deep.OwnRows
namespace Go.Proofs.Ytbcbknajhdaneaa
open Go.RowKit
set_option linter.unusedVariables false
set_option linter.unusedSimpArgs false
attribute [local go_sem] Oper.semAt_some
theorem below_none {w w' : World} (h : Below w.heap.size w w') : w.grownBy w' none := ⟨h.os, h.tape, h.output, h.size, fun k hk _ => h.block k hk⟩
/-- a row and an index, in int's bounds -/
abbrev RInt := { p : Int × Int // (0 ≤ p.1 ∧ p.1 ≤ 9223372036854775807) ∧ (0 ≤ p.2 ∧ p.2 ≤ 9223372036854775807) }
def encR (x : RInt) : Array Value := #[.int .i64 x.1.1, .int .i64 x.1.2]
theorem idx_bd (a : Int) (h : Word a) : 0 ≤ idx a ∧ idx a ≤ 9223372036854775807 := by
  unfold idx pa
  have h1 := hi_bd a
  have h2 := lo_bd a
  obtain ⟨h3, h4⟩ := h
  split
  · rename_i hk
    rw [if_pos (Or.inl hk)]
    unfold lo
    omega
  · omega
def rowAt (k : Nat) (a : Int) : RInt := if h : ((0 : Int) ≤ (k : Int) ∧ (k : Int) ≤ 9223372036854775807) ∧ (0 ≤ idx a ∧ idx a ≤ 9223372036854775807) then ⟨((k : Int), idx a), h⟩ else ⟨(0, 0), by omega⟩
theorem rowAt_val {k : Nat} {a : Int} (hk : (k : Int) ≤ 9223372036854775807) (h : Word a) : (rowAt k a).1 = ((k : Int), idx a) := by
  unfold rowAt
  rw [dif_pos ⟨⟨by omega, hk⟩, idx_bd a h⟩]
def rowsFrom : Nat → List Int → List RInt
  | _, [] => []
  | k, a :: l => rowAt k a :: rowsFrom (k + 1) l
def rowsL (l : List Int) : List RInt := rowsFrom 0 l
theorem rowsFrom_len : ∀ (l : List Int) (k : Nat), (rowsFrom k l).length = l.length
  | [], _ => rfl
  | a :: l, k => by show (rowsFrom (k + 1) l).length + 1 = l.length + 1; rw [rowsFrom_len l]
theorem rowsL_len (l : List Int) : (rowsL l).length = l.length := rowsFrom_len l 0
theorem rowsFrom_at : ∀ (l : List Int) (b k : Nat) (a : Int), l[k]? = some a → (rowsFrom b l)[k]? = some (rowAt (b + k) a)
  | [], _, _, _, h => by simp at h
  | x :: l, b, 0, a, h => by simp at h; subst h; rfl
  | x :: l, b, k + 1, a, h => by
    show (rowsFrom (b + 1) l)[k]? = _
    rw [rowsFrom_at l (b + 1) k a (by simpa using h), Nat.add_right_comm, Nat.add_assoc]
theorem rowsL_at {l : List Int} {k : Nat} {a : Int} (h : l[k]? = some a) : (rowsL l)[k]? = some (rowAt k a) := by
  have := rowsFrom_at l 0 k a h
  rwa [Nat.zero_add] at this
set_option maxRecDepth 100000 in
set_option maxHeartbeats 4000000 in
theorem rows1_in (n : Nat) (hn : 1 ≤ n) (l bt n₀ nn c : Nat) (A : Option Addr) (es : List Int) (hes : ∀ x ∈ es, Word x) (hnn : nn ≤ 281474976710656) (J Jx : List RInt → World → Prop) (W : World)
    (hn₀ : n₀ ≤ W.heap.size) (ct : W.cell? ⟨bt, 2, none⟩ = some (.slice A nn c))
    (hR : Reads W n₀ 1 A nn (ids es)) (hJ : AbidesFrom W.heap.size J)
    (hY : ∀ pre x W1, J pre W1 → pre.length < nn → YieldAt Fence.wide (n - 1) Try.prog l (encR x) W1 fun e W' =>
      (e = .returned (.bool true) ∧ J (pre ++ [x]) W' ∧ Below n₀ W1 W') ∨ (e = .returned (.bool false) ∧ Jx (pre ++ [x]) W')) (h0 : J [] W) :
    CallsIn Fence.wide n Try.prog 111 #[.func (.yield l) #[] #[], .pointer (some ⟨bt, 0, none⟩)] W fun e W' => (∃ v, e = .returned v) ∧
      ((∃ ys, ys = rowsL es ∧ J ys W') ∨ (∃ pre, pre <+: rowsL es ∧ Jx pre W')) := by
  have hl : es.length = nn := by have := hR.1; rw [ids_len] at this; omega
  refine callsIn_of_wp Try.func111 rfl trivial ?_ rfl
  simp only [Try.ntmps111, List.size_toArray, List.length_cons, List.length_nil, Nat.reduceAdd, Nat.reduceSub, Array.replicate_succ, Array.replicate_zero, List.push_toArray, List.append_toArray, List.nil_append, List.cons_append]
  gi_wp2
  gi_loopw [10] (fun i wr => ∃ k : Nat, k ≤ nn ∧ i = .int .i64 k ∧ J ((rowsL es).take k) wr ∧ Below n₀ W wr ∧ W.heap.size ≤ wr.heap.size)
    (fun i _ => nn - (intOf i).toNat)
  case atStart => exact ⟨0, Nat.zero_le _, rfl, h0, Below.refl _ _, Nat.le_refl _⟩
  case round =>
    obtain ⟨k, hk, rfl, hJs, hb, hsz⟩ := hrel
    clear h0 ct
    by_cases hlt : k < nn
    · have e1 := List.getElem?_eq_getElem (l := es) (i := k) (by omega)
      generalize es[k]'(by omega) = x at e1
      have hwx : Word x := hes x (List.mem_of_getElem? e1)
      have e2 := rowsL_at e1
      have hv := rowAt_val (k := k) (a := x) (by omega) hwx
      obtain ⟨b, off, rfl, hbb, g0⟩ := ids_cell hR e1
      have g1 := cell_below' hb g0 hbb
      have hlen : ((rowsL es).take k).length < nn := by rw [List.length_take, rowsL_len]; omega
      have HT := Lib.hid (take_snoc e2)
      have HP := Lib.hid (show (rowsL es).take k ++ [rowAt k x] <+: rowsL es from by rw [← take_snoc e2]; exact List.take_prefix _ _)
      have cp := fun w => parts_any x hwx w
      have ck := fun w => kind_any x hwx w
      have hix : idx x = if kd x = 1 then pa x else 0 := rfl
      have hY2 := hY ((rowsL es).take k) (rowAt k x)
      unfold encR at hY2
      rw [hv] at hY2
      simp only at hY2
      clear e1 e2 hv g0 hR hY
      generalize (rowsL es).take k = q at *
      generalize rowAt k x = y at *
      have hJ2 : ∀ W2, Below wr.heap.size wr W2 → J q W2 := fun W2 h => hJ _ _ _ none hJs (below_none h) (fun r e => by cases e)
      clear hJ
      have hkd := kd_bd x
      rcases (show (kd x = 1 ∧ (kd x != 1) = false ∧ idx x = pa x) ∨ ((kd x != 1) = true ∧ idx x = 0) from by
        by_cases h : kd x = 1
        · exact .inl ⟨h, by simp [h], by rw [hix, if_pos h]⟩
        · exact .inr ⟨by simpa using h, by rw [hix, if_neg h]⟩) with ⟨k1, k2, k3⟩ | ⟨k2, k3⟩
      all_goals
        rw [k3] at hY2
        clear k3 hix
        generalize kd x = kx at *
        generalize pa x = px at *
        generalize pb x = pbx at *
        try clear k1
        gi_wp2_with (first
          | (refine ⟨trivial, ?_⟩; gi_at_call 64; (with_reducible refine (callsIn_wide.2 (cp _)).mono ?_); rintro e w2 ⟨rfl, hb2⟩)
          | (refine ⟨trivial, ?_⟩; gi_at_call 65; (with_reducible refine (callsIn_wide.2 (ck _)).mono ?_); rintro e w3 ⟨rfl, hb3⟩; have hb4 := hbe_tr hb2 hb3; obtain ⟨fn, tmps, assign, body, hy, hRd⟩ := hY2 w3 (hJ2 _ hb4) hlen)
          | fail)
        have hb2n := hb.trans (hb4.mono (Nat.le_trans hn₀ hsz))
        have hz2 := Nat.le_trans hsz hb4.size
        refine hRd.mono ?_
        rintro e W3 (⟨rfl, hJ3, hk3⟩ | ⟨rfl, hJx3⟩)
        · have hb5 := hb2n.trans hk3
          have hz3 : W.heap.size ≤ W3.heap.size := Nat.le_trans hz2 hk3.size
          clear hb2 hb3 hb4 hk3 hy hRd hY2 hJ2
          gi_wp2
          go_roundw
          case rel => exact ⟨k + 1, by omega, by go_num, by rw [HT.out]; exact hJ3, hb5, hz3⟩
          case measure => simp [intOf]; omega
        · clear hb2 hb3 hb4 hy hRd hY2 hJ2
          gi_wp2
          refine bodyPost_ret (results_none rfl _ _ _) rfl ?_
          exact ⟨⟨_, rfl⟩, .inr ⟨_, HP.out, hJx3⟩⟩
    · have : k = nn := by omega
      subst this
      rw [List.take_of_length_le (by rw [rowsL_len]; omega)] at hJs
      have HJ := Lib.hid hJs
      clear hJs hR hY hJ
      gi_wp2
      go_end0
      exact ⟨⟨_, rfl⟩, .inl ⟨_, rfl, HJ.out⟩⟩
/-- a sequence of rows, handed back: it asks that what lies below n₀ be kept -/
def SeqR (n₀ : Nat) (t : Tab) (w : World) (e : Ending) (w' : World) : Prop :=
  ∃ bt, e = .returned (.func (.func 111) #[] #[.pointer (some ⟨bt, 0, none⟩)]) ∧
    (∀ n, 1 ≤ n → SeqStopsK Fence.wide n Try.prog 111 #[.pointer (some ⟨bt, 0, none⟩)] encR (Below n₀) (fun l => l = rowsL t.es) (fun pre => pre <+: rowsL t.es) t.En w') ∧ Below w.heap.size w w'
theorem rows_any (n₀ : Nat) (t : Tab) (w : World) (hn : n₀ ≤ w.heap.size) (h : Reads w n₀ 1 t.EA t.En (ids t.es)) (hw : ∀ x ∈ t.es, Word x) (hs : t.En ≤ 281474976710656) : Calls Try.prog 66 #[t.V] w (SeqR n₀ t w) := by
  have hB := (Below.refl w.heap.size w).alloc (Nat.le_refl _) (.cells #[.slice t.TA t.Tn t.Tc, .slice t.CA t.Cn t.Cc, .slice t.EA t.En t.Ec] 25)
  have y2 := new_cell w 25 #[.slice t.TA t.Tn t.Tc, .slice t.CA t.Cn t.Cc, .slice t.EA t.En t.Ec] (k := 2) rfl
  have hes := h.below (hB.mono hn)
  have hfin : SeqR n₀ t w (.returned (.func (.func 111) #[] #[.pointer (some ⟨w.heap.size, 0, none⟩)])) (w.alloc (.cells #[.slice t.TA t.Tn t.Tc, .slice t.CA t.Cn t.Cc, .slice t.EA t.En t.Ec] 25)) :=
    ⟨w.heap.size, rfl, fun n hl0 l J Jx W hW hJ hJx hY h0 =>
      rows1_in n hl0 l w.heap.size n₀ t.En t.Ec t.EA t.es hw hs J Jx W (Nat.le_trans hn (Nat.le_trans hB.size hW.size)) (cell_below' hW y2 (by simp)) (hes.below (hW.mono (Nat.le_trans hn hB.size))) hJ hY h0, hB⟩
  clear h hB y2 hes
  unfold Tab.V
  go_enter Try.func66, Try.ntmps66
  go_wp2_with fail
  go_ret
  exact hfin
end Go.Proofs.Ytbcbknajhdaneaa
namespace Go.Proofs.Ytbcbknajhdaneaa
open Go.RowKit Go.Maps
set_option linter.unusedVariables false
set_option linter.unusedSimpArgs false
theorem alloc_set (w : World) (o o' : Obj) : ({ w.alloc o with heap := (w.alloc o).heap.setIfInBounds w.heap.size o' } : World) = w.alloc o' := by
  have e : (w.alloc o).heap = w.heap.push o := rfl
  have e2 : (w.alloc o').heap = w.heap.push o' := rfl
  have h : (w.heap.push o).setIfInBounds w.heap.size o' = w.heap.push o' := by
    apply Array.ext_getElem?
    intro i
    by_cases hi : i = w.heap.size
    · subst hi; simp
    · rw [Array.getElem?_setIfInBounds_ne (by omega)]
      simp [Array.getElem?_push, hi]
  show ({ w.alloc o with heap := (w.heap.push o).setIfInBounds w.heap.size o' } : World) = w.alloc o'
  rw [h]; rfl
theorem run_update_new {P : Program} (T K E : TypeId) (k : IntKind) (ht : P.underlying T = some (.map K E)) (hk : P.underlying K = some (.int k)) (es : Array MapEntry) (c : Nat) (n : Int) (v : Value) (w : World)
    (hf : Instr.findNow (.int k) (.int k n) es.toList 0 = some none) :
    (Instr.mapUpdate T (.map (some w.heap.size)) (.int k n) v).run P (w.alloc (.map es c)) = .ok () (w.alloc (.map (es.push ⟨.int k n, v, c⟩) (c + 1))) := by
  have hb := (MapKept.heap_alloc w (.map es c)).1
  have hc : (Instr.checkKey false 10000 K (.int k n)).run P (w.alloc (.map es c)) = .ok () (w.alloc (.map es c)) := MapKept.run_checkKey hk (by simp [MapKept.IsKey]) false 9999
  have hg := MapKept.run_findKey (w := w.alloc (.map es c)) hk hf
  have hs := MapKept.run_setObj_map (P := P) (.map (es.push ⟨.int k n, v, c⟩) (c + 1)) hb
  rw [alloc_set] at hs
  unfold Instr.mapUpdate
  simp [run_underlying ht, MapKept.run_getObj_map hb, hc, hg, hs, Result.andThen]
theorem key_int : Keyed Try.prog 3 := int_keyed Try.underlying3
theorem zero_bool (w : World) : (zeroValue 4).run Try.prog w = .ok (.bool false) w := by kernel_rfl
theorem wf_i64 {x : Int} (h : -9223372036854775808 ≤ x ∧ x ≤ 9223372036854775807) : (Lit.int .i64 x).wf = true := by
  have hmin : IntKind.i64.min = -9223372036854775808 := rfl
  have hmax : IntKind.i64.max = 9223372036854775807 := rfl
  simp only [Lit.wf, Bool.and_eq_true, decide_eq_true_eq]
  rw [hmin, hmax]
  exact h
theorem bool_inv {P : Program} {e : TypeId} {H : Type} (he : P.underlying e = some .bool) {v : Value} {z : DataW H × List MemPlace} (h : plainElem P e v = some z) : ∃ x, v = .bool x ∧ z = (.lit (.bool x), []) := by
  unfold plainElem at h
  rw [he] at h
  cases v <;> simp at h
  exact ⟨_, rfl, h.symm⟩
/-- block b is a map that says true of just the ints of l -/
def SetM (w : World) (b : Nat) (l : List Int) : Prop :=
  ∃ D : DataW Unit, w.ownsMap Try.prog 3 (plainElem Try.prog 4) b l.length D ∧ IsMap D ∧ ∀ x, (Lit.int .i64 x).wf = true → D.atKey (.int .i64 x) (.lit (.bool false)) = .lit (.bool (l.contains x))
theorem SetM.kept {w w' : World} {b : Nat} {l : List Int} {row : Option Nat} (h : SetM w b l) (hg : w.grownBy w' row) (hne : some b ≠ row) : SetM w' b l := by
  obtain ⟨D, h1, h2, h3⟩ := h
  exact ⟨D, h1.kept hg hne, h2, h3⟩
theorem SetM.lt {w : World} {b : Nat} {l : List Int} (h : SetM w b l) : b < w.heap.size := by obtain ⟨D, h1, _⟩ := h; exact h1.lt
theorem SetM.look {w : World} {b : Nat} {l : List Int} (h : SetM w b l) {x : Int} (hx : -9223372036854775808 ≤ x ∧ x ≤ 9223372036854775807) :
    (Instr.lookup 126 (.map (some b)) (.int .i64 x) false).run Try.prog w = .ok (.bool (l.contains x)) w := by
  obtain ⟨D, h1, h2, h3⟩ := h
  obtain ⟨v, ps, hrun, hv⟩ := h1.lookup key_int Try.underlying126 (zero_bool w) (plainElem_bool Try.underlying4 false) (keyOf_int_mk Try.underlying3 (wf_i64 hx))
  obtain ⟨c, rfl, hc⟩ := bool_inv Try.underlying4 hv
  simp only [Prod.mk.injEq] at hc
  have h4 : (DataW.lit (H := Unit) (.bool c)) = .lit (.bool (l.contains x)) := hc.1.symm.trans (h3 x (wf_i64 hx))
  have h5 : c = l.contains x := by
    generalize l.contains x = d at h4
    cases h4
    rfl
  rw [hrun, h5]
theorem SetM.put {w : World} {b : Nat} {l : List Int} (h : SetM w b l) {x : Int} (hx : -9223372036854775808 ≤ x ∧ x ≤ 9223372036854775807) (hl : l.length < maxLen) :
    ∃ w', (Instr.mapUpdate 126 (.map (some b)) (.int .i64 x) (.bool true)).run Try.prog w = .ok () w' ∧ SetM w' b (x :: l) ∧ w.grownBy w' (some b) := by
  obtain ⟨D, h1, h2, h3⟩ := h
  obtain ⟨w', hrun, hown, hg⟩ := h1.update key_int Try.underlying126 hl (keyOf_int_mk Try.underlying3 (wf_i64 hx)) (plainElem_bool Try.underlying4 true)
  refine ⟨w', hrun, ⟨_, hown, h2.put _ _, fun y hy => ?_⟩, hg⟩
  by_cases hxy : y = x
  · subst hxy
    rw [atKey_put_same h2 (by trivial)]
    simp
  · rw [atKey_put_other (by intro e; injection e with _ e; exact hxy e), h3 y hy]
    simp [hxy]
theorem run_made (w : World) : (Instr.mapUpdate 126 (.map (some w.heap.size)) (.int .i64 0) (.bool true)).run Try.prog (w.alloc (.map #[] 0)) = .ok () (w.alloc (.map #[⟨.int .i64 0, .bool true, 0⟩] 1)) :=
  run_update_new _ _ _ .i64 Try.underlying126 Try.underlying3 #[] 0 0 _ w rfl
theorem setm_new (w : World) : SetM (w.alloc (.map #[⟨.int .i64 0, .bool true, 0⟩] 1)) w.heap.size [0] := by
  have h0 : SetM (w.alloc (.map #[] 0)) w.heap.size [] := ⟨_, World.ownsMap_made _ _ _ _, isMap_empty, fun _ _ => rfl⟩
  obtain ⟨w', hrun, hs, _⟩ := h0.put (x := 0) (by omega) (by unfold maxLen; simp)
  rw [run_made] at hrun
  injection hrun with _ hrun
  rw [hrun]
  exact hs
end Go.Proofs.Ytbcbknajhdaneaa
namespace Go.Proofs.Ytbcbknajhdaneaa
open Go.RowKit
set_option linter.unusedVariables false
set_option linter.unusedSimpArgs false
attribute [local go_sem] Oper.semAt_some
def freshL : List Int → List Int → Bool
  | _, [] => true
  | met, x :: l => !met.contains x && freshL (x :: met) l
theorem fresh_snoc : ∀ (l met : List Int) (x : Int), freshL met (l ++ [x]) = (freshL met l && !(l.reverse ++ met).contains x)
  | [], met, x => by show (!met.contains x && true) = (true && !met.contains x); simp
  | y :: l, met, x => by
    show (!met.contains y && freshL (y :: met) (l ++ [x])) = (!met.contains y && freshL (y :: met) l && !((y :: l).reverse ++ met).contains x)
    rw [fresh_snoc l (y :: met) x, List.reverse_cons, List.append_assoc, Bool.and_assoc]
    rfl
theorem fresh_pre : ∀ (l m met : List Int), freshL met l = false → freshL met (l ++ m) = false
  | [], m, met, h => by cases h
  | x :: l, m, met, h => by
    show (!met.contains x && freshL (x :: met) (l ++ m)) = false
    have h : (!met.contains x && freshL (x :: met) l) = false := h
    cases h2 : (!met.contains x)
    · rfl
    · rw [h2, Bool.true_and] at h
      rw [fresh_pre l m _ h]; rfl
theorem has_map (l : List Int) (x : Int) : (l.map idx).contains x = hasI l x := by
  unfold hasI
  induction l with
  | nil => rfl
  | cons a l ih =>
    rw [List.map_cons, List.contains_cons, ih, List.any_cons]
    congr 1
    rw [Bool.eq_iff_iff, beq_iff_eq, beq_iff_eq]
    exact eq_comm
theorem contains_app (a b : List Int) (x : Int) : (a ++ b).contains x = (a.contains x || b.contains x) := by
  rw [Bool.eq_iff_iff, Bool.or_eq_true, List.contains_iff_mem, List.contains_iff_mem, List.contains_iff_mem, List.mem_append]
theorem fresh_ent (l : List Int) : ∀ k, k ≤ l.length → freshL [0] ((l.take k).map idx) = entOk l k
  | 0, _ => rfl
  | k + 1, h => by
    have e := List.getElem?_eq_getElem (l := l) (i := k) (by omega)
    generalize l[k]'(by omega) = x at e
    rw [take_snoc e, List.map_append, List.map_cons, List.map_nil, fresh_snoc, fresh_ent l k (by omega), entOk_step e]
    congr 1
    rw [← List.map_reverse, contains_app, has_map]
    have e1 : hasI (l.take k).reverse (idx x) = hasI (l.take k) (idx x) := by unfold hasI; rw [List.any_reverse]
    rw [e1]
    have e2 : [(0 : Int)].contains (idx x) = (idx x == 0) := by rw [List.contains_cons]; simp
    rw [e2]
    cases hasI (l.take k) (idx x) <;> cases (idx x == 0) <;> rfl
theorem rowsFrom_snd : ∀ (l : List Int) (k : Nat), (∀ x ∈ l, Word x) → k + l.length ≤ 281474976710656 → (rowsFrom k l).map (fun x => x.1.2) = l.map idx
  | [], _, _, _ => rfl
  | a :: l, k, hw, hk => by
    show (rowAt k a).1.2 :: (rowsFrom (k + 1) l).map _ = idx a :: l.map idx
    simp only [List.length_cons] at hk
    rw [rowAt_val (by omega) (hw a List.mem_cons_self), rowsFrom_snd l (k + 1) (fun x hx => hw x (List.mem_cons_of_mem _ hx)) (by omega)]
def metOf (pre : List RInt) : List Int := (pre.map (fun x : RInt => x.1.2)).reverse ++ [0]
def freshP (pre : List RInt) : Bool := freshL [0] (pre.map (fun x : RInt => x.1.2))
theorem metOf_snoc (pre : List RInt) (x : RInt) : metOf (pre ++ [x]) = x.1.2 :: metOf pre := by unfold metOf; simp
theorem freshP_snoc (pre : List RInt) (x : RInt) : freshP (pre ++ [x]) = (freshP pre && !(metOf pre).contains x.1.2) := by
  unfold freshP metOf
  rw [List.map_append, List.map_cons, List.map_nil, fresh_snoc]
theorem metOf_len (pre : List RInt) : (metOf pre).length = pre.length + 1 := by unfold metOf; simp
theorem freshP_rows {l : List Int} (hw : ∀ x ∈ l, Word x) (hl : l.length ≤ 281474976710656) : freshP (rowsL l) = entOk l l.length := by
  unfold freshP rowsL
  rw [rowsFrom_snd l 0 hw (by omega), ← fresh_ent l l.length (Nat.le_refl _), List.take_length]
theorem freshP_pre {pre ys : List RInt} (h : pre <+: ys) (hf : freshP pre = false) : freshP ys = false := by
  obtain ⟨m, rfl⟩ := h
  unfold freshP at hf ⊢
  rw [List.map_append]
  exact fresh_pre _ _ _ hf
def tabE (t : Tab) : Int := if tabB t then 0 else 190
theorem all_step {F : List Col} {m k : Nat} {x : Col} (h : F[k]? = some x) (b : Bool) : (b && (F.take (k + 1)).all (fun c => colT c m)) = ((b && (F.take k).all (fun c => colT c m)) && colT x m) := by
  rw [take_snoc h, List.all_append, Bool.and_assoc]; simp
theorem blk_below {w w' : World} {g : Nat} {t : TypeId} {cs : Array Value} (h : Blk w g t cs) (hb : Below w.heap.size w w') : Blk w' g t cs := h.below hb h.lt
theorem boxed_below {W W' : World} {B : Nat} {t : TypeId} {v : Value} (h : Boxed W B t v) (hb : Below W.heap.size W W') : Boxed W' B t v := (hb.block B h.lt).trans h
theorem ownFrom_setm {β : Type} {B bm : Nat} (hbm : bm < B) (f : β → List Int) : OwnFrom B (fun s W => SetM W bm (f s)) := fun s W W' row hs hg hr =>
  hs.kept hg (fun e => by have := (hr bm e.symm).1; omega)
def ChkR (w : World) (cs : Array Value) (b : Bool) (s3 : Value) (wx : World) : Prop :=
  ∃ bo, s3 = .pointer (some ⟨bo, 0, none⟩) ∧ w.heap.size < bo ∧ Boxed wx bo 4 (.bool b) ∧ Blk wx w.heap.size 25 cs ∧ Below w.heap.size w wx
theorem chkR_mk {w w2 : World} {cs : Array Value} {b : Bool} (hb : Below (w.alloc (.cells cs 25)).heap.size (w.alloc (.cells cs 25)) w2) :
    ChkR w cs b (.pointer (some ⟨w2.heap.size, 0, none⟩)) (w2.alloc (.cells #[.bool b] 4)) := by
  have hz := hb.size
  rw [World.size_alloc] at hz
  refine ⟨w2.heap.size, rfl, by omega, Boxed.new _ _ _, (blk_below (Blk.new w _ _) hb).alloc _, ?_⟩
  exact (((Below.refl w.heap.size w).alloc (Nat.le_refl _) _).trans (hb.mono (by simp))).alloc (by omega) _
set_option maxRecDepth 100000 in
set_option maxHeartbeats 8000000 in
theorem tabchk_any (t : Tab) (w : World) (h : TabOk w w.heap.size t) (hs : TabSm t) :
    Calls Try.prog 34 #[t.V] w fun e w' => e = .returned (.int .i64 (tabE t)) ∧ Below w.heap.size w w' := by
  obtain ⟨l1, l2, l3⟩ := h.len
  obtain ⟨s1, s2, s3, s4⟩ := hs
  obtain ⟨b0, hb0⟩ : ∃ b, b = (tyR t.ty && (decide (t.Cn = t.Tn) && decide (t.En ≤ 1048578))) := ⟨_, rfl⟩
  have hte : tabE t = if ((b0 && t.F.all (fun c => colT c t.En)) && entOk t.es t.En) then 0 else 190 := by
    unfold tabE
    rw [tabB_eq, hb0, l1, l2, l3]
    congr 1
    cases tyR t.ty <;> cases decide (t.Cn = t.Tn) <;> cases decide (t.En ≤ 1048578) <;> simp
  rw [hte]
  have HB0 := Lib.hid hb0
  have HO := Lib.hid h
  have L1 := Lib.hid l1
  have L2 := Lib.hid l2
  have L3 := Lib.hid l3
  have S4 := Lib.hid s4
  clear hte hb0 l1 l2 l3 s4
  have hB := (Below.refl w.heap.size w).alloc (Nat.le_refl _) (.cells #[.slice t.TA t.Tn t.Tc, .slice t.CA t.Cn t.Cc, .slice t.EA t.En t.Ec] 25)
  have y0 := new_cell w 25 #[.slice t.TA t.Tn t.Tc, .slice t.CA t.Cn t.Cc, .slice t.EA t.En t.Ec] (k := 0) (v := .slice t.TA t.Tn t.Tc) rfl
  have y1 := new_cell w 25 #[.slice t.TA t.Tn t.Tc, .slice t.CA t.Cn t.Cc, .slice t.EA t.En t.Ec] (k := 1) (v := .slice t.CA t.Cn t.Cc) rfl
  have y2 := new_cell w 25 #[.slice t.TA t.Tn t.Tc, .slice t.CA t.Cn t.Cc, .slice t.EA t.En t.Ec] (k := 2) (v := .slice t.EA t.En t.Ec) rfl
  have ct := tcheck_any t.TA t.Tn t.Tc t.ty _ ((h.ty.below hB).more hB.size) h.tyw s1
  have zz := fun (W : World) (hb : Below (w.alloc (.cells #[.slice t.TA t.Tn t.Tc, .slice t.CA t.Cn t.Cc, .slice t.EA t.En t.Ec] 25)).heap.size (w.alloc (.cells #[.slice t.TA t.Tn t.Tc, .slice t.CA t.Cn t.Cc, .slice t.EA t.En t.Ec] 25)) W) =>
    And.intro (cell_below' hb y0 (by simp)) (And.intro (cell_below' hb y1 (by simp)) (cell_below' hb y2 (by simp)))
  clear h
  obtain ⟨TA, Tn, Tc, ty, CA, Cn, Cc, F, EA, En, Ec, es⟩ := t
  unfold Tab.V
  simp only at *
  refine (callsIn_wide (n := 6)).1 ?_
  refine callsIn_of_wp_marks Try.func34 rfl trivial ?_ rfl
  simp only [Try.ntmps34, List.size_toArray, List.length_cons, List.length_nil, Nat.reduceAdd, Nat.reduceSub, Array.replicate_succ, Array.replicate_zero, List.push_toArray, List.append_toArray, List.nil_append, List.cons_append]
  refine wpIn_wide.2 ?_
  go_wp2
  go_step3
  go_upto_region 1 with fail
  go_cut [3] from 9 (fun s3 wx => ChkR w #[.slice TA Tn Tc, .slice CA Cn Cc, .slice EA En Ec] b0 s3 wx)
  case first =>
    unfold tyE at ct
    cases k1 : tyR ty
    · rw [k1] at ct
      have hb : b0 = false := by rw [HB0.out, k1]; rfl
      have HB := Lib.hid hb
      clear k1 hb
      go_wp2_with (first
        | (go_at_call 87; (with_reducible refine ct.mono ?_); rintro e w2 ⟨rfl, hb2⟩)
        | fail)
      go_meet
      case rel => rw [HB.out]; exact chkR_mk hb2
    · rw [k1] at ct
      cases k2 : decide (Cn = Tn)
      · have d2 : ((Cn : Int) == (Tn : Int)) = false := by
          have := of_decide_eq_false k2
          rw [beq_eq_false_iff_ne]; omega
        have hb : b0 = false := by rw [HB0.out, k1, k2]; rfl
        have HB := Lib.hid hb
        clear k1 k2 hb
        go_wp2_with (first
          | (go_at_call 87; (with_reducible refine ct.mono ?_); rintro e w2 ⟨rfl, hb2⟩; obtain ⟨z0, z1, z2⟩ := zz _ hb2)
          | fail)
        go_meet
        case rel => rw [HB.out]; exact chkR_mk hb2
      · have d2 : ((Cn : Int) == (Tn : Int)) = true := by
          have := of_decide_eq_true k2
          rw [beq_iff_eq]; omega
        cases k3 : decide (En ≤ 1048578)
        all_goals
          have d3 : decide ((En : Int) ≤ 1048578) = decide (En ≤ 1048578) := by
            apply decide_eq_decide.2; omega
          rw [k3] at d3
          have hb : b0 = decide (En ≤ 1048578) := by rw [HB0.out, k1, k2]; simp
          rw [k3] at hb
          have HB := Lib.hid hb
          clear k1 k2 k3 hb
          go_wp2_with (first
            | (go_at_call 87; (with_reducible refine ct.mono ?_); rintro e w2 ⟨rfl, hb2⟩; obtain ⟨z0, z1, z2⟩ := zz _ hb2)
            | fail)
          go_meet
          case rel => rw [HB.out]; exact chkR_mk hb2
  case rest =>
    obtain ⟨bo, rfl, hbo, hbx, hblk, hbw⟩ := hcut
    have y1 : wc.cell? ⟨w.heap.size, 1, none⟩ = some (.slice CA Cn Cc) := hblk.cell 1
    go_wp2_with fail
    clear y0 y1 y2 zz ct hB
    go_loopw [31] (fun i wr => ∃ k : Nat, k ≤ Cn ∧ i = .int .i64 k ∧ Boxed wr bo 4 (.bool (b0 && (F.take k).all (fun c => colT c En))) ∧ Blk wr w.heap.size 25 #[.slice TA Tn Tc, .slice CA Cn Cc, .slice EA En Ec] ∧ Below w.heap.size w wr)
      (fun i _ => Cn - (intOf i).toNat)
    case atStart => exact ⟨0, Nat.zero_le _, rfl, by simpa using hbx, hblk, hbw⟩
    case round =>
      obtain ⟨k, hk, rfl, hbx2, hblk2, hbw2⟩ := hrel
      clear hbx hblk hbw
      by_cases hlt : k < Cn
      · have e1 := List.getElem?_eq_getElem (l := F) (i := k) (by have := L2.out; omega)
        generalize F[k]'(by have := L2.out; omega) = x at e1
        obtain ⟨b, off, rfl, hbl, g⟩ := cols_cells HO.out.cs e1
        obtain ⟨g0, g1, g2⟩ := (g.below hbw2 hbl)
        have hxo := HO.out.csok x (List.mem_of_getElem? e1)
        have HS := Lib.hid (all_step (m := En) e1 b0)
        have cc := fun (W : World) => ccheck_any x.W x.R x.A x.n x.c W (Nat.le_trans hxo.2.1 hxo.2.2.1)
        have f0 := hbx2.cell
        have f1 := hbx2.frozen
        have HX := Lib.hid hbx2
        have HB := Lib.hid hblk2
        have hsz : bo < wr.heap.size := hbx2.lt
        clear e1 g hxo hbx2 hblk2
        generalize (b0 && (F.take k).all (fun c => colT c En)) = v at *
        obtain ⟨xW, xR, xA, xn, xc, xl⟩ := x
        unfold colV at cc
        simp only at g0 g1 g2 cc
        cases v
        · have HT := Lib.hid (show (b0 && (F.take (k + 1)).all (fun c => colT c En)) = false from HS.out)
          clear HS cc
          go_wp2_with fail
          go_roundw
          case rel => exact ⟨k + 1, by omega, by go_num, by rw [HT.out]; exact (HX.out.set _).alloc _, (HB.out.far (by simp; omega) _).alloc _, (hbw2.setCell (by simp; omega) _).alloc (by rw [World.size_setCell]; exact hbw2.size) _⟩
          case measure => simp [intOf]; omega
        · rw [Bool.true_and] at HS
          have z5 := fun (w2 : World) (h : Below (wr.alloc (.cells #[.int .i64 xW, .int .i64 xR, .slice xA xn xc] 68)).heap.size (wr.alloc (.cells #[.int .i64 xW, .int .i64 xR, .slice xA xn xc] 68)) w2) =>
            And.intro (cell_below' h (new_cell wr 68 #[.int .i64 xW, .int .i64 xR, .slice xA xn xc] (k := 1) (v := .int .i64 xR) rfl) (by simp))
              (And.intro (boxed_below (HX.out.alloc _) h) (blk_below (HB.out.alloc _) h))
          have z6 := fun (w2 : World) (h : Below (wr.alloc (.cells #[.int .i64 xW, .int .i64 xR, .slice xA xn xc] 68)).heap.size (wr.alloc (.cells #[.int .i64 xW, .int .i64 xR, .slice xA xn xc] 68)) w2) =>
            (hbw2.alloc hbw2.size (.cells #[.int .i64 xW, .int .i64 xR, .slice xA xn xc] 68)).trans (h.mono (Nat.le_trans hbw2.size (by simp)))
          unfold colE at cc
          cases hcb : colB xW xR xn
          · have HT := Lib.hid (show (b0 && (F.take (k + 1)).all (fun c => colT c En)) = false from HS.out.trans (by unfold colT; simp only; rw [hcb]; rfl))
            rw [hcb] at cc
            clear HS hcb
            go_wp2_with (first
              | (go_at_call 88; ((with_reducible refine (cc _).mono ?_); rintro e w2 ⟨rfl, hb2⟩; obtain ⟨q1, q2, q3⟩ := z5 _ hb2; have q5 := q2.cell; have q6 := q2.frozen; have Q2 := Lib.hid q2; have Q3 := Lib.hid q3; have q7 := z6 _ hb2; clear q2 q3))
              | fail)
            go_roundw
            case rel => exact ⟨k + 1, by omega, by go_num, by rw [HT.out]; exact Q2.out.set _, Q3.out.far (by simp; omega) _, q7.setCell (by simp; omega) _⟩
            case measure => simp [intOf]; omega
          · rw [hcb] at cc
            have HT := Lib.hid (show (b0 && (F.take (k + 1)).all (fun c => colT c En)) = (xR == (En : Int)) from HS.out.trans (by unfold colT; simp only; rw [hcb]; rfl))
            clear HS hcb
            go_wp2_with (first
              | (go_at_call 88; ((with_reducible refine (cc _).mono ?_); rintro e w2 ⟨rfl, hb2⟩; obtain ⟨q1, q2, q3⟩ := z5 _ hb2; have q5 := q2.cell; have q6 := q2.frozen; have q8 : w2.cell? ⟨w.heap.size, 2, none⟩ = some (.slice EA En Ec) := q3.cell 2; have Q2 := Lib.hid q2; have Q3 := Lib.hid q3; have q7 := z6 _ hb2; clear q2 q3))
              | fail)
            go_roundw
            case rel => exact ⟨k + 1, by omega, by go_num, by rw [HT.out]; exact Q2.out.set _, Q3.out.far (by simp; omega) _, q7.setCell (by simp; omega) _⟩
            case measure => simp [intOf]; omega
      · have : k = Cn := by omega
        subst this
        rw [List.take_of_length_le (by have := L2.out; omega)] at hbx2
        have hmm := @run_makeMap Try.prog
        have hmd := run_made wr
        obtain ⟨w3, hw3⟩ : ∃ w3, w3 = (wr.alloc (.map #[⟨.int .i64 0, .bool true, 0⟩] 1)).alloc (.cells #[.map (some wr.heap.size)] 126) := ⟨_, rfl⟩
        have hm3 : SetM w3 wr.heap.size (metOf []) := by rw [hw3]; exact (setm_new wr).kept (World.grownBy_alloc _ _ none) (by simp)
        have hx3 : Boxed w3 bo 4 (.bool (b0 && F.all (fun c => colT c En))) := by rw [hw3]; exact (hbx2.alloc _).alloc _
        have hv3 : Boxed w3 (wr.heap.size + 1) 126 (.map (some wr.heap.size)) := by rw [hw3]; have := Boxed.new (wr.alloc (.map #[⟨.int .i64 0, .bool true, 0⟩] 1)) 126 (.map (some wr.heap.size)); rwa [World.size_alloc] at this
        have hk3 : Blk w3 w.heap.size 25 #[.slice TA Tn Tc, .slice CA k Cc, .slice EA En Ec] := by rw [hw3]; exact (hblk2.alloc _).alloc _
        have hb3 : Below w.heap.size w w3 := by rw [hw3]; exact (hbw2.alloc hbw2.size _).alloc (by simp; have := hbw2.size; omega) _
        have hlt2 : bo < wr.heap.size := hbx2.lt
        have c0 : w3.cell? ⟨w.heap.size, 0, none⟩ = some (.slice TA Tn Tc) := hk3.cell 0
        have c1 : w3.cell? ⟨w.heap.size, 1, none⟩ = some (.slice CA k Cc) := hk3.cell 1
        have c2 : w3.cell? ⟨w.heap.size, 2, none⟩ = some (.slice EA En Ec) := hk3.cell 2
        have cr := rows_any w.heap.size ⟨TA, Tn, Tc, ty, CA, k, Cc, F, EA, En, Ec, es⟩ w3 hb3.size (HO.out.keep hb3).es HO.out.esw s3
        unfold Tab.V at cr
        simp only at cr
        have HM := Lib.hid hm3
        have HX := Lib.hid hx3
        have HV := Lib.hid hv3
        clear hm3 hx3 hv3 hk3 hbx2 hblk2 hbw2
        subst hw3
        go_wp2_with fail
        go_step3
        go_wp2_with fail
        refine cr.mono ?_
        rintro e w4 ⟨bt, rfl, hst, hb4⟩
        clear cr c0 c1 c2 hmm hmd
        have hx4 := boxed_below HX.out hb4
        have hv4 := boxed_below HV.out hb4
        have hm4 := HM.out.kept (below_none hb4) (by simp)
        have hb5 := hb3.trans (hb4.mono hb3.size)
        have hz4 : wr.heap.size + 1 < w4.heap.size := hv4.lt
        clear HX HV HM hb3 hb4
        go_wp2_with fail
        cases hb1 : (b0 && F.all (fun c => colT c En))
        · rw [hb1] at hx4
          have HB1 := Lib.hid hb1
          clear hb1
          refine wpIn_wide (n := 6) |>.1 ?_
          refine wpIn_rangeFunc_ownG (w0 := w4) rfl (by omega) (gf := 111) (lb := #[.pointer (some ⟨bt, 0, none⟩)]) rfl trivial (enters_of Try.func111 (by kernel_rfl) rfl)
            (hst (6 - 1) (by omega)) belowK_t (belowK_b (by have := hb5.size; omega)) (Below.refl _ _) (fun _ => rfl)
            (fun pre W => pre = [] ∧ Boxed W bo 4 (.bool false) ∧ Below w.heap.size w W)
            (fun c pre W => c = .exit 2 ∧ True ∧ Boxed W bo 4 (.bool false) ∧ Below w.heap.size w W)
            (OwnFrom.and (ownFrom_pure _ _) (OwnFrom.and (Own.from (boxed_own _ _ _) _) (ownFrom_below (Nat.le_refl _) (by have := hb5.size; omega))))
            (fun c => OwnFrom.and (ownFrom_pure _ _) (OwnFrom.and (ownFrom_pure _ _) (OwnFrom.and (Own.from (boxed_own _ _ _) _) (ownFrom_below (Nat.le_refl _) (by have := hb5.size; omega)))))
            ⟨rfl, hx4, hb5⟩ ?a1 ?assign ?body ?done ?stop
          case assign =>
            intro l x W K hK
            unfold encR
            gi_wp2
            exact hK
          case body =>
            rintro l pre x W ⟨rfl, hv, hB⟩ hlt3
            have hc := hv.cell
            have hf := hv.frozen
            have HV := Lib.hid hv
            clear hv
            gi_wp2
            exact ⟨(KeepsOthers.setCell _ _ _).from _, rfl, trivial, HV.out.set _, hB.setCell (p := ⟨bo, 0, none⟩) (by simp; omega) _⟩
          case done =>
            rintro D ys' W hD rfl ⟨hnil, hv, hB⟩ hK
            have hc := hv.cell
            clear hv hnil
            go_wp2
            refine ⟨by simp, .inl ⟨_, _, rfl, run_takeDeferred hK, ?_⟩⟩
            exact ⟨_, results_tmp rfl _ _ _, by rw [HB1.out]; rfl, hB.trans (belowK_b (w := w) (Nat.le_refl _) W D _ _ (by have := hb5.size; omega) hK rfl rfl)⟩
          case stop =>
            rintro D c pre W hD hpre ⟨rfl, _, hv, hB⟩ hK
            have hc := hv.cell
            clear hv
            refine wpIn_wide.2 ?_
            go_wp2
            refine ⟨by simp, .inl ⟨_, _, rfl, run_takeDeferred hK, ?_⟩⟩
            exact ⟨_, results_tmp rfl _ _ _, by rw [HB1.out]; rfl, hB.trans (belowK_b (w := w) (Nat.le_refl _) W D _ _ (by have := hb5.size; omega) hK rfl rfl)⟩
        · rw [hb1] at hx4
          have HB1 := Lib.hid hb1
          clear hb1
          refine wpIn_wide (n := 6) |>.1 ?_
          refine wpIn_rangeFunc_ownG (w0 := w4) rfl (by omega) (gf := 111) (lb := #[.pointer (some ⟨bt, 0, none⟩)]) rfl trivial (enters_of Try.func111 (by kernel_rfl) rfl)
            (hst (6 - 1) (by omega)) belowK_t (belowK_b (by have := hb5.size; omega)) (Below.refl _ _) (fun _ => rfl)
            (fun pre W => freshP pre = true ∧ Boxed W bo 4 (.bool true) ∧ Boxed W (wr.heap.size + 1) 126 (.map (some wr.heap.size)) ∧ SetM W wr.heap.size (metOf pre) ∧ Below w.heap.size w W)
            (fun c pre W => c = .exit 2 ∧ freshP pre = false ∧ Boxed W bo 4 (.bool false) ∧ Below w.heap.size w W)
            (OwnFrom.and (ownFrom_pure _ _) (OwnFrom.and (Own.from (boxed_own _ _ _) _) (OwnFrom.and (Own.from (boxed_own _ _ _) _) (OwnFrom.and (ownFrom_setm (by omega) _) (ownFrom_below (Nat.le_refl _) (by have := hb5.size; omega))))))
            (fun c => OwnFrom.and (ownFrom_pure _ _) (OwnFrom.and (ownFrom_pure _ _) (OwnFrom.and (Own.from (boxed_own _ _ _) _) (ownFrom_below (Nat.le_refl _) (by have := hb5.size; omega)))))
            ⟨rfl, hx4, hv4, hm4, hb5⟩ ?a1 ?assign ?body ?done ?stop
          case assign =>
            intro l x W K hK
            unfold encR
            gi_wp2
            exact hK
          case body =>
            rintro l pre x W ⟨hfr, hv, hmb, hm, hB⟩ hlt3
            have hc := hv.cell
            have hf := hv.frozen
            have hc2 := hmb.cell
            have hf2 := hmb.frozen
            have hne : wr.heap.size + 1 ≠ bo := by omega
            have hlook := hm.look (x := x.1.2) (by have := x.2.2; omega)
            have hlm := metOf_len pre
            have hfs := Lib.hid (freshP_snoc pre x)
            have hms := Lib.hid (metOf_snoc pre x)
            obtain ⟨wm, hrun, hm2, hg2⟩ := (hm.kept (grownBy_setCell' W bo (.bool true)) (by simp; omega)).put (x := x.1.2) (by have := x.2.2; omega) (by rw [hlm]; unfold maxLen; omega)
            have HV := Lib.hid hv
            have HMB := Lib.hid hmb
            have HM2 := Lib.hid hm2
            have HFR := Lib.hid hfr
            clear hv hmb hm hm2 hlm hfr
            cases hct : (metOf pre).contains x.1.2
            · rw [hct] at hlook
              have HC := Lib.hid hct
              clear hct
              gi_wp2
              have hWb : Below w.heap.size w wm := (hB.setCell (p := ⟨bo, 0, none⟩) (by simp; omega) (.bool true)).grown hg2 (by simp; exact hB.size) (fun k e => by cases e; have := hb5.size; omega)
              refine ⟨(KeepsOthers.setCell _ _ _).from _ |>.trans (KeepsFrom.of_grownBy hg2 (fun j e => by cases e; omega)), ?_, ?_, (HV.out.set _).kept hg2 (by simp; omega), (HMB.out.other hne _).kept hg2 (by simp), ?_, hWb⟩
              · exact ((Below.refl _ W).setCell (p := ⟨bo, 0, none⟩) (by simp; omega) _).grown hg2 (by simp; exact hB.size) (fun k e => by cases e; have := hb5.size; omega)
              · rw [hfs.out, HFR.out, HC.out]; rfl
              · rw [hms.out]; exact HM2.out
            · rw [hct] at hlook
              have HC := Lib.hid hct
              clear hct
              gi_wp2
              exact ⟨(KeepsOthers.setCell _ _ _).from _, rfl, by rw [hfs.out, HC.out, Bool.not_true, Bool.and_false], HV.out.set _, hB.setCell (p := ⟨bo, 0, none⟩) (by simp; omega) _⟩
          case done =>
            rintro D ys' W hD rfl ⟨hfr, hv, hmb, hm, hB⟩ hK
            have hc := hv.cell
            have HR := Lib.hid (show (if (true && entOk es En) = true then (0 : Int) else 190) = 0 from by rw [← L3.out, ← freshP_rows HO.out.esw (by rw [L3.out]; exact s3), hfr]; rfl)
            clear hv hmb hm hfr
            go_wp2
            refine ⟨by simp, .inl ⟨_, _, rfl, run_takeDeferred hK, ?_⟩⟩
            exact ⟨_, results_tmp rfl _ _ _, by rw [HB1.out, HR.out]; rfl, hB.trans (belowK_b (w := w) (Nat.le_refl _) W D _ _ (by have := hb5.size; omega) hK rfl rfl)⟩
          case stop =>
            rintro D c pre W hD hpre ⟨rfl, hfr, hv, hB⟩ hK
            have hc := hv.cell
            have HR := Lib.hid (show (if (true && entOk es En) = true then (0 : Int) else 190) = 190 from by rw [← L3.out, ← freshP_rows HO.out.esw (by rw [L3.out]; exact s3), freshP_pre hpre hfr]; rfl)
            clear hv hfr
            refine wpIn_wide.2 ?_
            go_wp2
            refine ⟨by simp, .inl ⟨_, _, rfl, run_takeDeferred hK, ?_⟩⟩
            exact ⟨_, results_tmp rfl _ _ _, by rw [HB1.out, HR.out]; rfl, hB.trans (belowK_b (w := w) (Nat.le_refl _) W D _ _ (by have := hb5.size; omega) hK rfl rfl)⟩
end Go.Proofs.Ytbcbknajhdaneaa
namespace Go.Proofs.Ytbcbknajhdaneaa
open Go.RowKit
set_option linter.unusedVariables false
set_option linter.unusedSimpArgs false
/-- the address of a row's words -/
def atA (A : Option Addr) (W k : Nat) : Option Addr := if (k + 1) * W = k * W then A else A.map (·.add (k * W))
theorem elem_u : Try.prog.elem 43 = 26 := by kernel_rfl
theorem run_at (A : Option Addr) (n c W k : Nat) (h : (k + 1) * W ≤ c) (w : World) :
    (Instr.slice 43 (.slice A n c) (some (.int .i64 ((k * W : Nat) : Int))) (some (.int .i64 (((k + 1) * W : Nat) : Int))) (some (.int .i64 (((k + 1) * W : Nat) : Int)))).run Try.prog w = .ok (.slice (atA A W k) W W) w := by
  obtain ⟨i0, hi0, hz0, hz1, hz2⟩ := info_parts info_u64
  have hm : (k + 1) * W = k * W + W := Nat.succ_mul k W
  rw [run_slice_lhm w 43 A n c (by rw [elem_u]; exact Try.underlying43) .i64 .i64 .i64 _ _ _ (by omega) (by omega) (by omega) (by omega), elem_u]
  have hs : (sizeOf 26).run Try.prog w = .ok 1 w := by simp [sizeOf, typeInfo, hi0, hz1]
  rw [hs]
  simp only [Result.andThen, Int.toNat_natCast]
  unfold sliced atA
  rw [Nat.mul_one, hm, Nat.add_sub_cancel_left]
theorem i64_wrap {a : Int} (h : -9223372036854775808 ≤ a ∧ a ≤ 9223372036854775807) : IntKind.i64.wrap a = a := IntWalk.i64_in a h
theorem rows_le {k R W : Nat} (hk : k < R) : (k + 1) * W ≤ R * W := Nat.mul_le_mul_right W hk
set_option maxRecDepth 100000 in
theorem cat_any (W R k : Nat) (A : Option Addr) (n c : Nat) (w : World) (hk : k < R) (hW : W ≤ 4) (hR : R ≤ 1048578) (hn : n = W * R) (hc : n ≤ c) (hcm : c ≤ maxLen) :
    Calls Try.prog 117 #[colV W R A n c, .int .i64 k] w fun e w' => e = .returned (.slice (atA A W k) W W) ∧ Below w.heap.size w w' := by
  have h1 : (k + 1) * W ≤ R * W := rows_le hk
  have h2 : R * W = W * R := Nat.mul_comm _ _
  have hm : (k + 1) * W = k * W + W := Nat.succ_mul k W
  have h4 : R * W ≤ 1048578 * 4 := Nat.mul_le_mul hR hW
  have hrun := fun w => run_at A n c W k (by omega) w
  have e1 : IntKind.i64.wrap ((k : Int) * (W : Int)) = ((k * W : Nat) : Int) := by rw [← Int.natCast_mul, i64_wrap (by omega)]
  have e2 : IntKind.i64.wrap ((k : Int) + 1) = (k : Int) + 1 := by rw [i64_wrap (by omega)]
  have e3 : IntKind.i64.wrap (((k : Int) + 1) * (W : Int)) = (((k + 1) * W : Nat) : Int) := by rw [show ((k : Int) + 1) = ((k + 1 : Nat) : Int) from by omega, ← Int.natCast_mul, i64_wrap (by omega)]
  have c0 := new_cell w 68 #[.int .i64 (W : Int), .int .i64 (R : Int), .slice A n c] (k := 0) (v := .int .i64 (W : Int)) rfl
  have c2 := new_cell w 68 #[.int .i64 (W : Int), .int .i64 (R : Int), .slice A n c] (k := 2) (v := .slice A n c) rfl
  have hb := (Below.refl w.heap.size w).alloc (Nat.le_refl _) (.cells #[.int .i64 (W : Int), .int .i64 (R : Int), .slice A n c] 68)
  clear h1 h2 hm h4 hk hW hR hn hc hcm
  generalize k * W = f at *
  generalize (k + 1) * W = g at *
  unfold colV
  go_enter Try.func117, Try.ntmps117
  go_wp2_with fail
  go_quiet (fail)
  go_wp2_with fail
  go_ret
  exact ⟨rfl, below_drewN' hb _⟩
end Go.Proofs.Ytbcbknajhdaneaa
namespace Go.Proofs.Ytbcbknajhdaneaa
open Go.RowKit
set_option linter.unusedVariables false
set_option linter.unusedSimpArgs false
/-- a row of words: its slice, and what it reads -/
structure Rw where
  A : Option Addr
  n : Nat
  c : Nat
  l : List Int
deriving Inhabited
def Rw.V (x : Rw) : Value := .slice x.A x.n x.c
def rws (G : List Rw) : List Value := G.map Rw.V
theorem rws_len (G : List Rw) : (rws G).length = G.length := by unfold rws; rw [List.length_map]
def RwOk (w : World) (B : Nat) (x : Rw) : Prop := Reads w B 1 x.A x.n (ids x.l) ∧ x.n ≤ x.c ∧ x.c ≤ maxLen ∧ ∀ y ∈ x.l, Word y
theorem RwOk.keep {w w' : World} {B : Nat} {x : Rw} (h : RwOk w B x) (hb : Below B w w') : RwOk w' B x := ⟨h.1.below hb, h.2⟩
theorem RwOk.more {w : World} {B B' : Nat} {x : Rw} (h : RwOk w B x) (hb : B ≤ B') : RwOk w B' x := ⟨h.1.more hb, h.2⟩
theorem RwOk.len {w : World} {B : Nat} {x : Rw} (h : RwOk w B x) : x.l.length = x.n := by have := h.1.1; rw [ids_len] at this; omega
theorem rws_cell {w : World} {B n : Nat} {A : Option Addr} {G : List Rw} (h : Reads w B 1 A n (rws G)) {k : Nat} {x : Rw} (hk : G[k]? = some x) :
    ∃ b off, A = some ⟨b, off, none⟩ ∧ b < B ∧ w.cell? ⟨b, off + k, none⟩ = some (.slice x.A x.n x.c) := by
  have hn : k < n := by
    have h1 := h.1
    rw [rws_len] at h1
    have := (List.getElem?_eq_some_iff.1 hk).1
    omega
  obtain ⟨ad, u, rfl, hb, hu, hc⟩ := h.at_ hn
  obtain ⟨ad', u', e, _, _, hc'⟩ := h.at_ (show 0 < n by omega)
  injection e with e
  subst e
  unfold rws at hu
  rw [List.getElem?_map, hk] at hu
  cases hu
  obtain ⟨b, off, spot⟩ := ad
  have hspot : spot = none := by simpa [Addr.add] using World.cell?_spot hc'
  subst hspot
  exact ⟨b, off, rfl, hb, by rw [add_none] at hc; exact hc⟩
theorem ids_app (a b : List Int) : ids (a ++ b) = ids a ++ ids b := by unfold ids; rw [List.map_append]
theorem flat_take {G : List Rw} {k : Nat} {x : Rw} (h : G[k]? = some x) : (G.take (k + 1)).flatMap Rw.l = (G.take k).flatMap Rw.l ++ x.l := by
  rw [take_snoc h, List.flatMap_append]; simp
theorem flat_le (G : List Rw) (k : Nat) : ((G.take k).flatMap Rw.l).length ≤ (G.flatMap Rw.l).length := by
  have h : G.flatMap Rw.l = (G.take k).flatMap Rw.l ++ (G.drop k).flatMap Rw.l := by rw [← List.flatMap_append, List.take_append_drop]
  rw [h, List.length_append]; omega
set_option maxRecDepth 100000 in
set_option maxHeartbeats 4000000 in
theorem joined_any (A : Option Addr) (n c : Nat) (G : List Rw) (w : World) (hR : Reads w w.heap.size 1 A n (rws G)) (hG : ∀ x ∈ G, RwOk w w.heap.size x) (hs : (G.flatMap Rw.l).length ≤ 8589934592) (hn : n ≤ 281474976710656) :
    Calls Try.prog 114 #[.slice A n c] w (OwnU (G.flatMap Rw.l) w) := by
  have hl : G.length = n := by have := hR.1; rw [rws_len] at this; omega
  obtain ⟨i0, hi0, hz0, hz1, hz2⟩ := info_parts info_u64
  go_enter Try.func114, Try.ntmps114
  go_wp2_with fail
  go_loopw [3, 8] (fun o i wr => ∃ k : Nat, k ≤ n ∧ i = .int .i64 k ∧ wr.ownsRow w.heap.size 26 1 o ((G.take k).flatMap Rw.l).length (ids ((G.take k).flatMap Rw.l)) ∧ Below w.heap.size w wr)
    (fun _ i _ => n - (intOf i).toNat)
  case atStart => exact ⟨0, Nat.zero_le _, rfl, World.ownsRow_nil _ _ _ _, Below.refl _ _⟩
  case round =>
    obtain ⟨k, hk, rfl, hown, hb⟩ := hrel
    by_cases hlt : k < n
    · have e1 := List.getElem?_eq_getElem (l := G) (i := k) (by omega)
      generalize G[k]'(by omega) = x at e1
      obtain ⟨b, off, rfl, hbl, g⟩ := rws_cell hR e1
      have g1 := cell_below' hb g hbl
      have hx := hG x (List.mem_of_getElem? e1)
      have hxl := hx.len
      have hxr := hx.1.below hb
      have HT := Lib.hid (flat_take e1)
      have hle := flat_le G (k + 1)
      rw [flat_take e1, List.length_append, hxl] at hle
      have HO := Lib.hid hown
      have HR := Lib.hid hxr
      have HL := Lib.hid hxl
      obtain ⟨Ao, co, rfl⟩ := own_slice hown
      generalize (G.take k).flatMap Rw.l = q at *
      obtain ⟨xA, xn, xc, xl⟩ := x
      simp only at g1 hle
      clear hR hG e1 g hx hxl hxr hown
      go_wp2_with (first
        | (at_builtin
           refine wpList_append_any _ rfl (.tmp 12) (.tmp 13) _ rfl w.heap.size 26 i0 _ 1 8 Try.underlying43 hi0 hz0 hz1 hz2 rfl (by omega) _ q.length (ids q) rfl
             ?_ w.heap.size xA xn xc (ids xl) rfl ?_ (ids_one xl) (by simp only [maxLen]; omega) (by omega) hb.size ?_
           · exact HO.out
           · exact HR.out
           intro v1 w1 hown1 hg1 hat1)
        | fail)
      have hb1 := own_grown_below hb HO.out hg1
      go_roundw
      case rel => exact ⟨k + 1, by omega, by go_num, by rw [HT.out, ids_app, List.length_append, HL.out]; exact hown1, hb1⟩
      case measure => simp [intOf]; omega
    · have : k = n := by omega
      subst this
      rw [List.take_of_length_le (by omega)] at hown
      have HO := Lib.hid hown
      obtain ⟨Ao, co, rfl⟩ := own_slice hown
      clear hR hG hown
      go_wp2_with fail
      go_ret
      exact ⟨_, rfl, HO.out, hb⟩
def getE (x : Col) (row : Int) : Int := if colB x.W x.R x.n then (if 0 ≤ row ∧ row < x.R then 0 else 2) else 180
def chunk (l : List Int) (W k : Nat) : List Int := (l.drop (k * W)).take W
def getL (x : Col) (row : Int) : List Int := if getE x row = 0 then chunk x.l x.W.toNat row.toNat else []
def GetP (x : Col) (row : Int) (w : World) (e : Ending) (w' : World) : Prop :=
  ∃ v, e = .returned (.tuple #[v, .int .i64 (getE x row)]) ∧ w'.ownsRow w.heap.size 26 1 v (getL x row).length (ids (getL x row)) ∧ Below w.heap.size w w'
theorem info_uu : (Try.prog.info? 26).map (fun i => i.size) = some 1 := by
  obtain ⟨i0, hi0, hz0, hz1, hz2⟩ := info_parts info_u64
  rw [hi0]; simp [hz1]
theorem chunk_len {l : List Int} {W k R : Nat} (hk : k < R) (hl : l.length = W * R) : (chunk l W k).length = W := by
  unfold chunk
  have h1 := rows_le (W := W) hk
  have h2 : R * W = W * R := Nat.mul_comm _ _
  have hm : (k + 1) * W = k * W + W := Nat.succ_mul k W
  rw [List.length_take, List.length_drop]
  omega
theorem atA_reads {w : World} {B n W k R : Nat} {A : Option Addr} {l : List Int} (h : Reads w B 1 A n (ids l)) (hn : n = W * R) (hk : k < R) : Reads w B 1 (atA A W k) W (ids (chunk l W k)) := by
  have hl : l.length = W * R := by have := h.1; rw [ids_len] at this; omega
  have h1 := rows_le (W := W) hk
  have h2 : R * W = W * R := Nat.mul_comm _ _
  have hm : (k + 1) * W = k * W + W := Nat.succ_mul k W
  refine ⟨by rw [ids_len, chunk_len hk hl, Nat.mul_one], fun h0 => ?_⟩
  obtain ⟨ad, rfl, hb, hc⟩ := h.2 (by omega)
  unfold atA
  rw [if_neg (by omega)]
  refine ⟨ad.add (k * W), rfl, by rw [block_of_add]; exact hb, fun j u hu => ?_⟩
  rw [add_of_add]
  refine hc _ u ?_
  unfold ids chunk at hu
  rw [List.map_take, List.map_drop, List.getElem?_take] at hu
  split at hu
  · rw [List.getElem?_drop] at hu; exact hu
  · cases hu
set_option maxRecDepth 100000 in
set_option maxHeartbeats 4000000 in
theorem cget_any (x : Col) (row : Int) (w : World) (hx : ColOk w w.heap.size x) : Calls Try.prog 82 #[x.V, .int .i64 row] w (GetP x row w) := by
  obtain ⟨hR, hc1, hc2, hw⟩ := hx
  have hl : x.l.length = x.n := by have := hR.1; rw [ids_len] at this; omega
  obtain ⟨W, R, A, n, c, l⟩ := x
  simp only at hR hc1 hc2 hw hl
  have hB := (Below.refl w.heap.size w).alloc (Nat.le_refl _) (.cells #[.int .i64 W, .int .i64 R, .slice A n c] 68)
  have c0 := new_cell w 68 #[.int .i64 W, .int .i64 R, .slice A n c] (k := 0) (v := .int .i64 W) rfl
  have c1 := new_cell w 68 #[.int .i64 W, .int .i64 R, .slice A n c] (k := 1) (v := .int .i64 R) rfl
  have c2 := new_cell w 68 #[.int .i64 W, .int .i64 R, .slice A n c] (k := 2) (v := .slice A n c) rfl
  have cc := fun (w : World) => ccheck_any W R A n c w (Nat.le_trans hc1 hc2)
  have zz := fun (w2 : World) (h : Below (w.alloc (.cells #[.int .i64 W, .int .i64 R, .slice A n c] 68)).heap.size (w.alloc (.cells #[.int .i64 W, .int .i64 R, .slice A n c] 68)) w2) =>
    And.intro (cell_below' h c0 (by simp)) (And.intro (cell_below' h c1 (by simp)) (And.intro (cell_below' h c2 (by simp)) (hB.trans (h.mono hB.size))))
  unfold colV colE at cc
  unfold Col.V colV
  simp only
  cases hcb : colB W R n
  · have hf : GetP ⟨W, R, A, n, c, l⟩ row w = fun e w' => ∃ v, e = .returned (.tuple #[v, .int .i64 180]) ∧ w'.ownsRow w.heap.size 26 1 v 0 [] ∧ Below w.heap.size w w' := by
      funext e w'
      unfold GetP getL getE
      simp only [hcb]
      rfl
    rw [hf]
    rw [hcb] at cc
    clear hf hcb hR c0 c1 c2
    go_enter Try.func82, Try.ntmps82
    go_wp2_with (first
      | (go_at_call 88; ((with_reducible refine (cc _).mono ?_); rintro e w2 ⟨rfl, hb2⟩; obtain ⟨z0, z1, z2, zb⟩ := zz _ hb2))
      | fail)
    go_ret2
    exact ⟨_, rfl, World.ownsRow_nil _ _ _ _, zb⟩
  · rw [hcb] at cc
    by_cases hrow : 0 ≤ row ∧ row < R
    · have hcb' := hcb
      unfold colB at hcb'
      obtain ⟨hW0, hW4, hR0, hR1, hn⟩ := of_decide_eq_true hcb'
      obtain ⟨Wn, rfl⟩ := Int.eq_ofNat_of_zero_le hW0
      obtain ⟨Rn, rfl⟩ := Int.eq_ofNat_of_zero_le hR0
      obtain ⟨k, rfl⟩ := Int.eq_ofNat_of_zero_le hrow.1
      have hn2 : n = Wn * Rn := by rw [← Int.natCast_mul] at hn; omega
      have hk : k < Rn := by omega
      have hch := chunk_len (l := l) hk (hl.trans hn2)
      have hf : GetP ⟨(Wn : Int), (Rn : Int), A, n, c, l⟩ (k : Int) w = fun e w' => ∃ v, e = .returned (.tuple #[v, .int .i64 0]) ∧ w'.ownsRow w.heap.size 26 1 v Wn (ids (chunk l Wn k)) ∧ Below w.heap.size w w' := by
        funext e w'
        have hg : getE ⟨(Wn : Int), (Rn : Int), A, n, c, l⟩ (k : Int) = 0 := by
          unfold getE
          simp only [hcb, if_true]
          rw [if_pos hrow]
        have hgl : getL ⟨(Wn : Int), (Rn : Int), A, n, c, l⟩ (k : Int) = chunk l Wn k := by
          unfold getL
          rw [if_pos hg]
          simp only [Int.toNat_natCast]
        unfold GetP
        rw [hg, hgl, hch]
      rw [hf]
      have ca := fun (w : World) => cat_any Wn Rn k A n c w hk (by omega) (by omega) hn2 hc1 hc2
      unfold colV at ca
      have HR := Lib.hid (fun (w2 : World) (h : Below w.heap.size w w2) => atA_reads (hR.below h) hn2 hk)
      obtain ⟨i0, hi0, hz0, hz1, hz2⟩ := info_parts info_u64
      have hmk := fun W => run_make_row (P := Try.prog) 44 26 i0 (.int .u64 0) Try.underlying44 hi0 hz0 hz1 rfl .i64 .i64 Wn (by rw [hz2]; omega) (by omega) W
      have t2 : decide (Rn ≤ k) = false := decide_eq_false (by omega)
      have hWn : Wn ≤ 4 := by omega
      have HC := Lib.hid hch
      clear hf hcb hcb' hR c0 c1 c2 hn hn2 hl hch hrow hR0 hR1 hW0 hW4
      generalize atA A Wn k = Aa at *
      generalize chunk l Wn k = ch at *
      go_enter Try.func82, Try.ntmps82
      go_wp2_with (first
        | (go_at_call 88; ((with_reducible refine (cc _).mono ?_); rintro e w2 ⟨rfl, hb2⟩; obtain ⟨z0, z1, z2, zb⟩ := zz _ hb2; have zs : w.heap.size < w2.heap.size := (by have := hb2.size; simp at this; omega); have y0 := fun o : Obj => cell_below' ((Below.refl w2.heap.size w2).alloc (Nat.le_refl _) o) z0 zs; have y1 := fun o : Obj => cell_below' ((Below.refl w2.heap.size w2).alloc (Nat.le_refl _) o) z1 zs; have y2 := fun o : Obj => cell_below' ((Below.refl w2.heap.size w2).alloc (Nat.le_refl _) o) z2 zs; have hb4 := zb.alloc zb.size (.cells (madeCells #[.int .u64 0] Wn) 26)))
        | (go_at_call 117; ((with_reducible refine (ca _).mono ?_); rintro e w3 ⟨rfl, hb3⟩))
        | (refine wpList_copy_splice rfl (.tmp 24) (.tmp 27) _ _ rfl 26 Try.underlying44 info_uu _ Aa Wn Wn Wn Wn rfl rfl w2.heap.size 0 (madeCells #[.int .u64 0] Wn).toList 26 ?_ (ids ch) ?_ ?_ ?_ (ids_one ch) w.heap.size w ?_ ?_ ?_
           · exact (hb3.block w2.heap.size (by simp)).trans (last_blk _ _)
           · rw [ids_len, HC.out]; simp
           · intro h0
             obtain ⟨ad, e, hb, hc⟩ := (HR.out _ (hb4.trans (hb3.mono hb4.size))).2 (by rw [ids_len, HC.out] at h0; exact h0)
             exact ⟨rfl, ad, e, hc⟩
           · rw [ids_len, HC.out, Array.length_toList, size_madeCells]; simp
           · exact hb4.trans (hb3.mono hb4.size)
           · exact zb.size
           intro w5 hh hb5)
        | fail)
      go_ret2
      refine ⟨_, rfl, ?_, hb5⟩
      have hh := hh.out
      refine ⟨by rw [ids_len, HC.out, Nat.mul_one], .inr ⟨w2.heap.size, Wn, _, rfl, zb.size, hh, by omega, by simp only [maxLen]; omega, ?_, ?_⟩⟩
      · rw [List.size_toArray, length_splice _ _ _ (by rw [ids_len, HC.out, Array.length_toList, size_madeCells]; simp), Array.length_toList, size_madeCells]; simp
      · rw [Nat.mul_one]
        unfold splice
        rw [List.take_zero, List.nil_append, List.take_append_of_le_length (by rw [ids_len, HC.out]; omega), List.take_of_length_le (by rw [ids_len, HC.out]; omega)]
    · have hf : GetP ⟨W, R, A, n, c, l⟩ row w = fun e w' => ∃ v, e = .returned (.tuple #[v, .int .i64 2]) ∧ w'.ownsRow w.heap.size 26 1 v 0 [] ∧ Below w.heap.size w w' := by
        funext e w'
        unfold GetP getL getE
        simp only [hcb, hrow, if_true, if_false]
        rfl
      rw [hf]
      clear hf hcb hR c0 c1 c2
      by_cases h0 : row < 0
      · go_enter Try.func82, Try.ntmps82
        go_wp2_with (first
          | (go_at_call 88; ((with_reducible refine (cc _).mono ?_); rintro e w2 ⟨rfl, hb2⟩; obtain ⟨z0, z1, z2, zb⟩ := zz _ hb2))
          | fail)
        go_ret2
        exact ⟨_, rfl, World.ownsRow_nil _ _ _ _, zb⟩
      · have t2 : decide (R ≤ row) = true := decide_eq_true (by omega)
        go_enter Try.func82, Try.ntmps82
        go_wp2_with (first
          | (go_at_call 88; ((with_reducible refine (cc _).mono ?_); rintro e w2 ⟨rfl, hb2⟩; obtain ⟨z0, z1, z2, zb⟩ := zz _ hb2))
          | fail)
        go_ret2
        exact ⟨_, rfl, World.ownsRow_nil _ _ _ _, zb⟩
end Go.Proofs.Ytbcbknajhdaneaa
namespace Go.Proofs.Ytbcbknajhdaneaa
open Go.RowKit
set_option linter.unusedVariables false
set_option linter.unusedSimpArgs false
theorem blk_cells3 {w : World} {g : Nat} {t : TypeId} {a b c : Value} (h : Blk w g t #[a, b, c]) :
    (w.cell? ⟨g, 0, none⟩ = some a ∧ w.cell? ⟨g, 1, none⟩ = some b ∧ w.cell? ⟨g, 2, none⟩ = some c) ∧ (∀ i, w.frozen? ⟨g, i, none⟩ = false) :=
  ⟨⟨h.cell 0, h.cell 1, h.cell 2⟩, fun i => h.frozen i⟩
theorem push1_any (A : Option Addr) (n c b : Nat) (W : Int) (w : World) (h : w.cell? ⟨b, 0, none⟩ = some (.int .i64 W)) :
    Calls Try.prog 113 #[.slice A n c, .pointer (some ⟨b, 0, none⟩)] w fun e w' => e = .returned (.bool ((n : Int) != W)) ∧ w = w' := by
  go_enter Try.func113, Try.ntmps113
  go_wp2_with fail
  go_ret
  exact ⟨rfl, rfl⟩
set_option maxRecDepth 100000 in
theorem ixf1_any (A : Option Addr) (c : Nat) (x : Rw) (b : Nat) (W : Int) (w : World) (h : w.cell? ⟨b, 0, none⟩ = some (.int .i64 W)) (hR : Reads w w.heap.size 1 A 1 (rws [x])) :
    Calls Try.prog 131 #[.slice A 1 c, .func (.func 113) #[] #[.pointer (some ⟨b, 0, none⟩)]] w fun e w' => e = .returned (.int .i64 (if ((x.n : Int) != W) = true then 0 else -1)) ∧ w = w' := by
  obtain ⟨ba, off, rfl, _, g⟩ := rws_cell hR (k := 0) (x := x) rfl
  have cp := fun A n c => push1_any A n c b W w h
  simp only [Nat.add_zero] at g
  obtain ⟨xA, xn, xc, xl⟩ := x
  simp only at g ⊢
  clear hR h
  have cx := cp xA xn xc
  clear cp
  cases hd : ((xn : Int) != W)
  · rw [hd] at cx
    clear hd
    go_enter Try.func131, Try.ntmps131
    go_wp2_with fail
    go_loop [8] (fun i => i = .int .i64 0 ∨ i = .int .i64 1) (fun i => 1 - (intOf i).toNat)
    case atStart => exact .inl rfl
    case round =>
      rcases hrel with rfl | rfl
      · go_wp2_with (first | ((with_reducible refine cx.mono ?_); rintro e w2 ⟨rfl, rfl⟩) | fail)
        go_round
        case rel => exact .inr rfl
        case measure => simp [intOf]
      · go_wp2_with fail
        go_ret
        exact ⟨rfl, rfl⟩
  · rw [hd] at cx
    clear hd
    go_enter Try.func131, Try.ntmps131
    go_wp2_with fail
    go_loop [8] (fun i => i = .int .i64 0) (fun i => 1 - (intOf i).toNat)
    case atStart => rfl
    case round =>
      subst hrel
      go_wp2_with (first | ((with_reducible refine cx.mono ?_); rintro e w2 ⟨rfl, rfl⟩) | fail)
      go_ret
      exact ⟨rfl, rfl⟩
theorem cf1_any (A : Option Addr) (c : Nat) (x : Rw) (b : Nat) (W : Int) (w : World) (h : w.cell? ⟨b, 0, none⟩ = some (.int .i64 W)) (hR : Reads w w.heap.size 1 A 1 (rws [x])) :
    Calls Try.prog 112 #[.slice A 1 c, .func (.func 113) #[] #[.pointer (some ⟨b, 0, none⟩)]] w fun e w' => e = .returned (.bool ((x.n : Int) != W)) ∧ w = w' := by
  have ci := ixf1_any A c x b W w h hR
  clear h hR
  cases hd : ((x.n : Int) != W)
  all_goals
    rw [hd] at ci
    simp only [Bool.false_eq_true, if_false, if_true] at ci
    clear hd
    go_enter Try.func112, Try.ntmps112
    go_wp2_with (first | (go_at_call 131; ((with_reducible refine ci.mono ?_); rintro e w2 ⟨rfl, rfl⟩)) | fail)
    go_ret
    exact ⟨rfl, rfl⟩
end Go.Proofs.Ytbcbknajhdaneaa
namespace Go.Proofs.Ytbcbknajhdaneaa
open Go.RowKit
set_option linter.unusedVariables false
set_option linter.unusedSimpArgs false
/-- a slice over whole numbers in memory made since -/
def IntS (w : World) (base : Nat) (e : TypeId) (A : Option Addr) (n : Nat) : Prop :=
  0 < n → ∃ g cur, A = some ⟨g, 0, none⟩ ∧ base ≤ g ∧ w.heap[g]? = some (.cells cur e (0, 0)) ∧ ∀ j, j < n → ∃ x, cur[j]? = some (.int .u64 x) ∧ Word x
theorem IntS.below {w w' : World} {base : Nat} {e : TypeId} {A : Option Addr} {n : Nat} (h : IntS w base e A n) (hb : Below w.heap.size w w') : IntS w' base e A n := fun h0 => by
  obtain ⟨g, cur, rfl, h1, h2, h3⟩ := h h0
  exact ⟨g, cur, rfl, h1, (hb.block g (Array.getElem?_eq_some_iff.1 h2).1).trans h2, h3⟩
theorem IntS.base {w : World} {base base' : Nat} {e : TypeId} {A : Option Addr} {n : Nat} (h : IntS w base e A n) (hb : base' ≤ base) : IntS w base' e A n := fun h0 => by
  obtain ⟨g, cur, rfl, h1, h2, h3⟩ := h h0
  exact ⟨g, cur, rfl, Nat.le_trans hb h1, h2, h3⟩
theorem ints_of_own {w : World} {base n : Nat} {e : TypeId} {A : Option Addr} {c : Nat} {l : List Int} (h : w.ownsRow base e 1 (.slice A n c) n (ids l)) (hw : ∀ y ∈ l, Word y) : IntS w base e A n := fun h0 => by
  have hl : l.length = n := by have := h.1; rw [ids_len] at this; omega
  rcases h.2 with ⟨_, hn⟩ | ⟨g, cap, cur, hv, h1, h2, h3, h4, h5, h6⟩
  · omega
  · injection hv with hv
    subst hv
    refine ⟨g, cur, rfl, h1, h2, fun j hj => ?_⟩
    have e1 := List.getElem?_eq_getElem (l := l) (i := j) (by omega)
    generalize l[j]'(by omega) = x at e1
    refine ⟨x, ?_, hw x (List.mem_of_getElem? e1)⟩
    have h7 : (cur.toList.take (n * 1))[j]? = some (.int .u64 x) := by rw [h6]; unfold ids; rw [List.getElem?_map, e1]; rfl
    rw [List.getElem?_take, if_pos (by omega)] at h7
    simpa using h7
/-- a column in memory made since -/
def ColFresh (w : World) (base : Nat) (x : Col) : Prop := ColOk w w.heap.size x ∧ IntS w base 26 x.A x.n
theorem ColFresh.below {w w' : World} {base : Nat} {x : Col} (h : ColFresh w base x) (hb : Below w.heap.size w w') : ColFresh w' base x := ⟨(h.1.keep hb).more hb.size, h.2.below hb⟩
theorem colFresh_own {w : World} {base n : Nat} {A : Option Addr} {c : Nat} {l : List Int} (W R : Int) (h : w.ownsRow base 26 1 (.slice A n c) n (ids l)) (hw : ∀ y ∈ l, Word y) : ColFresh w base ⟨W, R, A, n, c, l⟩ := by
  obtain ⟨A', c', hv, h1, h2⟩ := own_cap h
  injection hv with ha hn hc
  subst ha hc
  exact ⟨⟨Reads.of_own h, h1, by unfold maxLen; exact h2, hw⟩, ints_of_own h hw⟩
theorem colFresh_nil (w : World) (base : Nat) (W R : Int) : ColFresh w base ⟨W, R, none, 0, 0, []⟩ := ⟨⟨Reads.none_, Nat.le_refl _, Nat.zero_le _, by simp⟩, fun h => absurd h (Nat.lt_irrefl 0)⟩
theorem lit_reads (w : World) (t : TypeId) (cs : Array Value) {size n : Nat} (hn : cs.size = n * size) : Reads (w.alloc (.cells cs t)) (w.alloc (.cells cs t)).heap.size size (some ⟨w.heap.size, 0, none⟩) n cs.toList := by
  refine ⟨by simpa using hn, fun _ => ⟨_, rfl, by simp, fun j u hu => ?_⟩⟩
  rw [add_none, Nat.zero_add]
  exact new_cell w t cs (by simpa using hu)
def Col.p (x : Col) : Int × Int × List Int := (x.W, x.R, x.l)
def pushE (x : Col) (v : Rw) : Int := if colB x.W x.R x.n then (if ((v.n : Int) != x.W) = true then 140 else if 1048578 < x.R + 1 then 6 else 0) else 180
def pushP (x : Col) (v : Rw) : Int × Int × List Int := if pushE x v = 0 then (x.W, x.R + 1, x.l ++ v.l) else (0, 0, [])
/-- a column, and how it went -/
def ColR (p : Int × Int × List Int) (er : Int) (w : World) (e : Ending) (w' : World) : Prop :=
  ∃ x : Col, e = .returned (.tuple #[x.V, .int .i64 er]) ∧ x.p = p ∧ ColFresh w' w.heap.size x ∧ Below w.heap.size w w'
theorem colR_err (er : Int) {w w' : World} (hb : Below w.heap.size w w') : ColR (0, 0, []) er w (.returned (.tuple #[.agg #[.int .i64 0, .int .i64 0, .slice none 0 0], .int .i64 er])) w' :=
  ⟨⟨0, 0, none, 0, 0, []⟩, rfl, rfl, colFresh_nil _ _ _ _, hb⟩
theorem below_set3 {B g : Nat} {w w' : World} {a b c : Value} (h : Below B w w') (hg : B ≤ g) : Below B w (((w'.setCell ⟨g, 0, none⟩ a).setCell ⟨g, 1, none⟩ b).setCell ⟨g, 2, none⟩ c) :=
  ((h.setCell (p := ⟨g, 0, none⟩) hg _).setCell (p := ⟨g, 1, none⟩) hg _).setCell (p := ⟨g, 2, none⟩) hg _
theorem grown_set3 (w : World) (g : Nat) (a b c : Value) : w.grownBy (((w.setCell ⟨g, 0, none⟩ a).setCell ⟨g, 1, none⟩ b).setCell ⟨g, 2, none⟩ c) (some g) := by
  refine ⟨rfl, rfl, rfl, by simp, fun k _ hk => ?_⟩
  have hne : k ≠ g := fun e => hk (by rw [e])
  rw [Below.heap_setCell _ _ _ _ (by simpa using hne), Below.heap_setCell _ _ _ _ (by simpa using hne), Below.heap_setCell _ _ _ _ (by simpa using hne)]
set_option maxRecDepth 100000 in
set_option maxHeartbeats 8000000 in
theorem cpush_any (x : Col) (v : Rw) (A : Option Addr) (c : Nat) (w : World) (hx : ColOk w w.heap.size x) (hv : RwOk w w.heap.size v) (hR : Reads w w.heap.size 1 A 1 (rws [v])) :
    Calls Try.prog 69 #[x.V, .slice A 1 c] w (ColR (pushP x v) (pushE x v) w) := by
  have hxo := hx
  obtain ⟨hRx, hc1, hc2, hw⟩ := hx
  have hl : x.l.length = x.n := by have := hRx.1; rw [ids_len] at this; omega
  obtain ⟨W, R, XA, n, cx, l⟩ := x
  simp only at hRx hc1 hc2 hw hl
  have hB := ((Below.refl w.heap.size w).alloc (Nat.le_refl _) (.cells #[.int .i64 W, .int .i64 R, .slice XA n cx] 68)).alloc (by simp) (.cells #[.int .i64 0, .int .i64 0, .slice none 0 0] 68)
  have k0 := (Blk.new w 68 #[.int .i64 W, .int .i64 R, .slice XA n cx]).alloc (.cells #[.int .i64 0, .int .i64 0, .slice none 0 0] 68)
  have k1 := Blk.new (w.alloc (.cells #[.int .i64 W, .int .i64 R, .slice XA n cx] 68)) 68 #[.int .i64 0, .int .i64 0, .slice none 0 0]
  rw [World.size_alloc] at k1
  have cc := fun (w : World) => ccheck_any W R XA n cx w (Nat.le_trans hc1 hc2)
  obtain ⟨W0, hW0⟩ : ∃ W0, W0 = (w.alloc (.cells #[.int .i64 W, .int .i64 R, .slice XA n cx] 68)).alloc (.cells #[.int .i64 0, .int .i64 0, .slice none 0 0] 68) := ⟨_, rfl⟩
  rw [← hW0] at hB k0 k1
  have c0 : W0.cell? ⟨w.heap.size, 0, none⟩ = some (.int .i64 W) := k0.cell 0
  have c1 : W0.cell? ⟨w.heap.size, 1, none⟩ = some (.int .i64 R) := k0.cell 1
  have c2 : W0.cell? ⟨w.heap.size, 2, none⟩ = some (.slice XA n cx) := k0.cell 2
  have zz := fun (w2 : World) (h : Below W0.heap.size W0 w2) => And.intro (blk_cells3 (blk_below k0 h)) (And.intro (blk_cells3 (blk_below k1 h)) (hB.trans (h.mono hB.size)))
  have cf := fun (w2 : World) (h : Below W0.heap.size W0 w2) => cf1_any A c v w.heap.size W w2 (zz w2 h).1.1.1 ((hR.below (zz w2 h).2.2).more (zz w2 h).2.2.size)
  have HZ := Lib.hid zz
  have hsz0 : W0.heap.size = w.heap.size + 2 := by rw [hW0]; simp
  have HS0 := Lib.hid hsz0
  have HW := Lib.hid hW0
  clear hW0 hsz0
  unfold colV colE at cc
  unfold Col.V colV
  simp only
  have hpE : pushE ⟨W, R, XA, n, cx, l⟩ v = if colB W R n then (if ((v.n : Int) != W) = true then 140 else if 1048578 < R + 1 then 6 else 0) else 180 := rfl
  have hpP : pushP ⟨W, R, XA, n, cx, l⟩ v = if pushE ⟨W, R, XA, n, cx, l⟩ v = 0 then (W, R + 1, l ++ v.l) else (0, 0, []) := rfl
  rw [hpP]
  cases hcb : colB W R n
  · rw [hcb] at cc hpE
    have he : pushE ⟨W, R, XA, n, cx, l⟩ v = 180 := hpE
    rw [he, if_neg (by decide)]
    clear he hpE hpP hcb hRx hR hv hxo cf hB k0 k1 zz
    go_enter Try.func69, Try.ntmps69
    go_upto_region 1 with fail
    rw [← HW.out]
    go_wp2_with (first
      | (go_at_call 88; ((with_reducible refine (cc _).mono ?_); rintro e w2 ⟨rfl, hb2⟩; obtain ⟨⟨⟨z0, z1, z2⟩, zf⟩, ⟨⟨y0, y1, y2⟩, yf⟩, zb⟩ := HZ.out _ hb2; have yf0 := yf 0; have yf1 := yf 1; have yf2 := yf 2; clear yf zf))
      | fail)
    refine bodyPost_ret (v := .tuple #[.agg #[.int .i64 0, .int .i64 0, .slice none 0 0], .int .i64 180]) (by simp [results, Try.results69, go_sem, *]) rfl (colR_err 180 (below_set3 zb (by omega)))
  · rw [hcb] at cc hpE
    simp only [if_true] at hpE
    cases hn : ((v.n : Int) != W)
    · rw [hn] at cf hpE
      simp only [Bool.false_eq_true, if_false] at hpE
      by_cases hfull : 1048578 < R + 1
      · rw [if_pos hfull] at hpE
        rw [hpE, if_neg (by decide)]
        have hcb' := hcb
        unfold colB at hcb'
        obtain ⟨hW0', hW4, hR0, hR1, hn'⟩ := of_decide_eq_true hcb'
        clear hpE hpP hcb hcb' hRx hR hv hxo hB k0 k1 zz hn'
        go_enter Try.func69, Try.ntmps69
        go_upto_region 1 with fail
        rw [← HW.out]
        go_wp2_with (first
          | (go_at_call 88; ((with_reducible refine (cc _).mono ?_); rintro e w2 ⟨rfl, hb2⟩; obtain ⟨⟨⟨z0, z1, z2⟩, zf⟩, ⟨⟨y0, y1, y2⟩, yf⟩, zb⟩ := HZ.out _ hb2; have yf0 := yf 0; have yf1 := yf 1; have yf2 := yf 2; clear yf zf))
          | (go_at_call 112; ((with_reducible refine (cf _ hb2).mono ?_); rintro e w3 ⟨rfl, rfl⟩))
          | fail)
        refine bodyPost_ret (v := .tuple #[.agg #[.int .i64 0, .int .i64 0, .slice none 0 0], .int .i64 6]) (by simp [results, Try.results69, go_sem, *]) rfl (colR_err 6 (below_set3 zb (by omega)))
      · rw [if_neg hfull] at hpE
        rw [hpE, if_pos rfl]
        have hcb' := hcb
        unfold colB at hcb'
        obtain ⟨hW0', hW4, hR0, hR1, hn'⟩ := of_decide_eq_true hcb'
        have hms := mul_small hW0' hW4 hR0 hR1
        have hnW : (v.n : Int) = W := by simpa using hn
        have hnn : n ≤ 4194312 := by omega
        have hvn : v.n ≤ 4 := by omega
        obtain ⟨hvR, hvc, hvm, hvw⟩ := hv
        have hvl : v.l.length = v.n := by have := hvR.1; rw [ids_len] at this; omega
        have cj1 := fun (w2 : World) (h : Below W0.heap.size W0 w2) => joined_any (some ⟨w2.heap.size, 0, none⟩) 1 1 [⟨XA, n, cx, l⟩] (w2.alloc (.cells #[.slice XA n cx] 43)) (lit_reads _ _ _ rfl)
          (fun y hy => by rw [List.mem_singleton] at hy; subst hy; exact ⟨((hRx.below (zz w2 h).2.2).alloc (zz w2 h).2.2.size _).more (by have := (zz w2 h).2.2.size; simp; omega), hc1, hc2, hw⟩) (by simp; omega) (by omega)
        obtain ⟨bl, offl, rfl, hbl, gl⟩ := rws_cell hR (k := 0) (x := v) rfl
        have cj2 := fun (wr : World) (Ao : Option Addr) (co : Nat) (hb : Below w.heap.size w wr) (ho : wr.ownsRow w.heap.size 26 1 (.slice Ao l.length co) l.length (ids l)) =>
          joined_any (some ⟨wr.heap.size, 0, none⟩) 2 2 [⟨Ao, l.length, co, l⟩, v] (wr.alloc (.cells #[.slice Ao l.length co, .slice v.A v.n v.c] 43)) (lit_reads _ _ _ rfl)
          (fun y hy => by
            rcases List.mem_cons.1 hy with rfl | hy
            · obtain ⟨A', c', hv', h1, h2⟩ := own_cap ho
              injection hv' with ha hn hc
              subst ha hc
              exact ⟨((Reads.of_own ho).alloc (Nat.le_refl _) _).more (by simp), h1, by unfold maxLen; exact h2, hw⟩
            · rw [List.mem_singleton] at hy; subst hy
              exact ⟨((hvR.below hb).alloc hb.size _).more (by have := hb.size; simp; omega), hvc, hvm, hvw⟩) (by simp; omega) (by omega)
        simp only [List.flatMap_cons, List.flatMap_nil, List.append_nil] at cj1 cj2
        obtain ⟨vA, vn, vc, vl⟩ := v
        simp only [Nat.add_zero] at *
        have HVL := Lib.hid hvl
        have HK1 := Lib.hid k1
        have HL := Lib.hid hl
        have HVR := Lib.hid hvR
        have HWd := Lib.hid hw
        have HVW := Lib.hid hvw
        clear hpE hpP hcb hcb' hRx hR hxo hB k0 k1 zz hn' hnW hvl hvR hn hl hw hvw
        go_enter Try.func69, Try.ntmps69
        go_upto_region 1 with fail
        rw [← HW.out]
        go_wp2_with (first
          | (go_at_call 88; ((with_reducible refine (cc _).mono ?_); rintro e w2 ⟨rfl, hb2⟩; obtain ⟨⟨⟨z0, z1, z2⟩, zf⟩, ⟨⟨y0, y1, y2⟩, yf⟩, zb⟩ := HZ.out _ hb2; clear yf zf))
          | (go_at_call 112; ((with_reducible refine (cf _ hb2).mono ?_); rintro e w3 ⟨rfl, rfl⟩))
          | (go_at_call 114; ((with_reducible refine (cj1 _ hb2).mono ?_); rintro e w4 ⟨v1, rfl, ho1, hb4⟩))
          | fail)
        have hb5 : Below W0.heap.size W0 w4 := (hb2.alloc hb2.size _).trans (hb4.mono (by have := hb2.size; simp; omega))
        have hzb4 := (HZ.out _ hb5).2.2
        have ho5 : w4.ownsRow w.heap.size 26 1 v1 l.length (ids l) := base_le ho1 (by have := zb.size; simp; omega)
        clear cj1 cc cf ho1 hb4 hb2 z0 z1 z2 y0 y1 y2 zb
        obtain ⟨A1, c1', rfl⟩ := own_slice ho5
        go_loopw [7, 33] (fun o i wr => ((i = .int .i64 0 ∧ wr.ownsRow w.heap.size 26 1 o l.length (ids l)) ∨ (i = .int .i64 1 ∧ wr.ownsRow w.heap.size 26 1 o (l ++ vl).length (ids (l ++ vl)))) ∧ Below W0.heap.size W0 wr)
          (fun _ i _ => 1 - (intOf i).toNat)
        case atStart => exact ⟨.inl ⟨rfl, ho5⟩, hb5⟩
        case round =>
          obtain ⟨hor, hb⟩ := hrel
          clear ho5 hb5 hzb4
          obtain ⟨⟨⟨z0, z1, z2⟩, zf⟩, ⟨⟨y0, y1, y2⟩, yf⟩, zb⟩ := HZ.out _ hb
          rcases hor with ⟨rfl, ho⟩ | ⟨rfl, ho⟩
          · have gl2 := cell_below' zb gl hbl
            obtain ⟨Ao, co, rfl⟩ := own_slice ho
            have cj3 := cj2 wr Ao co zb ho
            clear cj2 gl yf zf ho
            go_wp2_with (first
              | (go_at_call 114; ((with_reducible refine cj3.mono ?_); rintro e w5 ⟨v2, rfl, ho2, hb6⟩))
              | fail)
            go_roundw
            case rel => exact ⟨.inr ⟨rfl, base_le ho2 (by have := zb.size; simp; omega)⟩, (hb.alloc hb.size _).trans (hb6.mono (by have := hb.size; simp; omega))⟩
            case measure => simp [intOf]
          · have yf0 := yf 0
            have yf1 := yf 1
            have yf2 := yf 2
            have hk1 := blk_below HK1.out hb
            have HO := Lib.hid ho
            obtain ⟨Ao, co, rfl⟩ := own_slice ho
            clear cj2 gl yf zf ho
            go_wp2_with fail
            have hko := HO.out.kept (grown_set3 wr (w.heap.size + 1) (.int .i64 W) (.int .i64 (R + 1)) (.slice Ao (l.length + vl.length) co)) (.inr (own_blk_ne HO.out hk1 (by decide)))
            refine bodyPost_ret (v := .tuple #[.agg #[.int .i64 W, .int .i64 (R + 1), .slice Ao (l.length + vl.length) co], .int .i64 0]) (by simp [results, Try.results69, go_sem, *]) rfl ⟨⟨W, R + 1, Ao, (l ++ vl).length, co, l ++ vl⟩, by rw [← List.length_append]; rfl, rfl, colFresh_own _ _ hko ?_, below_set3 zb (by omega)⟩
            intro y hy
            rcases List.mem_append.1 hy with hy | hy
            · exact HWd.out y hy
            · exact HVW.out y hy
    · rw [hn] at cf hpE
      simp only [if_true] at hpE
      rw [hpE, if_neg (by decide)]
      clear hpE hpP hcb hRx hR hv hxo hB k0 k1 zz
      go_enter Try.func69, Try.ntmps69
      go_upto_region 1 with fail
      rw [← HW.out]
      go_wp2_with (first
        | (go_at_call 88; ((with_reducible refine (cc _).mono ?_); rintro e w2 ⟨rfl, hb2⟩; obtain ⟨⟨⟨z0, z1, z2⟩, zf⟩, ⟨⟨y0, y1, y2⟩, yf⟩, zb⟩ := HZ.out _ hb2; have yf0 := yf 0; have yf1 := yf 1; have yf2 := yf 2; clear yf zf))
        | (go_at_call 112; ((with_reducible refine (cf _ hb2).mono ?_); rintro e w3 ⟨rfl, rfl⟩))
        | fail)
      refine bodyPost_ret (v := .tuple #[.agg #[.int .i64 0, .int .i64 0, .slice none 0 0], .int .i64 140]) (by simp [results, Try.results69, go_sem, *]) rfl (colR_err 140 (below_set3 zb (by omega)))
end Go.Proofs.Ytbcbknajhdaneaa
