/- What is proved: table.Check: 190 unless the table may be. -/
import Derived.Test.YtbcbknajhdaneaaTaR
import Derived.Deep.Cut
import Derived.WalkMore
import Derived.WalkKit
namespace Go.Proofs.Ytbcbknajhdaneaa
open Go.RowKit
set_option linter.unusedVariables false
set_option linter.unusedSimpArgs false
attribute [local go_sem] Oper.semAt_some
def freshL : List Int → List Int → Bool
  | _, [] => true
  | met, x :: l => !met.contains x && freshL (x :: met) l
theorem fresh_snoc : ∀ (l met : List Int) (x : Int), freshL met (l ++ [x]) = (freshL met l && !(l.reverse ++ met).contains x)
  | [], met, x => by show (!met.contains x && true) = (true && !met.contains x); simp
  | y :: l, met, x => by
    show (!met.contains y && freshL (y :: met) (l ++ [x])) = (!met.contains y && freshL (y :: met) l && !((y :: l).reverse ++ met).contains x)
    rw [fresh_snoc l (y :: met) x, List.reverse_cons, List.append_assoc, Bool.and_assoc]
    rfl
theorem fresh_pre : ∀ (l m met : List Int), freshL met l = false → freshL met (l ++ m) = false
  | [], m, met, h => by cases h
  | x :: l, m, met, h => by
    show (!met.contains x && freshL (x :: met) (l ++ m)) = false
    have h : (!met.contains x && freshL (x :: met) l) = false := h
    cases h2 : (!met.contains x)
    · rfl
    · rw [h2, Bool.true_and] at h
      rw [fresh_pre l m _ h]; rfl
theorem has_map (l : List Int) (x : Int) : (l.map idx).contains x = hasI l x := by
  unfold hasI
  induction l with
  | nil => rfl
  | cons a l ih =>
    rw [List.map_cons, List.contains_cons, ih, List.any_cons]
    congr 1
    rw [Bool.eq_iff_iff, beq_iff_eq, beq_iff_eq]
    exact eq_comm
theorem contains_app (a b : List Int) (x : Int) : (a ++ b).contains x = (a.contains x || b.contains x) := by
  rw [Bool.eq_iff_iff, Bool.or_eq_true, List.contains_iff_mem, List.contains_iff_mem, List.contains_iff_mem, List.mem_append]
theorem fresh_ent (l : List Int) : ∀ k, k ≤ l.length → freshL [0] ((l.take k).map idx) = entOk l k
  | 0, _ => rfl
  | k + 1, h => by
    have e := List.getElem?_eq_getElem (l := l) (i := k) (by omega)
    generalize l[k]'(by omega) = x at e
    rw [take_snoc e, List.map_append, List.map_cons, List.map_nil, fresh_snoc, fresh_ent l k (by omega), entOk_step e]
    congr 1
    rw [← List.map_reverse, contains_app, has_map]
    have e1 : hasI (l.take k).reverse (idx x) = hasI (l.take k) (idx x) := by unfold hasI; rw [List.any_reverse]
    rw [e1]
    have e2 : [(0 : Int)].contains (idx x) = (idx x == 0) := by rw [List.contains_cons]; simp
    rw [e2]
    cases hasI (l.take k) (idx x) <;> cases (idx x == 0) <;> rfl
theorem rowsFrom_snd : ∀ (l : List Int) (k : Nat), (∀ x ∈ l, Word x) → k + l.length ≤ 281474976710656 → (rowsFrom k l).map (fun x => x.1.2) = l.map idx
  | [], _, _, _ => rfl
  | a :: l, k, hw, hk => by
    show (rowAt k a).1.2 :: (rowsFrom (k + 1) l).map _ = idx a :: l.map idx
    simp only [List.length_cons] at hk
    rw [rowAt_val (by omega) (hw a List.mem_cons_self), rowsFrom_snd l (k + 1) (fun x hx => hw x (List.mem_cons_of_mem _ hx)) (by omega)]
def metOf (pre : List RInt) : List Int := (pre.map (fun x : RInt => x.1.2)).reverse ++ [0]
def freshP (pre : List RInt) : Bool := freshL [0] (pre.map (fun x : RInt => x.1.2))
theorem metOf_snoc (pre : List RInt) (x : RInt) : metOf (pre ++ [x]) = x.1.2 :: metOf pre := by unfold metOf; simp
theorem freshP_snoc (pre : List RInt) (x : RInt) : freshP (pre ++ [x]) = (freshP pre && !(metOf pre).contains x.1.2) := by
  unfold freshP metOf
  rw [List.map_append, List.map_cons, List.map_nil, fresh_snoc]
theorem metOf_len (pre : List RInt) : (metOf pre).length = pre.length + 1 := by unfold metOf; simp
theorem freshP_rows {l : List Int} (hw : ∀ x ∈ l, Word x) (hl : l.length ≤ 281474976710656) : freshP (rowsL l) = entOk l l.length := by
  unfold freshP rowsL
  rw [rowsFrom_snd l 0 hw (by omega), ← fresh_ent l l.length (Nat.le_refl _), List.take_length]
theorem freshP_pre {pre ys : List RInt} (h : pre <+: ys) (hf : freshP pre = false) : freshP ys = false := by
  obtain ⟨m, rfl⟩ := h
  unfold freshP at hf ⊢
  rw [List.map_append]
  exact fresh_pre _ _ _ hf
def tabE (t : Tab) : Int := if tabB t then 0 else 190
theorem all_step {F : List Col} {m k : Nat} {x : Col} (h : F[k]? = some x) (b : Bool) : (b && (F.take (k + 1)).all (fun c => colT c m)) = ((b && (F.take k).all (fun c => colT c m)) && colT x m) := by
  rw [take_snoc h, List.all_append, Bool.and_assoc]; simp
theorem blk_below {w w' : World} {g : Nat} {t : TypeId} {cs : Array Value} (h : Blk w g t cs) (hb : Below w.heap.size w w') : Blk w' g t cs := h.below hb h.lt
theorem boxed_below {W W' : World} {B : Nat} {t : TypeId} {v : Value} (h : Boxed W B t v) (hb : Below W.heap.size W W') : Boxed W' B t v := (hb.block B h.lt).trans h
theorem ownFrom_setm {β : Type} {B bm : Nat} (hbm : bm < B) (f : β → List Int) : OwnFrom B (fun s W => SetM W bm (f s)) := fun s W W' row hs hg hr =>
  hs.kept hg (fun e => by have := (hr bm e.symm).1; omega)
def ChkR (w : World) (cs : Array Value) (b : Bool) (s3 : Value) (wx : World) : Prop :=
  ∃ bo, s3 = .pointer (some ⟨bo, 0, none⟩) ∧ w.heap.size < bo ∧ Boxed wx bo 4 (.bool b) ∧ Blk wx w.heap.size 25 cs ∧ Below w.heap.size w wx
theorem chkR_mk {w w2 : World} {cs : Array Value} {b : Bool} (hb : Below (w.alloc (.cells cs 25)).heap.size (w.alloc (.cells cs 25)) w2) :
    ChkR w cs b (.pointer (some ⟨w2.heap.size, 0, none⟩)) (w2.alloc (.cells #[.bool b] 4)) := by
  have hz := hb.size
  rw [World.size_alloc] at hz
  refine ⟨w2.heap.size, rfl, by omega, Boxed.new _ _ _, (blk_below (Blk.new w _ _) hb).alloc _, ?_⟩
  exact (((Below.refl w.heap.size w).alloc (Nat.le_refl _) _).trans (hb.mono (by simp))).alloc (by omega) _
set_option maxRecDepth 100000 in
set_option maxHeartbeats 8000000 in
theorem tabchk_any (t : Tab) (w : World) (h : TabOk w w.heap.size t) (hs : TabSm t) :
    Calls Try.prog 34 #[t.V] w fun e w' => e = .returned (.int .i64 (tabE t)) ∧ Below w.heap.size w w' := by
  obtain ⟨l1, l2, l3⟩ := h.len
  obtain ⟨s1, s2, s3, s4⟩ := hs
  obtain ⟨b0, hb0⟩ : ∃ b, b = (tyR t.ty && (decide (t.Cn = t.Tn) && decide (t.En ≤ 1048578))) := ⟨_, rfl⟩
  have hte : tabE t = if ((b0 && t.F.all (fun c => colT c t.En)) && entOk t.es t.En) then 0 else 190 := by
    unfold tabE
    rw [tabB_eq, hb0, l1, l2, l3]
    congr 1
    cases tyR t.ty <;> cases decide (t.Cn = t.Tn) <;> cases decide (t.En ≤ 1048578) <;> simp
  rw [hte]
  have HB0 := Lib.hid hb0
  have HO := Lib.hid h
  have L1 := Lib.hid l1
  have L2 := Lib.hid l2
  have L3 := Lib.hid l3
  have S4 := Lib.hid s4
  clear hte hb0 l1 l2 l3 s4
  have hB := (Below.refl w.heap.size w).alloc (Nat.le_refl _) (.cells #[.slice t.TA t.Tn t.Tc, .slice t.CA t.Cn t.Cc, .slice t.EA t.En t.Ec] 25)
  have y0 := new_cell w 25 #[.slice t.TA t.Tn t.Tc, .slice t.CA t.Cn t.Cc, .slice t.EA t.En t.Ec] (k := 0) (v := .slice t.TA t.Tn t.Tc) rfl
  have y1 := new_cell w 25 #[.slice t.TA t.Tn t.Tc, .slice t.CA t.Cn t.Cc, .slice t.EA t.En t.Ec] (k := 1) (v := .slice t.CA t.Cn t.Cc) rfl
  have y2 := new_cell w 25 #[.slice t.TA t.Tn t.Tc, .slice t.CA t.Cn t.Cc, .slice t.EA t.En t.Ec] (k := 2) (v := .slice t.EA t.En t.Ec) rfl
  have ct := tcheck_any t.TA t.Tn t.Tc t.ty _ ((h.ty.below hB).more hB.size) h.tyw s1
  have zz := fun (W : World) (hb : Below (w.alloc (.cells #[.slice t.TA t.Tn t.Tc, .slice t.CA t.Cn t.Cc, .slice t.EA t.En t.Ec] 25)).heap.size (w.alloc (.cells #[.slice t.TA t.Tn t.Tc, .slice t.CA t.Cn t.Cc, .slice t.EA t.En t.Ec] 25)) W) =>
    And.intro (cell_below' hb y0 (by simp)) (And.intro (cell_below' hb y1 (by simp)) (cell_below' hb y2 (by simp)))
  clear h
  obtain ⟨TA, Tn, Tc, ty, CA, Cn, Cc, F, EA, En, Ec, es⟩ := t
  unfold Tab.V
  simp only at *
  refine (callsIn_wide (n := 6)).1 ?_
  refine callsIn_of_wp_marks Try.func34 rfl trivial ?_ rfl
  simp only [Try.ntmps34, List.size_toArray, List.length_cons, List.length_nil, Nat.reduceAdd, Nat.reduceSub, Array.replicate_succ, Array.replicate_zero, List.push_toArray, List.append_toArray, List.nil_append, List.cons_append]
  refine wpIn_wide.2 ?_
  go_wp2
  go_step3
  go_upto_region 1 with fail
  go_cut [3] from 9 (fun s3 wx => ChkR w #[.slice TA Tn Tc, .slice CA Cn Cc, .slice EA En Ec] b0 s3 wx)
  case first =>
    unfold tyE at ct
    cases k1 : tyR ty
    · rw [k1] at ct
      have hb : b0 = false := by rw [HB0.out, k1]; rfl
      have HB := Lib.hid hb
      clear k1 hb
      go_wp2_with (first
        | (go_at_call 87; (with_reducible refine ct.mono ?_); rintro e w2 ⟨rfl, hb2⟩)
        | fail)
      go_meet
      case rel => rw [HB.out]; exact chkR_mk hb2
    · rw [k1] at ct
      cases k2 : decide (Cn = Tn)
      · have d2 : ((Cn : Int) == (Tn : Int)) = false := by
          have := of_decide_eq_false k2
          rw [beq_eq_false_iff_ne]; omega
        have hb : b0 = false := by rw [HB0.out, k1, k2]; rfl
        have HB := Lib.hid hb
        clear k1 k2 hb
        go_wp2_with (first
          | (go_at_call 87; (with_reducible refine ct.mono ?_); rintro e w2 ⟨rfl, hb2⟩; obtain ⟨z0, z1, z2⟩ := zz _ hb2)
          | fail)
        go_meet
        case rel => rw [HB.out]; exact chkR_mk hb2
      · have d2 : ((Cn : Int) == (Tn : Int)) = true := by
          have := of_decide_eq_true k2
          rw [beq_iff_eq]; omega
        cases k3 : decide (En ≤ 1048578)
        all_goals
          have d3 : decide ((En : Int) ≤ 1048578) = decide (En ≤ 1048578) := by
            apply decide_eq_decide.2; omega
          rw [k3] at d3
          have hb : b0 = decide (En ≤ 1048578) := by rw [HB0.out, k1, k2]; simp
          rw [k3] at hb
          have HB := Lib.hid hb
          clear k1 k2 k3 hb
          go_wp2_with (first
            | (go_at_call 87; (with_reducible refine ct.mono ?_); rintro e w2 ⟨rfl, hb2⟩; obtain ⟨z0, z1, z2⟩ := zz _ hb2)
            | fail)
          go_meet
          case rel => rw [HB.out]; exact chkR_mk hb2
  case rest =>
    obtain ⟨bo, rfl, hbo, hbx, hblk, hbw⟩ := hcut
    have y1 : wc.cell? ⟨w.heap.size, 1, none⟩ = some (.slice CA Cn Cc) := hblk.cell 1
    go_wp2_with fail
    clear y0 y1 y2 zz ct hB
    go_loopw [31] (fun i wr => ∃ k : Nat, k ≤ Cn ∧ i = .int .i64 k ∧ Boxed wr bo 4 (.bool (b0 && (F.take k).all (fun c => colT c En))) ∧ Blk wr w.heap.size 25 #[.slice TA Tn Tc, .slice CA Cn Cc, .slice EA En Ec] ∧ Below w.heap.size w wr)
      (fun i _ => Cn - (intOf i).toNat)
    case atStart => exact ⟨0, Nat.zero_le _, rfl, by simpa using hbx, hblk, hbw⟩
    case round =>
      obtain ⟨k, hk, rfl, hbx2, hblk2, hbw2⟩ := hrel
      clear hbx hblk hbw
      by_cases hlt : k < Cn
      · have e1 := List.getElem?_eq_getElem (l := F) (i := k) (by have := L2.out; omega)
        generalize F[k]'(by have := L2.out; omega) = x at e1
        obtain ⟨b, off, rfl, hbl, g⟩ := cols_cells HO.out.cs e1
        obtain ⟨g0, g1, g2⟩ := (g.below hbw2 hbl)
        have hxo := HO.out.csok x (List.mem_of_getElem? e1)
        have HS := Lib.hid (all_step (m := En) e1 b0)
        have cc := fun (W : World) => ccheck_any x.W x.R x.A x.n x.c W (Nat.le_trans hxo.2.1 hxo.2.2.1)
        have f0 := hbx2.cell
        have f1 := hbx2.frozen
        have HX := Lib.hid hbx2
        have HB := Lib.hid hblk2
        have hsz : bo < wr.heap.size := hbx2.lt
        clear e1 g hxo hbx2 hblk2
        generalize (b0 && (F.take k).all (fun c => colT c En)) = v at *
        obtain ⟨xW, xR, xA, xn, xc, xl⟩ := x
        unfold colV at cc
        simp only at g0 g1 g2 cc
        cases v
        · have HT := Lib.hid (show (b0 && (F.take (k + 1)).all (fun c => colT c En)) = false from HS.out)
          clear HS cc
          go_wp2_with fail
          go_roundw
          case rel => exact ⟨k + 1, by omega, by go_num, by rw [HT.out]; exact (HX.out.set _).alloc _, (HB.out.far (by simp; omega) _).alloc _, (hbw2.setCell (by simp; omega) _).alloc (by rw [World.size_setCell]; exact hbw2.size) _⟩
          case measure => simp [intOf]; omega
        · rw [Bool.true_and] at HS
          have z5 := fun (w2 : World) (h : Below (wr.alloc (.cells #[.int .i64 xW, .int .i64 xR, .slice xA xn xc] 68)).heap.size (wr.alloc (.cells #[.int .i64 xW, .int .i64 xR, .slice xA xn xc] 68)) w2) =>
            And.intro (cell_below' h (new_cell wr 68 #[.int .i64 xW, .int .i64 xR, .slice xA xn xc] (k := 1) (v := .int .i64 xR) rfl) (by simp))
              (And.intro (boxed_below (HX.out.alloc _) h) (blk_below (HB.out.alloc _) h))
          have z6 := fun (w2 : World) (h : Below (wr.alloc (.cells #[.int .i64 xW, .int .i64 xR, .slice xA xn xc] 68)).heap.size (wr.alloc (.cells #[.int .i64 xW, .int .i64 xR, .slice xA xn xc] 68)) w2) =>
            (hbw2.alloc hbw2.size (.cells #[.int .i64 xW, .int .i64 xR, .slice xA xn xc] 68)).trans (h.mono (Nat.le_trans hbw2.size (by simp)))
          unfold colE at cc
          cases hcb : colB xW xR xn
          · have HT := Lib.hid (show (b0 && (F.take (k + 1)).all (fun c => colT c En)) = false from HS.out.trans (by unfold colT; simp only; rw [hcb]; rfl))
            rw [hcb] at cc
            clear HS hcb
            go_wp2_with (first
              | (go_at_call 88; ((with_reducible refine (cc _).mono ?_); rintro e w2 ⟨rfl, hb2⟩; obtain ⟨q1, q2, q3⟩ := z5 _ hb2; have q5 := q2.cell; have q6 := q2.frozen; have Q2 := Lib.hid q2; have Q3 := Lib.hid q3; have q7 := z6 _ hb2; clear q2 q3))
              | fail)
            go_roundw
            case rel => exact ⟨k + 1, by omega, by go_num, by rw [HT.out]; exact Q2.out.set _, Q3.out.far (by simp; omega) _, q7.setCell (by simp; omega) _⟩
            case measure => simp [intOf]; omega
          · rw [hcb] at cc
            have HT := Lib.hid (show (b0 && (F.take (k + 1)).all (fun c => colT c En)) = (xR == (En : Int)) from HS.out.trans (by unfold colT; simp only; rw [hcb]; rfl))
            clear HS hcb
            go_wp2_with (first
              | (go_at_call 88; ((with_reducible refine (cc _).mono ?_); rintro e w2 ⟨rfl, hb2⟩; obtain ⟨q1, q2, q3⟩ := z5 _ hb2; have q5 := q2.cell; have q6 := q2.frozen; have q8 : w2.cell? ⟨w.heap.size, 2, none⟩ = some (.slice EA En Ec) := q3.cell 2; have Q2 := Lib.hid q2; have Q3 := Lib.hid q3; have q7 := z6 _ hb2; clear q2 q3))
              | fail)
            go_roundw
            case rel => exact ⟨k + 1, by omega, by go_num, by rw [HT.out]; exact Q2.out.set _, Q3.out.far (by simp; omega) _, q7.setCell (by simp; omega) _⟩
            case measure => simp [intOf]; omega
      · have : k = Cn := by omega
        subst this
        rw [List.take_of_length_le (by have := L2.out; omega)] at hbx2
        have hmm := @run_makeMap Try.prog
        have hmd := run_made wr
        obtain ⟨w3, hw3⟩ : ∃ w3, w3 = (wr.alloc (.map #[⟨.int .i64 0, .bool true, 0⟩] 1)).alloc (.cells #[.map (some wr.heap.size)] 126) := ⟨_, rfl⟩
        have hm3 : SetM w3 wr.heap.size (metOf []) := by rw [hw3]; exact (setm_new wr).kept (World.grownBy_alloc _ _ none) (by simp)
        have hx3 : Boxed w3 bo 4 (.bool (b0 && F.all (fun c => colT c En))) := by rw [hw3]; exact (hbx2.alloc _).alloc _
        have hv3 : Boxed w3 (wr.heap.size + 1) 126 (.map (some wr.heap.size)) := by rw [hw3]; have := Boxed.new (wr.alloc (.map #[⟨.int .i64 0, .bool true, 0⟩] 1)) 126 (.map (some wr.heap.size)); rwa [World.size_alloc] at this
        have hk3 : Blk w3 w.heap.size 25 #[.slice TA Tn Tc, .slice CA k Cc, .slice EA En Ec] := by rw [hw3]; exact (hblk2.alloc _).alloc _
        have hb3 : Below w.heap.size w w3 := by rw [hw3]; exact (hbw2.alloc hbw2.size _).alloc (by simp; have := hbw2.size; omega) _
        have hlt2 : bo < wr.heap.size := hbx2.lt
        have c0 : w3.cell? ⟨w.heap.size, 0, none⟩ = some (.slice TA Tn Tc) := hk3.cell 0
        have c1 : w3.cell? ⟨w.heap.size, 1, none⟩ = some (.slice CA k Cc) := hk3.cell 1
        have c2 : w3.cell? ⟨w.heap.size, 2, none⟩ = some (.slice EA En Ec) := hk3.cell 2
        have cr := rows_any w.heap.size ⟨TA, Tn, Tc, ty, CA, k, Cc, F, EA, En, Ec, es⟩ w3 hb3.size (HO.out.keep hb3).es HO.out.esw s3
        unfold Tab.V at cr
        simp only at cr
        have HM := Lib.hid hm3
        have HX := Lib.hid hx3
        have HV := Lib.hid hv3
        clear hm3 hx3 hv3 hk3 hbx2 hblk2 hbw2
        subst hw3
        go_wp2_with fail
        go_step3
        go_wp2_with fail
        refine cr.mono ?_
        rintro e w4 ⟨bt, rfl, hst, hb4⟩
        clear cr c0 c1 c2 hmm hmd
        have hx4 := boxed_below HX.out hb4
        have hv4 := boxed_below HV.out hb4
        have hm4 := HM.out.kept (below_none hb4) (by simp)
        have hb5 := hb3.trans (hb4.mono hb3.size)
        have hz4 : wr.heap.size + 1 < w4.heap.size := hv4.lt
        clear HX HV HM hb3 hb4
        go_wp2_with fail
        cases hb1 : (b0 && F.all (fun c => colT c En))
        · rw [hb1] at hx4
          have HB1 := Lib.hid hb1
          clear hb1
          refine wpIn_wide (n := 6) |>.1 ?_
          refine wpIn_rangeFunc_ownG (w0 := w4) rfl (by omega) (gf := 111) (lb := #[.pointer (some ⟨bt, 0, none⟩)]) rfl trivial (enters_of Try.func111 (by kernel_rfl) rfl)
            (hst (6 - 1) (by omega)) belowK_t (belowK_b (by have := hb5.size; omega)) (Below.refl _ _) (fun _ => rfl)
            (fun pre W => pre = [] ∧ Boxed W bo 4 (.bool false) ∧ Below w.heap.size w W)
            (fun c pre W => c = .exit 2 ∧ True ∧ Boxed W bo 4 (.bool false) ∧ Below w.heap.size w W)
            (OwnFrom.and (ownFrom_pure _ _) (OwnFrom.and (Own.from (boxed_own _ _ _) _) (ownFrom_below (Nat.le_refl _) (by have := hb5.size; omega))))
            (fun c => OwnFrom.and (ownFrom_pure _ _) (OwnFrom.and (ownFrom_pure _ _) (OwnFrom.and (Own.from (boxed_own _ _ _) _) (ownFrom_below (Nat.le_refl _) (by have := hb5.size; omega)))))
            ⟨rfl, hx4, hb5⟩ ?a1 ?assign ?body ?done ?stop
          case assign =>
            intro l x W K hK
            unfold encR
            gi_wp2
            exact hK
          case body =>
            rintro l pre x W ⟨rfl, hv, hB⟩ hlt3
            have hc := hv.cell
            have hf := hv.frozen
            have HV := Lib.hid hv
            clear hv
            gi_wp2
            exact ⟨(KeepsOthers.setCell _ _ _).from _, rfl, trivial, HV.out.set _, hB.setCell (p := ⟨bo, 0, none⟩) (by simp; omega) _⟩
          case done =>
            rintro D ys' W hD rfl ⟨hnil, hv, hB⟩ hK
            have hc := hv.cell
            clear hv hnil
            go_wp2
            refine ⟨by simp, .inl ⟨_, _, rfl, run_takeDeferred hK, ?_⟩⟩
            exact ⟨_, results_tmp rfl _ _ _, by rw [HB1.out]; rfl, hB.trans (belowK_b (w := w) (Nat.le_refl _) W D _ _ (by have := hb5.size; omega) hK rfl rfl)⟩
          case stop =>
            rintro D c pre W hD hpre ⟨rfl, _, hv, hB⟩ hK
            have hc := hv.cell
            clear hv
            refine wpIn_wide.2 ?_
            go_wp2
            refine ⟨by simp, .inl ⟨_, _, rfl, run_takeDeferred hK, ?_⟩⟩
            exact ⟨_, results_tmp rfl _ _ _, by rw [HB1.out]; rfl, hB.trans (belowK_b (w := w) (Nat.le_refl _) W D _ _ (by have := hb5.size; omega) hK rfl rfl)⟩
        · rw [hb1] at hx4
          have HB1 := Lib.hid hb1
          clear hb1
          refine wpIn_wide (n := 6) |>.1 ?_
          refine wpIn_rangeFunc_ownG (w0 := w4) rfl (by omega) (gf := 111) (lb := #[.pointer (some ⟨bt, 0, none⟩)]) rfl trivial (enters_of Try.func111 (by kernel_rfl) rfl)
            (hst (6 - 1) (by omega)) belowK_t (belowK_b (by have := hb5.size; omega)) (Below.refl _ _) (fun _ => rfl)
            (fun pre W => freshP pre = true ∧ Boxed W bo 4 (.bool true) ∧ Boxed W (wr.heap.size + 1) 126 (.map (some wr.heap.size)) ∧ SetM W wr.heap.size (metOf pre) ∧ Below w.heap.size w W)
            (fun c pre W => c = .exit 2 ∧ freshP pre = false ∧ Boxed W bo 4 (.bool false) ∧ Below w.heap.size w W)
            (OwnFrom.and (ownFrom_pure _ _) (OwnFrom.and (Own.from (boxed_own _ _ _) _) (OwnFrom.and (Own.from (boxed_own _ _ _) _) (OwnFrom.and (ownFrom_setm (by omega) _) (ownFrom_below (Nat.le_refl _) (by have := hb5.size; omega))))))
            (fun c => OwnFrom.and (ownFrom_pure _ _) (OwnFrom.and (ownFrom_pure _ _) (OwnFrom.and (Own.from (boxed_own _ _ _) _) (ownFrom_below (Nat.le_refl _) (by have := hb5.size; omega)))))
            ⟨rfl, hx4, hv4, hm4, hb5⟩ ?a1 ?assign ?body ?done ?stop
          case assign =>
            intro l x W K hK
            unfold encR
            gi_wp2
            exact hK
          case body =>
            rintro l pre x W ⟨hfr, hv, hmb, hm, hB⟩ hlt3
            have hc := hv.cell
            have hf := hv.frozen
            have hc2 := hmb.cell
            have hf2 := hmb.frozen
            have hne : wr.heap.size + 1 ≠ bo := by omega
            have hlook := hm.look (x := x.1.2) (by have := x.2.2; omega)
            have hlm := metOf_len pre
            have hfs := Lib.hid (freshP_snoc pre x)
            have hms := Lib.hid (metOf_snoc pre x)
            obtain ⟨wm, hrun, hm2, hg2⟩ := (hm.kept (grownBy_setCell' W bo (.bool true)) (by simp; omega)).put (x := x.1.2) (by have := x.2.2; omega) (by rw [hlm]; unfold maxLen; omega)
            have HV := Lib.hid hv
            have HMB := Lib.hid hmb
            have HM2 := Lib.hid hm2
            have HFR := Lib.hid hfr
            clear hv hmb hm hm2 hlm hfr
            cases hct : (metOf pre).contains x.1.2
            · rw [hct] at hlook
              have HC := Lib.hid hct
              clear hct
              gi_wp2
              have hWb : Below w.heap.size w wm := (hB.setCell (p := ⟨bo, 0, none⟩) (by simp; omega) (.bool true)).grown hg2 (by simp; exact hB.size) (fun k e => by cases e; have := hb5.size; omega)
              refine ⟨(KeepsOthers.setCell _ _ _).from _ |>.trans (KeepsFrom.of_grownBy hg2 (fun j e => by cases e; omega)), ?_, ?_, (HV.out.set _).kept hg2 (by simp; omega), (HMB.out.other hne _).kept hg2 (by simp), ?_, hWb⟩
              · exact ((Below.refl _ W).setCell (p := ⟨bo, 0, none⟩) (by simp; omega) _).grown hg2 (by simp; exact hB.size) (fun k e => by cases e; have := hb5.size; omega)
              · rw [hfs.out, HFR.out, HC.out]; rfl
              · rw [hms.out]; exact HM2.out
            · rw [hct] at hlook
              have HC := Lib.hid hct
              clear hct
              gi_wp2
              exact ⟨(KeepsOthers.setCell _ _ _).from _, rfl, by rw [hfs.out, HC.out, Bool.not_true, Bool.and_false], HV.out.set _, hB.setCell (p := ⟨bo, 0, none⟩) (by simp; omega) _⟩
          case done =>
            rintro D ys' W hD rfl ⟨hfr, hv, hmb, hm, hB⟩ hK
            have hc := hv.cell
            have HR := Lib.hid (show (if (true && entOk es En) = true then (0 : Int) else 190) = 0 from by rw [← L3.out, ← freshP_rows HO.out.esw (by rw [L3.out]; exact s3), hfr]; rfl)
            clear hv hmb hm hfr
            go_wp2
            refine ⟨by simp, .inl ⟨_, _, rfl, run_takeDeferred hK, ?_⟩⟩
            exact ⟨_, results_tmp rfl _ _ _, by rw [HB1.out, HR.out]; rfl, hB.trans (belowK_b (w := w) (Nat.le_refl _) W D _ _ (by have := hb5.size; omega) hK rfl rfl)⟩
          case stop =>
            rintro D c pre W hD hpre ⟨rfl, hfr, hv, hB⟩ hK
            have hc := hv.cell
            have HR := Lib.hid (show (if (true && entOk es En) = true then (0 : Int) else 190) = 190 from by rw [← L3.out, ← freshP_rows HO.out.esw (by rw [L3.out]; exact s3), freshP_pre hpre hfr]; rfl)
            clear hv hfr
            refine wpIn_wide.2 ?_
            go_wp2
            refine ⟨by simp, .inl ⟨_, _, rfl, run_takeDeferred hK, ?_⟩⟩
            exact ⟨_, results_tmp rfl _ _ _, by rw [HB1.out, HR.out]; rfl, hB.trans (belowK_b (w := w) (Nat.le_refl _) W D _ _ (by have := hb5.size; omega) hK rfl rfl)⟩
end Go.Proofs.Ytbcbknajhdaneaa
