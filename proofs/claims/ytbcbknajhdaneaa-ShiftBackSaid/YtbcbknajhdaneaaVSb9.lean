/- What is proved: slices.Contains, IndexFunc and DeleteFunc at ids with shift's closure; without, Lost. -/
import Derived.Test.YtbcbknajhdaneaaVSb8
import Derived.Lib.SliceRun
import Derived.Lib.SlBuf
namespace Go.Proofs.Ytbcbknajhdaneaa
open Go.RowKit Go.Maps
set_option linter.unusedVariables false
set_option linter.unusedSimpArgs false
theorem ixGo_ge (v : Int) : ∀ (l : List Int) (k : Nat), v ∈ l → (k : Int) ≤ ixGo v l k
  | [], _, h => by cases h
  | x :: l, k, h => by
    rw [ixGo_eq]
    split
    · omega
    · rename_i hx
      rcases List.mem_cons.1 h with rfl | h
      · simp at hx
      · have := ixGo_ge v l (k + 1) h
        omega
theorem ixD_in (l : List Int) (v : Int) : decide (0 ≤ ixD l v) = l.contains v := by
  by_cases h : v ∈ l
  · have h1 := ixGo_ge v l 0 h
    have h2 : l.contains v = true := by simpa using h
    rw [h2]
    exact decide_eq_true (by unfold ixD; omega)
  · have h1 := ixGo_no v l 0 (fun x hx e => h (e ▸ hx))
    have h2 : l.contains v = false := by simpa using h
    rw [h2]
    exact decide_eq_false (by unfold ixD; omega)
set_option maxRecDepth 100000 in
theorem contains_d (A : Option Addr) (n c : Nat) (l : List Int) (v : Int) (w : World) (hR : Reads w w.heap.size 1 A n (ids l)) (hn : n ≤ 281474976710656) :
    Calls Try.prog 58 #[.slice A n c, .int .u64 v] w fun e w' => e = .returned (.bool (l.contains v)) ∧ w = w' := by
  have ci := index_d A n c l v w hR hn
  have hd := ixD_in l v
  generalize l.contains v = b at *
  generalize ixD l v = x at *
  clear hR
  go_enter Try.func58, Try.ntmps58
  go_wp2_with (first
    | (go_at_call 27; ((with_reducible refine ci.mono ?_); rintro en w2 ⟨rfl, rfl⟩))
    | fail)
  go_ret
  first | exact ⟨rfl, rfl⟩ | exact rfl
set_option maxRecDepth 100000 in
theorem wo1_any (x : Int) (bb : Nat) (BA : Option Addr) (bn bc : Nat) (b : List Int) (w : World) (hk : Blk w bb 22 #[.slice BA bn bc]) (hR : Reads w w.heap.size 1 BA bn (ids b)) (hn : bn ≤ 281474976710656) :
    Calls Try.prog 130 #[.int .u64 x, .pointer (some ⟨bb, 0, none⟩)] w fun e w' => e = .returned (.bool (b.contains x)) ∧ w = w' := by
  have ci := contains_d BA bn bc b x w hR hn
  have c0 := hk.cell 0
  generalize b.contains x = y at *
  clear hR hk
  go_enter Try.func130, Try.ntmps130
  go_wp2_with (first
    | (go_at_call 58; ((with_reducible refine ci.mono ?_); rintro en w2 ⟨rfl, rfl⟩))
    | fail)
  go_ret
  exact ⟨rfl, rfl⟩
/-- where the first one stands that b has -/
def FstIn (b l : List Int) (r : Int) : Prop := (r = -1 ∧ ∀ x ∈ l, b.contains x = false) ∨ ∃ (k : Nat) (x : Int), r = (k : Int) ∧ l[k]? = some x ∧ b.contains x = true ∧ ∀ (j : Nat) (y : Int), j < k → l[j]? = some y → b.contains y = false
set_option maxRecDepth 100000 in
set_option maxHeartbeats 4000000 in
theorem indexf_any (A : Option Addr) (n c : Nat) (l : List Int) (bb : Nat) (BA : Option Addr) (bn bc : Nat) (b : List Int) (w : World) (hA : Reads w w.heap.size 1 A n (ids l)) (hnn : n ≤ 65536)
    (hk : Blk w bb 22 #[.slice BA bn bc]) (hR : Reads w w.heap.size 1 BA bn (ids b)) (hn : bn ≤ 281474976710656) :
    Calls Try.prog 135 #[.slice A n c, .func (.func 130) #[] #[.pointer (some ⟨bb, 0, none⟩)]] w fun e w' => ∃ r, e = .returned (.int .i64 r) ∧ FstIn b l r ∧ w = w' := by
  have cw := fun x => wo1_any x bb BA bn bc b w hk hR hn
  have hl : l.length = n := by have := hA.1; rw [ids_len] at this; omega
  have HL := Lib.hid hl
  clear hk hR hl
  go_enter Try.func135, Try.ntmps135
  go_wp2_with fail
  go_loopw [8] (fun i wr => ∃ k : Nat, k ≤ n ∧ i = .int .i64 k ∧ w = wr ∧ ∀ (j : Nat) (y : Int), j < k → l[j]? = some y → b.contains y = false)
    (fun i _ => n - (intOf i).toNat)
  case atStart => exact ⟨0, Nat.zero_le _, rfl, rfl, fun j y hj => absurd hj (by omega)⟩
  case round =>
    obtain ⟨k, hk, rfl, rfl, hno⟩ := hrel
    have HNO := Lib.hid hno
    by_cases hlt : k < n
    · have e1 := List.getElem?_eq_getElem (l := l) (i := k) (by rw [HL.out]; exact hlt)
      generalize l[k]'(by rw [HL.out]; exact hlt) = x at e1
      obtain ⟨bl, ol, rfl, hbl, g⟩ := ids_cell hA e1
      have i1 : (k : Int) < (n : Int) := by omega
      have HE := Lib.hid e1
      have cx := cw x
      cases hc : b.contains x
      · rw [hc] at cx
        have HC := Lib.hid hc
        clear e1 hno hc cw
        go_wp2_with (first
          | (go_at_call 130; ((with_reducible refine cx.mono ?_); rintro en w2 ⟨rfl, rfl⟩))
          | fail)
        go_roundw
        case rel =>
          refine ⟨k + 1, by omega, by go_num, trivial, fun j y hj hy => ?_⟩
          by_cases hjk : j = k
          · subst hjk
            rw [HE.out] at hy; injection hy with hy
            subst hy; exact HC.out
          · exact HNO.out j y (by omega) hy
        case measure => simp [intOf]; omega
      · rw [hc] at cx
        have HC := Lib.hid hc
        clear e1 hno hc cw
        go_wp2_with (first
          | (go_at_call 130; ((with_reducible refine cx.mono ?_); rintro en w2 ⟨rfl, rfl⟩))
          | fail)
        go_ret
        exact ⟨_, rfl, .inr ⟨k, x, rfl, HE.out, HC.out, HNO.out⟩, rfl⟩
    · have hke : k = n := by omega
      subst hke
      have i1 : ¬ ((k : Int) < (k : Int)) := by omega
      clear hno cw
      go_wp2_with fail
      go_ret
      refine ⟨_, rfl, .inl ⟨rfl, fun x hx => ?_⟩, rfl⟩
      obtain ⟨j, hj⟩ := List.getElem?_of_mem hx
      exact HNO.out j x (by have h1 := (List.getElem?_eq_some_iff.1 hj).1; rw [HL.out] at h1; exact h1) hj
/-- those that b has not -/
def keepL (b l : List Int) : List Int := l.filter (fun x => !b.contains x)
theorem keepL_snoc (b : List Int) {l : List Int} {k : Nat} {x : Int} (h : l[k]? = some x) : keepL b (l.take (k + 1)) = keepL b (l.take k) ++ (if b.contains x then [] else [x]) := by
  unfold keepL
  rw [take_snoc h, List.filter_append]
  cases hb : b.contains x
  · simp only [List.filter_cons, List.filter_nil, hb]; rfl
  · simp only [List.filter_cons, List.filter_nil, hb]; rfl
theorem keepL_all {b l : List Int} (h : ∀ x ∈ l, b.contains x = false) : keepL b l = l := by
  unfold keepL
  exact List.filter_eq_self.2 fun x hx => by rw [h x hx]; rfl
theorem keepL_le (b l : List Int) : (keepL b l).length ≤ l.length := List.length_filter_le _ _
/-- a slice over what is left -/
def LeftR (L : List Int) (B : Nat) (w : World) (e : Ending) (w' : World) : Prop := ∃ A m c, e = .returned (.slice A m c) ∧ Reads w' w'.heap.size 1 A m (ids L) ∧ Below B w w'
/-- what DeleteFunc's loop keeps -/
structure DelI (b l xs : List Int) (B g n c i j : Nat) (w W : World) : Prop where
  own : W.ownsRow B 27 1 (.slice (some ⟨g, 0, none⟩) n c) n (ids xs)
  hd : xs.take i = keepL b (l.take j)
  lt : i < j
  tl : ∀ m, j ≤ m → xs[m]? = l[m]?
  b : Below B w W
theorem DelI.len {b l xs : List Int} {B g n c i j : Nat} {w W : World} (h : DelI b l xs B g n c i j w W) : xs.length = n := by have := h.own.1; rw [ids_len] at this; omega
set_option maxRecDepth 100000 in
set_option maxHeartbeats 8000000 in
theorem delf_any (B : Nat) (A : Option Addr) (n c : Nat) (l : List Int) (bb : Nat) (BA : Option Addr) (bn bc : Nat) (b : List Int) (w : World) (hB : B ≤ w.heap.size) (hA : w.ownsRow B 27 1 (.slice A n c) n (ids l)) (hnn : n ≤ 65536)
    (hk : Blk w bb 22 #[.slice BA bn bc]) (hbb : bb < B) (hR : Reads w B 1 BA bn (ids b)) (hn : bn ≤ 281474976710656) :
    Calls Try.prog 129 #[.slice A n c, .func (.func 130) #[] #[.pointer (some ⟨bb, 0, none⟩)]] w (LeftR (keepL b l) B w) := by
  have ci := indexf_any A n c l bb BA bn bc b w (Reads.of_own hA) hnn hk (hR.more hB) hn
  have cw := fun (x : Int) (W : World) (hb : Below B w W) => wo1_any x bb BA bn bc b W (hk.below hb hbb) ((hR.below hb).more (Nat.le_trans hB hb.size)) hn
  have hl : l.length = n := by have := hA.1; rw [ids_len] at this; omega
  have HL := Lib.hid hl
  have HA := Lib.hid hA
  clear hk hR hl hA
  have hne : ∀ k : Nat, ((k : Int) == -1) = false := fun k => by simp
  go_enter Try.func129, Try.ntmps129
  go_upto_region 2 with (first
    | (go_at_call 135; ((with_reducible refine ci.mono ?_); rintro en w2 ⟨r, rfl, hfi, rfl⟩))
    | fail)
  rcases hfi with ⟨rfl, hall⟩ | ⟨k0, x0, rfl, h0, hc0, hno⟩
  · have HALL := Lib.hid hall
    clear hall
    go_wp2_with fail
    go_ret
    exact ⟨_, _, _, rfl, by rw [keepL_all HALL.out]; exact Reads.of_own HA.out, Below.refl _ _⟩
  · have hk0 : k0 < n := by rw [← HL.out]; exact (List.getElem?_eq_some_iff.1 h0).1
    have hq := hne k0
    have hI : DelI b l l B (Classical.choose (own_form HA.out (by omega))) n c k0 (k0 + 1) w w := by
      have hf := Classical.choose_spec (own_form HA.out (by omega))
      have ho := HA.out
      rw [hf] at ho
      refine ⟨ho, ?_, Nat.lt_succ_self _, fun _ _ => rfl, Below.refl _ _⟩
      rw [keepL_snoc b h0, hc0, if_pos rfl, List.append_nil, keepL_all fun x hx => ?_]
      obtain ⟨j, hj⟩ := List.getElem?_of_mem hx
      have hjl := (List.getElem?_eq_some_iff.1 hj).1
      rw [List.length_take] at hjl
      rw [List.getElem?_take, if_pos (by omega)] at hj
      exact hno j x (by omega) hj
    have hAf := Classical.choose_spec (own_form HA.out (by omega))
    generalize Classical.choose (own_form HA.out (by omega)) = g at *
    subst hAf
    have HI := Lib.hid hI
    clear hI h0 hc0 hno ci
    go_upto_region 5 with fail
    go_loopw [5, 6] (fun s i wr => ∃ (i' j : Nat) (xs : List Int), j ≤ n ∧ i = .int .i64 j ∧ s = .int .i64 i' ∧ DelI b l xs B g n c i' j w wr)
      (fun _ i _ => n - (intOf i).toNat)
    case atStart => exact ⟨k0, k0 + 1, l, by omega, by go_num, rfl, HI.out⟩
    case round =>
      obtain ⟨i', j, xs, hj, rfl, rfl, hI⟩ := hrel
      have hxl := hI.len
      have hij := hI.lt
      have HI2 := Lib.hid hI
      by_cases hlt : j < n
      · have e1 := List.getElem?_eq_getElem (l := l) (i := j) (by rw [HL.out]; exact hlt)
        generalize l[j]'(by rw [HL.out]; exact hlt) = x at e1
        have e2 : xs[j]? = some x := by rw [hI.tl j (Nat.le_refl _)]; exact e1
        have g0 : wr.cell? ⟨g, j, none⟩ = some (.int .u64 x) := by
          obtain ⟨b2, o2, hA2, _, g2⟩ := ids_cell (Reads.of_own hI.own) e2
          injection hA2 with hA2
          injection hA2 with hA2 hA3
          subst hA2 hA3
          rw [Nat.zero_add] at g2
          exact g2
        have i1 : (j : Int) < (n : Int) := by omega
        have i2 : (i' : Int) < (n : Int) := by omega
        have cx := cw x wr hI.b
        have HE := Lib.hid e1
        have hsn := keepL_snoc b e1
        cases hc : b.contains x
        · rw [hc] at cx hsn
          rw [if_neg (by decide)] at hsn
          have vf := hI.own.frozenAt i'
          obtain ⟨u, hu⟩ : ∃ u, wr.cell? ⟨g, i', none⟩ = some u := by
            have e4 := List.getElem?_eq_getElem (l := xs) (i := i') (by omega)
            obtain ⟨b2, o2, hA2, _, g2⟩ := ids_cell (Reads.of_own hI.own) e4
            injection hA2 with hA2
            injection hA2 with hA2 hA3
            subst hA2 hA3
            rw [Nat.zero_add] at g2
            exact ⟨_, g2⟩
          have hst := hI.own.stored i' (.int .u64 x)
          have hin : DelI b l (xs.set i' x) B g n c (i' + 1) (j + 1) w (wr.setCell ⟨g, i', none⟩ (.int .u64 x)) := by
            have ho := hst.1
            rw [ids_set] at ho
            refine ⟨ho, ?_, by omega, fun m hm => ?_, hI.b.setCell (p := ⟨g, i', none⟩) (own_base hI.own) _⟩
            · rw [hsn, ← hI.hd, take_snoc (x := x) (by rw [List.getElem?_set_self (by omega)]), List.take_set_of_le (Nat.le_refl _)]
            · rw [List.getElem?_set_ne (by omega)]
              exact hI.tl m (by omega)
          have HIN := Lib.hid hin
          clear hin hst hsn hc e1 e2 hI cw
          go_wp2_with (first
            | (go_at_call 130; ((with_reducible refine cx.mono ?_); rintro en w2 ⟨rfl, rfl⟩))
            | fail)
          go_roundw
          case rel => exact ⟨i' + 1, j + 1, _, by omega, by go_num, by go_num, HIN.out⟩
          case measure => simp [intOf]; omega
        · rw [hc] at cx hsn
          rw [if_pos rfl, List.append_nil] at hsn
          have hin : DelI b l xs B g n c i' (j + 1) w wr := ⟨hI.own, by rw [hsn]; exact hI.hd, by omega, fun m hm => hI.tl m (by omega), hI.b⟩
          have HIN := Lib.hid hin
          clear hin hsn hc e1 e2 hI cw
          go_wp2_with (first
            | (go_at_call 130; ((with_reducible refine cx.mono ?_); rintro en w2 ⟨rfl, rfl⟩))
            | fail)
          go_roundw
          case rel => exact ⟨i', j + 1, _, by omega, by go_num, rfl, HIN.out⟩
          case measure => simp [intOf]; omega
      · have hjn : j = n := by omega
        subst hjn
        have i1 : ¬ ((j : Int) < (j : Int)) := by omega
        have hzu : ∀ w, (zeroValue 27).run Try.prog w = .ok (.int .u64 0) w := fun w => by kernel_rfl
        have hcl : ∀ ty, (Builtin.clear_ #[22] ty #[.slice (some ⟨g, i', none⟩) (j - i') (c - i')]).run Try.prog wr = .ok (.tuple #[]) (wr.setCells g i' (List.replicate (j - i') (.int .u64 0))) := fun ty =>
          Lib.run_clear_slice wr 22 27 ty (.int .u64 0) Try.underlying22 hzu rfl rfl g i' (j - i') (c - i') (by omega) (fun q hq => by
            have e4 := List.getElem?_eq_getElem (l := xs) (i := i' + q) (by omega)
            obtain ⟨b2, o2, hA2, _, g2⟩ := ids_cell (Reads.of_own hI.own) e4
            injection hA2 with hA2
            injection hA2 with hA2 hA3
            subst hA2 hA3
            rw [Nat.zero_add] at g2
            rw [g2]; rfl) (fun q hq => hI.own.frozenAt (i' + q))
        obtain ⟨A', c', hv, h1, h2⟩ := own_cap hI.own
        injection hv with hv1 hv2 hv3
        subst hv3
        have i3 : (i' : Int) ≤ (c : Int) := by omega
        have i4 : (j : Int) ≤ (c : Int) := by omega
        have i5 : (i' : Int) ≤ (j : Int) := by omega
        have HXL := Lib.hid hxl
        clear cw hI hv1 h2
        go_wp2_with (simp only [hcl])
        go_ret
        have hS := HI2.out
        have hR := Reads.of_own hS.own
        have hd := hS.hd
        have hlt2 : l.take j = l := List.take_of_length_le (by rw [HL.out]; exact Nat.le_refl _)
        rw [hlt2] at hd
        refine ⟨_, i', c, rfl, ⟨by rw [ids_len, Nat.mul_one, ← hd, List.length_take]; omega, fun h0 => ⟨⟨g, 0, none⟩, ?_, ?_, fun q u hq => ?_⟩⟩, Lib.below_setCells _ (own_base hS.own) _ _ hS.b⟩
        · first | rfl | simp
        · obtain ⟨ad, e9, h9, _⟩ := hR.2 (by omega)
          injection e9 with e9
          subst e9
          exact Nat.lt_of_lt_of_le h9 (Lib.below_setCells g (Nat.zero_le g) _ _ (Below.refl 0 wr)).size
        · obtain ⟨ad, e9, h9, h10⟩ := hR.2 (by omega)
          injection e9 with e9
          subst e9
          have hql : q < i' := by
            have := (List.getElem?_eq_some_iff.1 hq).1
            rw [ids_len, ← hd, List.length_take] at this
            omega
          rw [World.cell?_setCells_out g _ _ _ _ (fun _ _ => .inl (by rw [add_none]; show 0 + q < i'; omega))]
          refine h10 q u ?_
          rw [← hd] at hq
          unfold ids at hq ⊢
          rw [List.getElem?_map, List.getElem?_take, if_pos hql] at hq
          rw [List.getElem?_map]
          exact hq
end Go.Proofs.Ytbcbknajhdaneaa
