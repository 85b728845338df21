/- What is proved: contracts of table's each. -/
import Derived.Test.YtbcbknajhdaneaaTb3
namespace Go.Proofs.Ytbcbknajhdaneaa
open Go.RowKit
set_option linter.unusedVariables false
set_option linter.unusedSimpArgs false
section
variable {α : Type}
def eachE (fe : Nat → Col → Int) : Nat → List Col → Int
  | _, [] => 0
  | k, x :: F => if fe k x = 0 then eachE fe (k + 1) F else fe k x
def eachL (fp : Nat → Col → α) : Nat → List Col → List α
  | _, [] => []
  | k, x :: F => fp k x :: eachL fp (k + 1) F
theorem eachE_all (fe : Nat → Col → Int) : ∀ (F : List Col) (b : Nat), (∀ j y, F[j]? = some y → fe (b + j) y = 0) → eachE fe b F = 0
  | [], _, _ => rfl
  | x :: F, b, h => by
    have h0 : fe b x = 0 := h 0 x rfl
    unfold eachE
    rw [if_pos h0]
    exact eachE_all fe F (b + 1) fun j y hj => by rw [Nat.add_right_comm, Nat.add_assoc]; exact h (j + 1) y (by simpa using hj)
theorem eachE_stop (fe : Nat → Col → Int) : ∀ (F : List Col) (b k : Nat) (x : Col), (∀ j y, j < k → F[j]? = some y → fe (b + j) y = 0) → F[k]? = some x → fe (b + k) x ≠ 0 → eachE fe b F = fe (b + k) x
  | [], _, _, _, _, h, _ => by simp at h
  | y :: F, b, 0, x, _, h, h2 => by
    simp at h; subst h
    unfold eachE
    rw [if_neg (show ¬ fe b y = 0 from h2)]; rfl
  | y :: F, b, k + 1, x, h0, h, h2 => by
    have h1 : fe b y = 0 := h0 0 y (by omega) rfl
    unfold eachE
    rw [if_pos h1]
    have e : b + (k + 1) = b + 1 + k := by omega
    rw [e] at h2 ⊢
    exact eachE_stop fe F (b + 1) k x (fun j z hj hz => by rw [show b + 1 + j = b + (j + 1) from by omega]; exact h0 (j + 1) z (by omega) (by simpa using hz)) (by simpa using h) h2
theorem eachL_snoc (fp : Nat → Col → α) : ∀ (F : List Col) (b : Nat) (x : Col), eachL fp b (F ++ [x]) = eachL fp b F ++ [fp (b + F.length) x]
  | [], _, _ => rfl
  | y :: F, b, x => by
    show fp b y :: eachL fp (b + 1) (F ++ [x]) = fp b y :: (eachL fp (b + 1) F ++ _)
    rw [eachL_snoc fp F (b + 1) x, List.length_cons, Nat.add_right_comm, Nat.add_assoc]
theorem eachL_take (fp : Nat → Col → α) {F : List Col} {k : Nat} {x : Col} (h : F[k]? = some x) : eachL fp 0 (F.take (k + 1)) = eachL fp 0 (F.take k) ++ [fp k x] := by
  have hk := (List.getElem?_eq_some_iff.1 h).1
  rw [take_snoc h, eachL_snoc, Nat.zero_add, List.length_take, Nat.min_eq_left (by omega)]
theorem eachL_len (fp : Nat → Col → α) : ∀ (F : List Col) (b : Nat), (eachL fp b F).length = F.length
  | [], _ => rfl
  | x :: F, b => by show (eachL fp (b + 1) F).length + 1 = F.length + 1; rw [eachL_len fp F]
end
theorem info_col : (Try.prog.info? 68).map (fun i => (i.zero, i.size, i.bytes)) = some (some (.agg #[.int .i64 0, .int .i64 0, .slice none 0 0]), 3, 40) := by kernel_rfl
theorem info_val : (Try.prog.info? 44).map (fun i => (i.zero, i.size, i.bytes)) = some (some (.slice none 0 0), 1, 24) := by kernel_rfl
theorem colFresh_grown {w w' : World} {base b n size : Nat} {x : Col} {e : TypeId} {v : Value} {xs : List Value} (h : ColFresh w base x) (ho : w.ownsRow b e size v n xs) (hne : e ≠ 26) (hg : w.grownBy w' v.ownBlock) : ColFresh w' base x := by
  obtain ⟨⟨hR, hc⟩, hs⟩ := h
  have hkeep : 0 < x.n → ∃ g, x.A = some ⟨g, 0, none⟩ ∧ w'.heap[g]? = w.heap[g]? := fun h0 => by
    obtain ⟨g, cur, hA, h1, h2, h3⟩ := hs h0
    refine ⟨g, hA, hg.block g (Array.getElem?_eq_some_iff.1 h2).1 fun hh => ?_⟩
    rcases ho.2 with ⟨rfl, _⟩ | ⟨g2, cap, cur2, rfl, _, h5, _⟩
    · simp [Value.ownBlock] at hh
    · simp [Value.ownBlock] at hh
      subst hh
      rw [h5] at h2
      injection h2 with h2
      injection h2 with _ h6
      exact hne h6
  refine ⟨⟨⟨hR.1, fun h0 => ?_⟩, hc⟩, fun h0 => ?_⟩
  · obtain ⟨ad, e', h1, h2⟩ := hR.2 h0
    obtain ⟨g, hA, hh⟩ := hkeep h0
    refine ⟨ad, e', Nat.lt_of_lt_of_le h1 hg.size, fun j u hu => ?_⟩
    rw [e'] at hA; injection hA with hA
    rw [← h2 j u hu]
    exact World.cell?_of_block (by rw [block_of_add, hA]; exact hh)
  · obtain ⟨g, cur, hA, h1, h2, h3⟩ := hs h0
    obtain ⟨g', hA', hh⟩ := hkeep h0
    rw [hA] at hA'; injection hA' with hA'; injection hA' with hA'
    subst hA'
    exact ⟨g, cur, hA, h1, hh.trans h2, h3⟩
abbrev PC := Int × Int × List Int
/-- columns of the call's own, and how it went -/
def EachR (ps : List PC) (er : Int) (w : World) (e : Ending) (w' : World) : Prop :=
  ∃ v F', e = .returned (.tuple #[v, .int .i64 er]) ∧ w'.ownsRow w.heap.size 68 3 v F'.length (cols F') ∧ F'.map Col.p = ps ∧ (∀ x ∈ F', ColFresh w' w.heap.size x) ∧ Below w.heap.size w w'
def eachP (fp : Nat → Col → PC) (fe : Nat → Col → Int) (F : List Col) : List PC := if eachE fe 0 F = 0 then eachL fp 0 F else []
theorem cols_app (a b : List Col) : cols (a ++ b) = cols a ++ cols b := by unfold cols; rw [List.flatMap_append]
theorem own_tab_slices {w : World} {base n size : Nat} {e : TypeId} {v : Value} {xs : List Value} (h : w.ownsRow base e size v n xs) : ∃ A c, v = .slice A n c := own_slice h
theorem lit_reads2 (w : World) (o : Obj) (t : TypeId) (cs : Array Value) {size n : Nat} (hn : cs.size = n * size) : Reads ((w.alloc o).alloc (.cells cs t)) (w.heap.size + 2) size (some ⟨w.heap.size + 1, 0, none⟩) n cs.toList := by
  have h := lit_reads (w.alloc o) t cs (size := size) (n := n) hn
  rw [World.size_alloc, World.size_alloc] at h
  exact h
theorem ret_two2 {v : Value} {a b : Int} (hv : v = v) (h : a = b) : Ending.returned (.tuple #[v, .int .i64 a]) = .returned (.tuple #[v, .int .i64 b]) := by rw [h]
set_option maxRecDepth 100000 in
set_option maxHeartbeats 8000000 in
theorem each1_any (t : Tab) (g : Nat) (bp : Nat) (fp : Nat → Col → PC) (fe : Nat → Col → Int) (w : World) (hcs : Reads w w.heap.size 3 t.CA t.Cn (cols t.F)) (hn : t.Cn ≤ 65536)
    (hg : ∀ args w, (callFunc g args).run Try.prog w = .ok (.enter g args) w)
    (hf : ∀ (k : Nat) x, t.F[k]? = some x → ∀ W, Below w.heap.size w W → Calls Try.prog g #[.int .i64 (k : Int), x.V, .pointer (some ⟨bp, 0, none⟩)] W (ColR (fp k x) (fe k x) W)) :
    Calls Try.prog 67 #[t.V, .func (.func g) #[] #[.pointer (some ⟨bp, 0, none⟩)]] w (EachR (eachP fp fe t.F) (eachE fe 0 t.F) w) := by
  obtain ⟨i0, hi0, hz0, hz1, hz2⟩ := info_parts info_col
  have hB := (Below.refl w.heap.size w).alloc (Nat.le_refl _) (.cells #[.slice t.TA t.Tn t.Tc, .slice t.CA t.Cn t.Cc, .slice t.EA t.En t.Ec] 25)
  obtain ⟨⟨c0, c1, c2⟩, _⟩ := blk_cells3 (Blk.new w 25 #[.slice t.TA t.Tn t.Tc, .slice t.CA t.Cn t.Cc, .slice t.EA t.En t.Ec])
  obtain ⟨TA, Tn, Tc, ty, CA, Cn, Cc, F, EA, En, Ec, es⟩ := t
  simp only at *
  have hFl : F.length = Cn := by have := hcs.1; rw [cols_len] at this; omega
  have L2 := Lib.hid hFl
  unfold Tab.V
  simp only
  go_enter Try.func67, Try.ntmps67
  go_wp2_with fail
  clear c0 c1 c2
  go_loopw [6, 14] (fun o i wr => ∃ k : Nat, k ≤ Cn ∧ i = .int .i64 k ∧ (∀ j y, j < k → F[j]? = some y → fe (0 + j) y = 0) ∧ Below w.heap.size w wr ∧
      ∃ F', wr.ownsRow w.heap.size 68 3 o F'.length (cols F') ∧ F'.map Col.p = eachL fp 0 (F.take k) ∧ ∀ x ∈ F', ColFresh wr w.heap.size x)
    (fun _ i _ => Cn - (intOf i).toNat)
  case atStart => exact ⟨0, Nat.zero_le _, rfl, fun j y h => absurd h (by omega), hB, [], World.ownsRow_nil _ _ _ _, rfl, by simp⟩
  case round =>
    obtain ⟨k, hk, rfl, hall, hb, F', ho, hp, hfr⟩ := hrel
    have hF'l : F'.length = k := by
      have h1 := congrArg List.length hp
      rw [List.length_map, eachL_len, List.length_take, L2.out, Nat.min_eq_left hk] at h1
      exact h1
    by_cases hlt : k < Cn
    · have e1 := List.getElem?_eq_getElem (l := F) (i := k) (by rw [L2.out]; exact hlt)
      generalize F[k]'(by rw [L2.out]; exact hlt) = x at e1
      obtain ⟨b, off, rfl, hbl, gc⟩ := cols_cells hcs e1
      obtain ⟨g0, g1, g2⟩ := gc.below hb hbl
      have cf := fun (o : Obj) => hf k x e1 (wr.alloc o) (hb.alloc hb.size o)
      have HT := Lib.hid (eachL_take fp e1)
      have HS := Lib.hid (eachE_stop fe F 0 k x hall e1)
      have HALL := Lib.hid hall
      have HE1 := Lib.hid e1
      have HO := Lib.hid ho
      have HP := Lib.hid hp
      have HFR := Lib.hid hfr
      have HF := Lib.hid hF'l
      obtain ⟨Ao, co, rfl⟩ := own_slice ho
      have HFL := Lib.hid (show F'.length ≤ 65536 by omega)
      clear hcs hf e1 gc ho hp hfr hall hF'l hFl
      unfold Col.V colV ColR at cf
      rw [Nat.zero_add] at HS
      generalize fp k x = pk at *
      generalize hfe : fe k x = ek at *
      have HFE := Lib.hid hfe
      clear hfe
      obtain ⟨xW, xR, xA, xn, xc, xl⟩ := x
      simp only at g0 g1 g2 cf
      by_cases hek : ek = 0
      · subst hek
        go_wp2_with (first
          | ((with_reducible refine (cf _).mono ?_); rintro en w2 ⟨x', rfl, hpx, hfx, hb2⟩; obtain ⟨xW', xR', xA', xn', xc', xl'⟩ := x'; unfold Col.V colV; (try simp only))
          | (at_builtin
             refine wpList_append_any _ rfl (.tmp 29) (.tmp 31) _ rfl w.heap.size 68 i0 _ 3 40 Try.underlying23 hi0 hz0 hz1 hz2 rfl (by omega) _ F'.length (cols F') rfl
               ?_ (w2.heap.size + 2) (some ⟨w2.heap.size + 1, 0, none⟩) 1 1 [.int .i64 xW', .int .i64 xR', .slice xA' xn' xc'] rfl ?_ (by simp [Value.oneCell']) (by have := HFL.out; simp only [maxLen]; omega) (by have := HFL.out; omega) ?_ ?_
             · exact ((own_below (HO.out.alloc _) hb2).alloc _).alloc _
             · exact lit_reads2 _ _ _ _ rfl
             · exact Nat.le_trans hb.size (by have := hb2.size; simp at this ⊢; omega)
             intro v1 w1 hown1 hg1 hat1)
          | fail)
        have hb3 : Below w.heap.size w w2 := (hb.alloc hb.size _).trans (hb2.mono (by have := hb.size; simp; omega))
        have hz3 := hb3.size
        have hb4 := own_grown_below (hb3.alloc hz3 (.cells #[.int .i64 xW', .int .i64 xR', .slice xA' xn' xc'] 68) |>.alloc (by simp; omega) (.cells #[.int .i64 xW', .int .i64 xR', .slice xA' xn' xc'] 68)) (((own_below (HO.out.alloc _) hb2).alloc _).alloc _) hg1
        go_roundw
        case rel =>
          refine ⟨k + 1, by omega, by go_num, fun j y hj hy => ?_, hb4, F' ++ [⟨xW', xR', xA', xn', xc', xl'⟩], ?_, ?_, fun y hy => ?_⟩
          · by_cases hjk : j = k
            · subst hjk
              rw [HE1.out] at hy; injection hy with hy
              subst hy
              rw [Nat.zero_add]; exact HFE.out
            · exact HALL.out j y (by omega) hy
          · rw [cols_app, List.length_append]; exact hown1
          · rw [List.map_append, HP.out, HT.out]
            show _ ++ [Col.p _] = _
            rw [hpx]
          · have hk1 := ((own_below (HO.out.alloc (.cells #[.int .i64 xW, .int .i64 xR, .slice xA xn xc] 68)) hb2).alloc (.cells #[.int .i64 xW', .int .i64 xR', .slice xA' xn' xc'] 68)).alloc (.cells #[.int .i64 xW', .int .i64 xR', .slice xA' xn' xc'] 68)
            have hstep : ∀ z, ColFresh w2 w.heap.size z → ColFresh w1 w.heap.size z := fun z hz =>
              colFresh_grown ((hz.below ((Below.refl _ w2).alloc (Nat.le_refl _) _)).below ((Below.refl _ _).alloc (Nat.le_refl _) _)) hk1 (by decide) hg1
            rcases List.mem_append.1 hy with hy | hy
            · exact hstep y (((HFR.out y hy).below ((Below.refl _ wr).alloc (Nat.le_refl _) _)).below hb2)
            · rw [List.mem_singleton] at hy; subst hy
              exact hstep _ (colFresh_base hfx (by have := hb.size; simp; omega))
        case measure => simp [intOf]; omega
      · have hekn : (ek != 0) = true := by simpa using hek
        go_wp2_with (first
          | ((with_reducible refine (cf _).mono ?_); rintro en w2 ⟨x', rfl, hpx, hfx, hb2⟩; obtain ⟨xW', xR', xA', xn', xc', xl'⟩ := x'; unfold Col.V colV; (try simp only))
          | fail)
        try rw [Exit.noGoto_ret]
        go_ret2
        have hes := HS.out hek
        show EachR _ _ w _ _
        have hfin : EachR (eachP fp fe F) (eachE fe 0 F) w = EachR [] ek w := by unfold eachP; rw [if_neg (by rw [hes]; exact hek), hes]
        rw [hfin]
        refine ⟨_, [], rfl, World.ownsRow_nil _ _ _ _, rfl, by simp, ?_⟩
        exact ((hb.alloc hb.size _).trans (hb2.mono (by have := hb.size; simp; omega))).alloc (by have := hb.size; have := hb2.size; simp at this; omega) _
    · have : k = Cn := by omega
      subst this
      rw [List.take_of_length_le (by rw [L2.out]; omega)] at hp
      have hE := eachE_all fe F 0 (fun j y hy => hall j y (by have := (List.getElem?_eq_some_iff.1 hy).1; rw [L2.out] at this; exact this) hy)
      have hfin : EachR (eachP fp fe F) (eachE fe 0 F) w = EachR (eachL fp 0 F) 0 w := by unfold eachP; rw [hE, if_pos rfl]
      have HFIN := Lib.hid hfin
      have HO := Lib.hid ho
      have HP := Lib.hid hp
      have HFR := Lib.hid hfr
      obtain ⟨Ao, co, rfl⟩ := own_slice ho
      clear hcs hf ho hp hfr hall hF'l hFl hE hfin
      go_wp2_with fail
      go_ret2
      show EachR _ _ w _ _
      rw [HFIN.out]
      exact ⟨_, F', rfl, HO.out, HP.out, HFR.out, hb⟩
set_option maxRecDepth 100000 in
set_option maxHeartbeats 8000000 in
theorem each3_any (t : Tab) (g : Nat) (bp bq br : Nat) (fp : Nat → Col → PC) (fe : Nat → Col → Int) (w : World) (hcs : Reads w w.heap.size 3 t.CA t.Cn (cols t.F)) (hn : t.Cn ≤ 65536)
    (hg : ∀ args w, (callFunc g args).run Try.prog w = .ok (.enter g args) w)
    (hf : ∀ (k : Nat) x, t.F[k]? = some x → ∀ W, Below w.heap.size w W → Calls Try.prog g #[.int .i64 (k : Int), x.V, .pointer (some ⟨bp, 0, none⟩), .pointer (some ⟨bq, 0, none⟩), .pointer (some ⟨br, 0, none⟩)] W (ColR (fp k x) (fe k x) W)) :
    Calls Try.prog 67 #[t.V, .func (.func g) #[] #[.pointer (some ⟨bp, 0, none⟩), .pointer (some ⟨bq, 0, none⟩), .pointer (some ⟨br, 0, none⟩)]] w (EachR (eachP fp fe t.F) (eachE fe 0 t.F) w) := by
  obtain ⟨i0, hi0, hz0, hz1, hz2⟩ := info_parts info_col
  have hB := (Below.refl w.heap.size w).alloc (Nat.le_refl _) (.cells #[.slice t.TA t.Tn t.Tc, .slice t.CA t.Cn t.Cc, .slice t.EA t.En t.Ec] 25)
  obtain ⟨⟨c0, c1, c2⟩, _⟩ := blk_cells3 (Blk.new w 25 #[.slice t.TA t.Tn t.Tc, .slice t.CA t.Cn t.Cc, .slice t.EA t.En t.Ec])
  obtain ⟨TA, Tn, Tc, ty, CA, Cn, Cc, F, EA, En, Ec, es⟩ := t
  simp only at *
  have hFl : F.length = Cn := by have := hcs.1; rw [cols_len] at this; omega
  have L2 := Lib.hid hFl
  unfold Tab.V
  simp only
  go_enter Try.func67, Try.ntmps67
  go_wp2_with fail
  clear c0 c1 c2
  go_loopw [6, 14] (fun o i wr => ∃ k : Nat, k ≤ Cn ∧ i = .int .i64 k ∧ (∀ j y, j < k → F[j]? = some y → fe (0 + j) y = 0) ∧ Below w.heap.size w wr ∧
      ∃ F', wr.ownsRow w.heap.size 68 3 o F'.length (cols F') ∧ F'.map Col.p = eachL fp 0 (F.take k) ∧ ∀ x ∈ F', ColFresh wr w.heap.size x)
    (fun _ i _ => Cn - (intOf i).toNat)
  case atStart => exact ⟨0, Nat.zero_le _, rfl, fun j y h => absurd h (by omega), hB, [], World.ownsRow_nil _ _ _ _, rfl, by simp⟩
  case round =>
    obtain ⟨k, hk, rfl, hall, hb, F', ho, hp, hfr⟩ := hrel
    have hF'l : F'.length = k := by
      have h1 := congrArg List.length hp
      rw [List.length_map, eachL_len, List.length_take, L2.out, Nat.min_eq_left hk] at h1
      exact h1
    by_cases hlt : k < Cn
    · have e1 := List.getElem?_eq_getElem (l := F) (i := k) (by rw [L2.out]; exact hlt)
      generalize F[k]'(by rw [L2.out]; exact hlt) = x at e1
      obtain ⟨b, off, rfl, hbl, gc⟩ := cols_cells hcs e1
      obtain ⟨g0, g1, g2⟩ := gc.below hb hbl
      have cf := fun (o : Obj) => hf k x e1 (wr.alloc o) (hb.alloc hb.size o)
      have HT := Lib.hid (eachL_take fp e1)
      have HS := Lib.hid (eachE_stop fe F 0 k x hall e1)
      have HALL := Lib.hid hall
      have HE1 := Lib.hid e1
      have HO := Lib.hid ho
      have HP := Lib.hid hp
      have HFR := Lib.hid hfr
      have HF := Lib.hid hF'l
      obtain ⟨Ao, co, rfl⟩ := own_slice ho
      have HFL := Lib.hid (show F'.length ≤ 65536 by omega)
      clear hcs hf e1 gc ho hp hfr hall hF'l hFl
      unfold Col.V colV ColR at cf
      rw [Nat.zero_add] at HS
      generalize fp k x = pk at *
      generalize hfe : fe k x = ek at *
      have HFE := Lib.hid hfe
      clear hfe
      obtain ⟨xW, xR, xA, xn, xc, xl⟩ := x
      simp only at g0 g1 g2 cf
      by_cases hek : ek = 0
      · subst hek
        go_wp2_with (first
          | ((with_reducible refine (cf _).mono ?_); rintro en w2 ⟨x', rfl, hpx, hfx, hb2⟩; obtain ⟨xW', xR', xA', xn', xc', xl'⟩ := x'; unfold Col.V colV; (try simp only))
          | (at_builtin
             refine wpList_append_any _ rfl (.tmp 29) (.tmp 31) _ rfl w.heap.size 68 i0 _ 3 40 Try.underlying23 hi0 hz0 hz1 hz2 rfl (by omega) _ F'.length (cols F') rfl
               ?_ (w2.heap.size + 2) (some ⟨w2.heap.size + 1, 0, none⟩) 1 1 [.int .i64 xW', .int .i64 xR', .slice xA' xn' xc'] rfl ?_ (by simp [Value.oneCell']) (by have := HFL.out; simp only [maxLen]; omega) (by have := HFL.out; omega) ?_ ?_
             · exact ((own_below (HO.out.alloc _) hb2).alloc _).alloc _
             · exact lit_reads2 _ _ _ _ rfl
             · exact Nat.le_trans hb.size (by have := hb2.size; simp at this ⊢; omega)
             intro v1 w1 hown1 hg1 hat1)
          | fail)
        have hb3 : Below w.heap.size w w2 := (hb.alloc hb.size _).trans (hb2.mono (by have := hb.size; simp; omega))
        have hz3 := hb3.size
        have hb4 := own_grown_below (hb3.alloc hz3 (.cells #[.int .i64 xW', .int .i64 xR', .slice xA' xn' xc'] 68) |>.alloc (by simp; omega) (.cells #[.int .i64 xW', .int .i64 xR', .slice xA' xn' xc'] 68)) (((own_below (HO.out.alloc _) hb2).alloc _).alloc _) hg1
        go_roundw
        case rel =>
          refine ⟨k + 1, by omega, by go_num, fun j y hj hy => ?_, hb4, F' ++ [⟨xW', xR', xA', xn', xc', xl'⟩], ?_, ?_, fun y hy => ?_⟩
          · by_cases hjk : j = k
            · subst hjk
              rw [HE1.out] at hy; injection hy with hy
              subst hy
              rw [Nat.zero_add]; exact HFE.out
            · exact HALL.out j y (by omega) hy
          · rw [cols_app, List.length_append]; exact hown1
          · rw [List.map_append, HP.out, HT.out]
            show _ ++ [Col.p _] = _
            rw [hpx]
          · have hk1 := ((own_below (HO.out.alloc (.cells #[.int .i64 xW, .int .i64 xR, .slice xA xn xc] 68)) hb2).alloc (.cells #[.int .i64 xW', .int .i64 xR', .slice xA' xn' xc'] 68)).alloc (.cells #[.int .i64 xW', .int .i64 xR', .slice xA' xn' xc'] 68)
            have hstep : ∀ z, ColFresh w2 w.heap.size z → ColFresh w1 w.heap.size z := fun z hz =>
              colFresh_grown ((hz.below ((Below.refl _ w2).alloc (Nat.le_refl _) _)).below ((Below.refl _ _).alloc (Nat.le_refl _) _)) hk1 (by decide) hg1
            rcases List.mem_append.1 hy with hy | hy
            · exact hstep y (((HFR.out y hy).below ((Below.refl _ wr).alloc (Nat.le_refl _) _)).below hb2)
            · rw [List.mem_singleton] at hy; subst hy
              exact hstep _ (colFresh_base hfx (by have := hb.size; simp; omega))
        case measure => simp [intOf]; omega
      · have hekn : (ek != 0) = true := by simpa using hek
        go_wp2_with (first
          | ((with_reducible refine (cf _).mono ?_); rintro en w2 ⟨x', rfl, hpx, hfx, hb2⟩; obtain ⟨xW', xR', xA', xn', xc', xl'⟩ := x'; unfold Col.V colV; (try simp only))
          | fail)
        try rw [Exit.noGoto_ret]
        go_ret2
        have hes := HS.out hek
        show EachR _ _ w _ _
        have hfin : EachR (eachP fp fe F) (eachE fe 0 F) w = EachR [] ek w := by unfold eachP; rw [if_neg (by rw [hes]; exact hek), hes]
        rw [hfin]
        refine ⟨_, [], rfl, World.ownsRow_nil _ _ _ _, rfl, by simp, ?_⟩
        exact ((hb.alloc hb.size _).trans (hb2.mono (by have := hb.size; simp; omega))).alloc (by have := hb.size; have := hb2.size; simp at this; omega) _
    · have : k = Cn := by omega
      subst this
      rw [List.take_of_length_le (by rw [L2.out]; omega)] at hp
      have hE := eachE_all fe F 0 (fun j y hy => hall j y (by have := (List.getElem?_eq_some_iff.1 hy).1; rw [L2.out] at this; exact this) hy)
      have hfin : EachR (eachP fp fe F) (eachE fe 0 F) w = EachR (eachL fp 0 F) 0 w := by unfold eachP; rw [hE, if_pos rfl]
      have HFIN := Lib.hid hfin
      have HO := Lib.hid ho
      have HP := Lib.hid hp
      have HFR := Lib.hid hfr
      obtain ⟨Ao, co, rfl⟩ := own_slice ho
      clear hcs hf ho hp hfr hall hF'l hFl hE hfin
      go_wp2_with fail
      go_ret2
      show EachR _ _ w _ _
      rw [HFIN.out]
      exact ⟨_, F', rfl, HO.out, HP.out, HFR.out, hb⟩
end Go.Proofs.Ytbcbknajhdaneaa
