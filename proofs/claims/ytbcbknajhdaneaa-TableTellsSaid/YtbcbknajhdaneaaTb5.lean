/- What is proved: the contract of table's each at values; rows of values that lie in memory made since. -/
import Derived.Test.YtbcbknajhdaneaaTb4
namespace Go.Proofs.Ytbcbknajhdaneaa
open Go.RowKit
set_option linter.unusedVariables false
set_option linter.unusedSimpArgs false
def RwFresh (w : World) (base : Nat) (x : Rw) : Prop := ColFresh w base ⟨0, 0, x.A, x.n, x.c, x.l⟩
theorem RwFresh.ok {w : World} {base : Nat} {x : Rw} (h : RwFresh w base x) : RwOk w w.heap.size x := h.1
theorem RwFresh.below {w w' : World} {base : Nat} {x : Rw} (h : RwFresh w base x) (hb : Below w.heap.size w w') : RwFresh w' base x := ColFresh.below h hb
/-- values of the call's own, and how it went -/
def EachV (ls : List (List Int)) (er : Int) (w : World) (e : Ending) (w' : World) : Prop :=
  ∃ v F', e = .returned (.tuple #[v, .int .i64 er]) ∧ w'.ownsRow w.heap.size 44 1 v F'.length (rws F') ∧ F'.map Rw.l = ls ∧ (∀ x ∈ F', RwFresh w' w.heap.size x) ∧ Below w.heap.size w w'
def eachQ (fl : Nat → Col → List Int) (fe : Nat → Col → Int) (F : List Col) : List (List Int) := if eachE fe 0 F = 0 then eachL fl 0 F else []
theorem rws_app (a b : List Rw) : rws (a ++ b) = rws a ++ rws b := by unfold rws; rw [List.map_append]
theorem rwFresh_own {w : World} {base n : Nat} {A : Option Addr} {c : Nat} {l : List Int} (h : w.ownsRow base 26 1 (.slice A n c) n (ids l)) (hw : ∀ y ∈ l, Word y) : RwFresh w base ⟨A, n, c, l⟩ := colFresh_own 0 0 h hw
theorem lit_reads1 (w : World) (t : TypeId) (cs : Array Value) {size n : Nat} (hn : cs.size = n * size) : Reads (w.alloc (.cells cs t)) (w.heap.size + 1) size (some ⟨w.heap.size, 0, none⟩) n cs.toList := by
  have h := lit_reads w t cs (size := size) (n := n) hn
  rw [World.size_alloc] at h
  exact h
set_option maxRecDepth 100000 in
set_option maxHeartbeats 8000000 in
theorem eachv_any (t : Tab) (g : Nat) (bp : Nat) (fp : Nat → Col → List Int) (fe : Nat → Col → Int) (w : World) (hcs : Reads w w.heap.size 3 t.CA t.Cn (cols t.F)) (hn : t.Cn ≤ 65536)
    (hg : ∀ args w, (callFunc g args).run Try.prog w = .ok (.enter g args) w)
    (hf : ∀ (k : Nat) x, t.F[k]? = some x → ∀ W, Below w.heap.size w W → Calls Try.prog g #[.int .i64 (k : Int), x.V, .pointer (some ⟨bp, 0, none⟩)] W (ValR (fp k x) (fe k x) W)) (hfw : ∀ (k : Nat) x, t.F[k]? = some x → ∀ y ∈ fp k x, Word y) :
    Calls Try.prog 80 #[t.V, .func (.func g) #[] #[.pointer (some ⟨bp, 0, none⟩)]] w (EachV (eachQ fp fe t.F) (eachE fe 0 t.F) w) := by
  obtain ⟨i0, hi0, hz0, hz1, hz2⟩ := info_parts info_val
  have hB := (Below.refl w.heap.size w).alloc (Nat.le_refl _) (.cells #[.slice t.TA t.Tn t.Tc, .slice t.CA t.Cn t.Cc, .slice t.EA t.En t.Ec] 25)
  obtain ⟨⟨c0, c1, c2⟩, _⟩ := blk_cells3 (Blk.new w 25 #[.slice t.TA t.Tn t.Tc, .slice t.CA t.Cn t.Cc, .slice t.EA t.En t.Ec])
  obtain ⟨TA, Tn, Tc, ty, CA, Cn, Cc, F, EA, En, Ec, es⟩ := t
  simp only at *
  have hFl : F.length = Cn := by have := hcs.1; rw [cols_len] at this; omega
  have L2 := Lib.hid hFl
  unfold Tab.V
  simp only
  go_enter Try.func80, Try.ntmps80
  go_wp2_with fail
  clear c0 c1 c2
  go_loopw [6, 14] (fun o i wr => ∃ k : Nat, k ≤ Cn ∧ i = .int .i64 k ∧ (∀ j y, j < k → F[j]? = some y → fe (0 + j) y = 0) ∧ Below w.heap.size w wr ∧
      ∃ F', wr.ownsRow w.heap.size 44 1 o F'.length (rws F') ∧ F'.map Rw.l = eachL fp 0 (F.take k) ∧ ∀ x ∈ F', RwFresh wr w.heap.size x)
    (fun _ i _ => Cn - (intOf i).toNat)
  case atStart => exact ⟨0, Nat.zero_le _, rfl, fun j y h => absurd h (by omega), hB, [], World.ownsRow_nil _ _ _ _, rfl, by simp⟩
  case round =>
    obtain ⟨k, hk, rfl, hall, hb, F', ho, hp, hfr⟩ := hrel
    have hF'l : F'.length = k := by
      have h1 := congrArg List.length hp
      rw [List.length_map, eachL_len, List.length_take, L2.out, Nat.min_eq_left hk] at h1
      exact h1
    by_cases hlt : k < Cn
    · have e1 := List.getElem?_eq_getElem (l := F) (i := k) (by rw [L2.out]; exact hlt)
      generalize F[k]'(by rw [L2.out]; exact hlt) = x at e1
      obtain ⟨b, off, rfl, hbl, gc⟩ := cols_cells hcs e1
      obtain ⟨g0, g1, g2⟩ := gc.below hb hbl
      have cf := fun (o : Obj) => hf k x e1 (wr.alloc o) (hb.alloc hb.size o)
      have HT := Lib.hid (eachL_take fp e1)
      have HWD := Lib.hid (hfw k x e1)
      have HS := Lib.hid (eachE_stop fe F 0 k x hall e1)
      have HALL := Lib.hid hall
      have HE1 := Lib.hid e1
      have HO := Lib.hid ho
      have HP := Lib.hid hp
      have HFR := Lib.hid hfr
      have HF := Lib.hid hF'l
      obtain ⟨Ao, co, rfl⟩ := own_slice ho
      have HFL := Lib.hid (show F'.length ≤ 65536 by omega)
      clear hcs hf hfw e1 gc ho hp hfr hall hF'l hFl
      unfold Col.V colV ValR at cf
      rw [Nat.zero_add] at HS
      generalize fp k x = pk at *
      generalize hfe : fe k x = ek at *
      have HFE := Lib.hid hfe
      clear hfe
      obtain ⟨xW, xR, xA, xn, xc, xl⟩ := x
      simp only at g0 g1 g2 cf
      by_cases hek : ek = 0
      · subst hek
        go_wp2_with (first
          | ((with_reducible refine (cf _).mono ?_); rintro en w2 ⟨vv, rfl, hov, hb2⟩; obtain ⟨xA', xc', rfl⟩ := own_slice hov; have HOV := Lib.hid hov; clear hov)
          | (at_builtin
             refine wpList_append_any _ rfl (.tmp 29) (.tmp 31) _ rfl w.heap.size 44 i0 _ 1 24 Try.underlying28 hi0 hz0 hz1 hz2 rfl (by omega) _ F'.length (rws F') rfl
               ?_ (w2.heap.size + 1) (some ⟨w2.heap.size, 0, none⟩) 1 1 [.slice xA' pk.length xc'] rfl ?_ (by simp [Value.oneCell']) (by have := HFL.out; simp only [maxLen]; omega) (by have := HFL.out; omega) ?_ ?_
             · exact (own_below (HO.out.alloc _) hb2).alloc _
             · exact lit_reads1 _ _ _ rfl
             · exact Nat.le_trans hb.size (by have := hb2.size; simp at this ⊢; omega)
             intro v1 w1 hown1 hg1 hat1)
          | fail)
        have hb3 : Below w.heap.size w w2 := (hb.alloc hb.size _).trans (hb2.mono (by have := hb.size; simp; omega))
        have hz3 := hb3.size
        have hb4 := own_grown_below (hb3.alloc hz3 (.cells #[.slice xA' pk.length xc'] 44)) ((own_below (HO.out.alloc _) hb2).alloc _) hg1
        go_roundw
        case rel =>
          refine ⟨k + 1, by omega, by go_num, fun j y hj hy => ?_, hb4, F' ++ [⟨xA', pk.length, xc', pk⟩], ?_, ?_, fun y hy => ?_⟩
          · by_cases hjk : j = k
            · subst hjk
              rw [HE1.out] at hy; injection hy with hy
              subst hy
              rw [Nat.zero_add]; exact HFE.out
            · exact HALL.out j y (by omega) hy
          · rw [rws_app, List.length_append]; exact hown1
          · rw [List.map_append, HP.out, HT.out]
            rfl
          · have hk1 := (own_below (HO.out.alloc (.cells #[.int .i64 xW, .int .i64 xR, .slice xA xn xc] 68)) hb2).alloc (.cells #[.slice xA' pk.length xc'] 44)
            have hstep : ∀ z, RwFresh w2 w.heap.size z → RwFresh w1 w.heap.size z := fun z hz =>
              colFresh_grown (hz.below ((Below.refl _ w2).alloc (Nat.le_refl _) _)) hk1 (by decide) hg1
            rcases List.mem_append.1 hy with hy | hy
            · exact hstep y (((HFR.out y hy).below ((Below.refl _ wr).alloc (Nat.le_refl _) _)).below hb2)
            · rw [List.mem_singleton] at hy; subst hy
              exact hstep _ (colFresh_base (rwFresh_own HOV.out HWD.out) (by have := hb.size; simp; omega))
        case measure => simp [intOf]; omega
      · have hekn : (ek != 0) = true := by simpa using hek
        go_wp2_with (first
          | ((with_reducible refine (cf _).mono ?_); rintro en w2 ⟨vv, rfl, hov, hb2⟩; obtain ⟨xA', xc', rfl⟩ := own_slice hov; have HOV := Lib.hid hov; clear hov)
          | fail)
        try rw [Exit.noGoto_ret]
        go_ret2
        have hes := HS.out hek
        show EachV _ _ w _ _
        have hfin : EachV (eachQ fp fe F) (eachE fe 0 F) w = EachV [] ek w := by unfold eachQ; rw [if_neg (by rw [hes]; exact hek), hes]
        rw [hfin]
        refine ⟨_, [], rfl, World.ownsRow_nil _ _ _ _, rfl, by simp, ?_⟩
        exact (hb.alloc hb.size _).trans (hb2.mono (by have := hb.size; simp; omega))
    · have : k = Cn := by omega
      subst this
      rw [List.take_of_length_le (by rw [L2.out]; omega)] at hp
      have hE := eachE_all fe F 0 (fun j y hy => hall j y (by have := (List.getElem?_eq_some_iff.1 hy).1; rw [L2.out] at this; exact this) hy)
      have hfin : EachV (eachQ fp fe F) (eachE fe 0 F) w = EachV (eachL fp 0 F) 0 w := by unfold eachQ; rw [hE, if_pos rfl]
      have HFIN := Lib.hid hfin
      have HO := Lib.hid ho
      have HP := Lib.hid hp
      have HFR := Lib.hid hfr
      obtain ⟨Ao, co, rfl⟩ := own_slice ho
      clear hcs hf hfw ho hp hfr hall hF'l hFl hE hfin
      go_wp2_with fail
      go_ret2
      show EachV _ _ w _ _
      rw [HFIN.out]
      exact ⟨_, F', rfl, HO.out, HP.out, HFR.out, hb⟩
end Go.Proofs.Ytbcbknajhdaneaa
