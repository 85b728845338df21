/- What is proved: the law's TraitExclusive returns true. -/
import Derived.Test.YtibjelonabhcmaaDoorTvM
import Derived.Test.YtibjelonabhcmaaDoorHeld
namespace Go.Proofs.YtibjelonabhcmaaDoor
open Go.RowKit
set_option linter.unusedVariables false
set_option linter.unusedSimpArgs false
/-- what is left behind k rounds -/
def LeftAt (l G : List Int) (k : Nat) (v : Value) (w : World) : Prop := ∃ A c, v = .slice A (leftL l (G.take k)).length c ∧ (NilOk A (leftL l (G.take k)).length c ∧ (leftL l (G.take k)).length ≤ c ∧ c ≤ 9223372036854775807) ∧ Reads w w.heap.size 1 A (leftL l (G.take k)).length (ids (leftL l (G.take k)))
theorem LeftAt.mk {l G Q : List Int} {k m : Nat} {A : Option Addr} {c : Nat} {w : World} (hQ : leftL l (G.take k) = Q) (hm : Q.length = m) (hn : NilOk A m c ∧ m ≤ c ∧ c ≤ 9223372036854775807) (hr : Reads w w.heap.size 1 A m (ids Q)) : LeftAt l G k (.slice A m c) w := by
  subst hQ hm; exact ⟨A, c, rfl, hn, hr⟩
theorem LeftAt.open_ {l G Q : List Int} {k m : Nat} {v : Value} {w : World} (h : LeftAt l G k v w) (hQ : leftL l (G.take k) = Q) (hm : Q.length = m) : ∃ A c, v = .slice A m c ∧ (NilOk A m c ∧ m ≤ c ∧ c ≤ 9223372036854775807) ∧ Reads w w.heap.size 1 A m (ids Q) := by
  subst hQ hm; exact h
def HeldX (W0 : World) (b : Nat) (i : Int) (w' : World) : Prop := w'.cell? ⟨b, 0, none⟩ = some (.int .i64 i) ∧ w'.cell? ⟨b, 2, none⟩ = some (.bool true) ∧ Below W0.heap.size W0 w'
theorem HeldX.keep {W0 w w' : World} {b : Nat} {i : Int} (h : HeldX W0 b i w) (hb : Below w.heap.size w w') (hl : b < W0.heap.size) : HeldX W0 b i w' :=
  ⟨cell_below' hb h.1 (Nat.lt_of_lt_of_le hl h.2.2.size), cell_below' hb h.2.1 (Nat.lt_of_lt_of_le hl h.2.2.size), h.2.2.trans (hb.mono h.2.2.size)⟩
def TgtC (m : Nat) (w : World) (e : Ending) (w' : World) : Prop := ∃ A c, e = .returned (.slice A m c) ∧ Below w.heap.size w w'
theorem tgt_c {A : Option Addr} {n c m : Nat} {ls : List WInt} {r : Int} {w : World} (hR : Reads w w.heap.size 1 A n (ids (vals ls))) (hn : n ≤ 281474976710656) (hm : (sel ls (pq fun a _ => a == r)).length = m) :
    Calls Tryd.prog 34 #[.slice A n c, .int .i64 r] w (TgtC m w) := by
  refine (targets_any A n c ls r w hR hn).mono ?_
  rintro e w' ⟨v, rfl, ho, hb⟩
  obtain ⟨A', c', rfl, _, _⟩ := own_cap ho
  subst hm
  exact ⟨A', c', rfl, hb⟩
set_option maxRecDepth 100000 in
set_option maxHeartbeats 16000000 in
theorem excl_law (A : Option Addr) (n c : Nat) (l : List Rel) (A2 : Option Addr) (n2 c2 : Nat) (l2 : List WInt) (id : Int) (w : World) (hE : Env w) (hR : Reads w w.heap.size 6 A n (rels l)) (hnc : n ≤ c) (hn : c ≤ 281474976710656)
    (hR2 : Reads w w.heap.size 1 A2 n2 (ids (vals l2))) (hnc2 : n2 ≤ c2) (hn2 : c2 ≤ 281474976710656) (hidw : Word id) :
    Calls Tryd.prog 7 #[.slice A n c, .slice A2 n2 c2, .int .u64 id] w fun e w' => e = .returned (.bool true) ∧ Below w.heap.size w w' := by
  obtain ⟨L, hL⟩ : ∃ L, l.take 201 = L := ⟨_, rfl⟩
  obtain ⟨m, hm⟩ : ∃ m, L.length = m := ⟨_, rfl⟩
  have hm2 : m ≤ 201 := by rw [← hm, ← hL, List.length_take]; omega
  obtain ⟨H, hH⟩ : ∃ H, l2.take 14 = H := ⟨_, rfl⟩
  have hq : ∃ q, q ≤ 14 ∧ H.length = q ∧ q ≤ n2 ∧ ((14 < n2 ∧ q = 14) ∨ (n2 ≤ 14 ∧ q = n2)) := by
    have hl2 : l2.length = n2 := by have := hR2.1; rw [ids_len] at this; unfold vals at this; rw [List.length_map] at this; omega
    refine ⟨H.length, ?_, rfl, ?_, ?_⟩
    all_goals (rw [← hH, List.length_take]; omega)
  obtain ⟨q, hq14, hHq, hqn, hq2⟩ := hq
  have hRH : Reads w w.heap.size 1 A2 q (ids (vals H)) := by
    have h1 : vals H = (vals l2).take q := by
      have hl2 : l2.length = n2 := by have := hR2.1; rw [ids_len] at this; unfold vals at this; rw [List.length_map] at this; omega
      rw [← hH]
      unfold vals
      rw [← List.map_take]
      congr 1
      rcases hq2 with ⟨_, rfl⟩ | ⟨_, rfl⟩
      · rfl
      · rw [List.take_of_length_le (by omega), List.take_of_length_le (by omega)]
    rw [h1]; exact hR2.pre1 hqn
  obtain ⟨G, hG⟩ : ∃ G, replL L H id = G := ⟨_, rfl⟩
  obtain ⟨g, hg⟩ : ∃ g, G.length = g := ⟨_, rfl⟩
  have hB := Below.refl w.heap.size w
  have cw := fun (W : World) (h : Below w.heap.size w W) => wakes_any W (hE.below h)
  have cf := fun (W : World) (h : Below w.heap.size w W) => few_c (w := W) (c := c) ((hR.below h).more h.size) hnc hn hL hm
  have ch := fun (W : World) (h : Below w.heap.size w W) => clone_idn A2 q c2 (vals H) W ((hRH.below h).more h.size) (by omega)
  have cr := fun (W : World) (h : Below w.heap.size w W) (A : Option Addr) (c : Nat) (hR : Reads W W.heap.size 6 A m (rels L)) (A2 : Option Addr) (c2 : Nat) (hR2 : Reads W W.heap.size 1 A2 q (ids (vals H))) =>
    (repl_any A m c L A2 q c2 H id W (hE.below h) hR (by omega) hR2 (by omega) hidw).mono (fun e w' h => OwnI.rown (m := g) h (by rw [hG]; exact hg))
  have cc := fun (W : World) (h : Below w.heap.size w W) (A : Option Addr) (c : Nat) (hR : Reads W W.heap.size 6 A m (rels L)) => check_any A m c L W (hE.below h) hR (by omega)
  have ct := fun (W : World) (A : Option Addr) (c : Nat) (hR : Reads W W.heap.size 1 A q (ids (vals H))) => tcheck_any A q c (vals H) W hR (vals_word H) (by omega)
  rw [hG] at cr
  have key : (chkE L = 230 ∧ G = []) ∨ (chkE L = 0 ∧ tyE (vals H) = 130 ∧ G = []) ∨ (chkE L = 0 ∧ tyR (vals H) = true ∧ tyE (vals H) = 0) := by
    unfold chkE tyE
    rw [← hG]
    cases h1 : right L
    · left; exact ⟨rfl, repl_bad h1⟩
    · cases h2 : tyR (vals H)
      · right; left; exact ⟨rfl, rfl, repl_none h2⟩
      · right; right; exact ⟨rfl, rfl, rfl⟩
  have hLm := Lib.hid hm
  clear hE hR hR2 hRH hL hH hm
  have hqc : q ≤ c2 := by omega
  rcases key with ⟨k1, k2⟩ | ⟨k1, k2, k3⟩ | ⟨k1, k2, k3⟩
  · rw [k1] at cc
    subst k2
    have hg0 : g = 0 := hg.symm
    subst hg0
    clear k1 hG hg ct hLm
    rcases hq2 with ⟨q1, rfl⟩ | ⟨q1, rfl⟩
    all_goals
      go_enter Tryd.func7, Tryd.ntmps7
      go_wp2_with (first
        | (go_at_call 8; ((with_reducible refine (cw _ hB).mono ?_); rintro e w1 ⟨rfl, hb1⟩; have hB := hB.trans (hb1.mono hB.size)))
        | (go_at_call 9; ((with_reducible refine (cf _ hB).mono ?_); rintro e w2 ⟨A2, c2, rfl, HR, hc2, hb2⟩; have hB := hB.trans (hb2.mono hB.size); have h2 := Below.refl w2.heap.size w2))
        | (go_at_call 17; ((with_reducible refine (ch _ hB).mono ?_); rintro e w3 ⟨A3, c3, rfl, hn3, HH, hb3⟩; have hB := hB.trans (hb3.mono hB.size); have h2 := h2.trans (hb3.mono h2.size)))
        | (go_at_call 30; ((with_reducible refine (cr _ hB _ _ ((HR.below h2).more h2.size) _ _ HH).mono ?_); rintro e w4 ⟨A4, c4, rfl, hn4, HG, hb4⟩; have hB := hB.trans (hb4.mono hB.size); have h2 := h2.trans (hb4.mono h2.size)))
        | (go_at_call 10; ((with_reducible refine (cc _ hB _ _ ((HR.below h2).more h2.size)).mono ?_); rintro e w5 ⟨rfl, hb5⟩; have hB := hB.trans (hb5.mono hB.size)))
        | fail)
      go_ret
      exact ⟨rfl, hB⟩
  · rw [k1] at cc
    rw [k2] at ct
    subst k3
    have hg0 : g = 0 := hg.symm
    subst hg0
    clear k1 k2 hG hg hLm
    rcases hq2 with ⟨q1, rfl⟩ | ⟨q1, rfl⟩
    all_goals
      go_enter Tryd.func7, Tryd.ntmps7
      go_wp2_with (first
        | (go_at_call 8; ((with_reducible refine (cw _ hB).mono ?_); rintro e w1 ⟨rfl, hb1⟩; have hB := hB.trans (hb1.mono hB.size)))
        | (go_at_call 9; ((with_reducible refine (cf _ hB).mono ?_); rintro e w2 ⟨A2, c2, rfl, HR, hc2, hb2⟩; have hB := hB.trans (hb2.mono hB.size); have h2 := Below.refl w2.heap.size w2))
        | (go_at_call 17; ((with_reducible refine (ch _ hB).mono ?_); rintro e w3 ⟨A3, c3, rfl, hn3, HH, hb3⟩; have hB := hB.trans (hb3.mono hB.size); have h2 := h2.trans (hb3.mono h2.size); have h3 := Below.refl w3.heap.size w3))
        | (go_at_call 30; ((with_reducible refine (cr _ hB _ _ ((HR.below h2).more h2.size) _ _ HH).mono ?_); rintro e w4 ⟨A4, c4, rfl, hn4, HG, hb4⟩; have hB := hB.trans (hb4.mono hB.size); have h2 := h2.trans (hb4.mono h2.size); have h3 := h3.trans (hb4.mono h3.size)))
        | (go_at_call 10; ((with_reducible refine (cc _ hB _ _ ((HR.below h2).more h2.size)).mono ?_); rintro e w5 ⟨rfl, hb5⟩; have hB := hB.trans (hb5.mono hB.size); have h3 := h3.trans (hb5.mono h3.size)))
        | (go_at_call 18; ((with_reducible refine (ct _ _ _ ((HH.below h3).more h3.size)).mono ?_); rintro e w6 ⟨rfl, hb6⟩; have hB := hB.trans (hb6.mono hB.size)))
        | fail)
      go_ret
      exact ⟨rfl, hB⟩
  · rw [k1] at cc
    rw [k3] at ct
    have hI : I (vals H) := (tyR_iff _).1 k2
    have hnd : G.Nodup := by rw [← hG]; exact repl_nodup k2
    have hmem : ∀ y ∈ G, y ∈ vals H ∧ y ≠ id := fun y hy => by rw [← hG] at hy; have := repl_mem k2 hy; exact ⟨this.1, this.2.1⟩
    have hcount := fun (M : List WInt) (hM : vals M = insI (leftL (vals H) G) id) (hMt : tyR (vals M) = true) (hne : G ≠ []) (r : Int) => excl_count (L := L) k2 (by rw [hG]; exact hne) (by rw [hG]; exact hM) hMt r
    have HI := Lib.hid hI
    have HND := Lib.hid hnd
    have HMEM := Lib.hid hmem
    have HCOUNT := Lib.hid hcount
    have HG0 := Lib.hid hg
    have HHq := Lib.hid hHq
    have hg14 : g ≤ 12 := by rw [← hg, ← hG]; exact repl_len L H id
    clear k1 k2 k3 hG hg hI hnd hmem hcount hHq
    rcases hq2 with ⟨q1, hq9⟩ | ⟨q1, hq9⟩
    all_goals
      subst hq9
      go_enter Tryd.func7, Tryd.ntmps7
      go_wp2_with (first
        | (go_at_call 8; ((with_reducible refine (cw _ hB).mono ?_); rintro e w1 ⟨rfl, hb1⟩; have hB := hB.trans (hb1.mono hB.size)))
        | (go_at_call 9; ((with_reducible refine (cf _ hB).mono ?_); rintro e w2 ⟨A2, c2, rfl, HR, hc2, hb2⟩; have hB := hB.trans (hb2.mono hB.size); have h2 := Below.refl w2.heap.size w2))
        | (go_at_call 17; ((with_reducible refine (ch _ hB).mono ?_); rintro e w3 ⟨A3, c3, rfl, hn3, HH, hb3⟩; have hB := hB.trans (hb3.mono hB.size); have h2 := h2.trans (hb3.mono h2.size); have h3 := Below.refl w3.heap.size w3))
        | (go_at_call 30; ((with_reducible refine (cr _ hB _ _ ((HR.below h2).more h2.size) _ _ HH).mono ?_); rintro e w4 ⟨A4, c4, rfl, hn4, HG, hb4⟩; have hB := hB.trans (hb4.mono hB.size); have h2 := h2.trans (hb4.mono h2.size); have h3 := h3.trans (hb4.mono h3.size); have h4 := Below.refl w4.heap.size w4))
        | (go_at_call 10; ((with_reducible refine (cc _ hB _ _ ((HR.below h2).more h2.size)).mono ?_); rintro e w5 ⟨rfl, hb5⟩; have hB := hB.trans (hb5.mono hB.size); have h2 := h2.trans (hb5.mono h2.size); have h3 := h3.trans (hb5.mono h3.size); have h4 := h4.trans (hb5.mono h4.size)))
        | (go_at_call 18; ((with_reducible refine (ct _ _ _ ((HH.below h3).more h3.size)).mono ?_); rintro e w6 ⟨rfl, hb6⟩; have hB := hB.trans (hb6.mono hB.size); have h2 := h2.trans (hb6.mono h2.size); have h3 := h3.trans (hb6.mono h3.size); have h4 := h4.trans (hb6.mono h4.size); have HR6 := (HR.below h2).more h2.size; have HH6 := (HH.below h3).more h3.size; have HG6 := (HG.below h4).more h4.size))
        | fail)
      clear cw cf ch cc ct cr HR HH HG h2 h3 h4 hb1 hb2 hb3 hb4 hb5 hb6
      go_loopw [9, 46] (fun v i wr => ∃ k : Nat, k ≤ g ∧ i = .int .i64 k ∧ LeftAt (vals H) G k v wr ∧ Below w.heap.size w wr ∧ Below w6.heap.size w6 wr)
        (fun _ i _ => g - (intOf i).toNat)
      case atStart => exact ⟨0, Nat.zero_le _, rfl, LeftAt.mk (by rw [List.take_zero, leftL_nil]) (by unfold vals; rw [List.length_map]; exact HHq.out) hn3 HH6, hB, Below.refl _ _⟩
      case round =>
        clear hB hn3
        obtain ⟨k, hk, rfl, hleft, hB, hb⟩ := hrel
        obtain ⟨Q, hQ⟩ : ∃ Q, leftL (vals H) (G.take k) = Q := ⟨_, rfl⟩
        obtain ⟨mq, hmq⟩ : ∃ mq, Q.length = mq := ⟨_, rfl⟩
        obtain ⟨A9, c9, rfl, hn9, hr9⟩ := hleft.open_ hQ hmq
        have hIQ : I Q := by rw [← hQ]; exact leftL_ok HI.out _
        have hmq12 : mq ≤ 12 := by rw [← hmq]; exact hIQ.len
        have hWQ : ∀ x ∈ Q, Word x := fun x hx => by rw [← hQ] at hx; exact vals_word H x ((leftL_mem _ _ _).1 hx).1
        clear hleft
        by_cases hlt : k < g
        · have hgl := HG0.out
          have e1 := List.getElem?_eq_getElem (l := G) (i := k) (by omega)
          generalize G[k]'(by omega) = y at e1
          obtain ⟨b, off, rfl, hbl, gy⟩ := ids_cell HG6 e1
          have g1 := cell_below' hb gy hbl
          have hs := left_step HI.out HND.out (fun x hx => (HMEM.out x hx).1) e1
          rw [hQ] at hs
          have hyid : (y == id) = false := by have := (HMEM.out y (List.mem_of_getElem? e1)).2; simpa using this
          have i1 : (k : Int) < (g : Int) := by omega
          have co := two_any A9 mq c9 Q y wr hr9 hWQ (by omega)
          rw [hs.1, hs.2] at co
          obtain ⟨Q', hQ'⟩ : ∃ Q', leftL (vals H) (G.take (k + 1)) = Q' := ⟨_, rfl⟩
          obtain ⟨mq', hmq'⟩ : ∃ mq', Q'.length = mq' := ⟨_, rfl⟩
          rw [hQ'] at co
          have co := co.mono (fun e w' h => OwnJ.rown h hmq')
          have HQ' := Lib.hid hQ'
          have HM' := Lib.hid hmq'
          clear hgl e1 gy hs hQ' hmq' hQ hmq hIQ hWQ hr9 HR6 HH6
          go_wp2_with (first
            | (go_at_call 31; ((with_reducible refine co.mono ?_); rintro e w8 ⟨A8, c8, rfl, hn8, hr8, hb8⟩))
            | fail)
          go_roundw
          case rel => exact ⟨k + 1, by omega, by go_num, LeftAt.mk HQ'.out HM'.out hn8 hr8, hB.trans (hb8.mono hB.size), hb.trans (hb8.mono hb.size)⟩
          case measure => simp [intOf]; omega
        · have hkg : g = k := by omega
          subst hkg
          have hGt : G.take g = G := List.take_of_length_le (by rw [HG0.out]; omega)
          rw [hGt] at hQ
          have hR9 := fun (W : World) (h : Below wr.heap.size wr W) => (HR6.below (hb.trans (h.mono hb.size))).more (Nat.le_trans hb.size h.size)
          have hH9 := fun (W : World) (h : Below wr.heap.size wr W) => (HH6.below (hb.trans (h.mono hb.size))).more (Nat.le_trans hb.size h.size)
          have ci := twi_any A9 mq c9 Q id wr hn9.1 hr9 hWQ hidw hn9.2.1 (by omega) hn9.2.2
          have hty : tyE Q = 0 := by unfold tyE; rw [(tyR_iff Q).2 hIQ]; rfl
          clear HR6 HH6 HG6 hn4 hr9 hWQ hGt hlt
          rcases twi_ways Q id with ⟨k1, k8, k9⟩ | ⟨k1, k2, k8, k9⟩ | ⟨k1, k2, k3, k8, k9⟩ | ⟨k1, k2, k3, k8, k9⟩
          · rw [hty] at k1; cases k1
          · rw [k8, k9] at ci
            have ci := ci.mono (fun e w' h => OwnJ.rown (m := 0) h rfl)
            clear k1 k2 k8 k9 hQ hmq hIQ hty hR9 hH9
            go_wp2_with (first
              | (go_at_call 32; ((with_reducible refine ci.mono ?_); rintro e w8 ⟨A8, c8, rfl, hn8, hr8, hb8⟩))
              | fail)
            try rw [Exit.noGoto_ret]
            go_ret
            exact ⟨rfl, hB.trans (hb8.mono hB.size)⟩
          · rw [k8, k9] at ci
            have ci := ci.mono (fun e w' h => OwnJ.rown (m := 0) h rfl)
            clear k1 k2 k3 k8 k9 hQ hmq hIQ hty hR9 hH9
            go_wp2_with (first
              | (go_at_call 32; ((with_reducible refine ci.mono ?_); rintro e w8 ⟨A8, c8, rfl, hn8, hr8, hb8⟩))
              | fail)
            try rw [Exit.noGoto_ret]
            go_ret
            exact ⟨rfl, hB.trans (hb8.mono hB.size)⟩
          · have hIN := insI_ok hIQ k2 k3
            obtain ⟨M, hM⟩ := wints (insI Q id) (fun x hx => by
              rcases (insI_mem hIQ x).1 hx with h1 | rfl
              · rw [← hQ] at h1; exact vals_word H x ((leftL_mem _ _ _).1 h1).1
              · exact hidw)
            have hMt : tyR (vals M) = true := by rw [hM]; exact (tyR_iff _).2 hIN
            have hhas := has_more hIQ hM hMt
            obtain ⟨mm, hmm⟩ : ∃ mm, (insI Q id).length = mm := ⟨_, rfl⟩
            have hmm12 : mm ≤ 12 := by rw [← hmm]; exact k3
            rw [k8, k9] at ci
            have ci := ci.mono (fun e w' h => OwnJ.rown h hmm)
            rw [← hM] at ci
            have hcnt := fun (hne : G ≠ []) (r : Int) => HCOUNT.out M (by rw [hQ]; exact hM) hMt hne r
            have HCNT := Lib.hid hcnt
            have HHAS := Lib.hid hhas
            have HR9 := Lib.hid hR9
            have HH9 := Lib.hid hH9
            clear k1 k2 k3 k8 k9 hQ hmq hIQ hty hIN hM hMt hmm hcnt hhas hR9 hH9
            go_wp2_with (first
              | (go_at_call 32; ((with_reducible refine ci.mono ?_); rintro e w8 ⟨A8, c8, rfl, hn8, hr8, hb8⟩))
              | fail)
            have hB8 := hB.trans (hb8.mono hB.size)
            have HR8 := HR9.out w8 hb8
            have HH8 := HH9.out w8 hb8
            clear ci HR9 HH9 hB hb hn8 hn9
            go_loopw [75] (fun i wq => ∃ k : Nat, k ≤ m ∧ i = .int .i64 k ∧ Below w.heap.size w wq ∧ Below w8.heap.size w8 wq)
              (fun i _ => m - (intOf i).toNat)
            case atStart => exact ⟨0, Nat.zero_le _, rfl, hB8, Below.refl _ _⟩
            case round =>
              clear hB8
              obtain ⟨k, hk, rfl, hB, hb⟩ := hrel
              by_cases hlt : k < m
              · have hLm2 := hLm.out
                have e1 := List.getElem?_eq_getElem (l := L) (i := k) (by omega)
                generalize L[k]'(by omega) = x at e1
                obtain ⟨b, off, rfl, hbl, gx⟩ := rels_cells HR8 e1
                obtain ⟨g10, g11, g12, g13, g14, g15⟩ := gx.below hb hbl
                obtain ⟨xi, xa, xe, xw, xt, xr⟩ := x
                dsimp only at g10 g11 g12 g13 g14 g15
                have i1 : (k : Int) < (m : Int) := by omega
                have HB := Lib.hid hB
                have HBB := Lib.hid hb
                have hH2 := (HH8.below hb).more hb.size
                have hM2 := (hr8.below hb).more hb.size
                obtain ⟨hb0, hsz, x0, x1, x2, x3, x4, x5⟩ := new6 (w := wr) (t := 31) (v0 := .int .i64 xi) (v1 := .bool xa) (v2 := .bool xe) (v3 := .int .i64 xw) (v4 := .int .i64 xt) (v5 := .int .i64 xr) rfl
                have hrest := Lib.hid hB
                have hrest2 := Lib.hid hb
                clear hLm2 e1 HR8 HH8 hr8 gx hB hb x1 x3 x4 x5
                cases xe
                · have y2 := fun p : Later (wr.alloc (Obj.cells #[.int .i64 xi, .bool xa, .bool false, .int .i64 xw, .int .i64 xt, .int .i64 xr] 31)) => p.cell x2 hsz
                  clear x0 x2 hb0
                  go_wp2_with fail
                  refine wp_later (by kernel_rfl) (by kernel_rfl) ?_
                  repeat (go_big_quiet_step (fail))
                  refine wpQuiet_nil ?_
                  rintro _ ⟨p, rfl⟩
                  have hp := p.h
                  go_wp2_with fail
                  go_roundw
                  case rel => exact ⟨k + 1, by omega, by go_num, (hrest.out.alloc hrest.out.size _).trans (hp.mono (Nat.le_trans hrest.out.size (Nat.le_of_lt hsz))), (hrest2.out.alloc hrest2.out.size _).trans (hp.mono (Nat.le_trans hrest2.out.size (Nat.le_of_lt hsz)))⟩
                  case measure => simp [intOf]; omega
                · by_cases hg0 : 0 < g
                  · have t1 : decide ((0 : Int) < (g : Int)) = true := decide_eq_true (by omega)
                    obtain ⟨a, ha⟩ : ∃ a, (sel M (pq fun a _ => a == xi)).length = a := ⟨_, rfl⟩
                    obtain ⟨b2, hb2⟩ : ∃ b, (sel H (pq fun a _ => a == xi)).length = b := ⟨_, rfl⟩
                    have hab : a ≤ b2 := by
                      have hne : G ≠ [] := fun h => by have := HG0.out; rw [h] at this; simp at this; omega
                      rw [← ha, ← hb2]; exact HCNT.out hne xi
                    have t2 : decide ((b2 : Int) < (a : Int)) = false := decide_eq_false (by omega)
                    have t3 : decide (b2 < a) = false := decide_eq_false (by omega)
                    have ch2 := fun (W : World) (h : Below (wr.alloc (Obj.cells #[.int .i64 xi, .bool xa, .bool true, .int .i64 xw, .int .i64 xt, .int .i64 xr] 31)).heap.size (wr.alloc (Obj.cells #[.int .i64 xi, .bool xa, .bool true, .int .i64 xw, .int .i64 xt, .int .i64 xr] 31)) W) => has_any A8 mm c8 M id W ((hM2.below (hb0.trans (h.mono hb0.size))).more (Nat.le_trans hb0.size h.size)) (by omega)
                    rw [HHAS.out] at ch2
                    have ct2 := fun (W : World) (h : Below (wr.alloc (Obj.cells #[.int .i64 xi, .bool xa, .bool true, .int .i64 xw, .int .i64 xt, .int .i64 xr] 31)).heap.size (wr.alloc (Obj.cells #[.int .i64 xi, .bool xa, .bool true, .int .i64 xw, .int .i64 xt, .int .i64 xr] 31)) W) => tgt_c (c := c8) (w := W) (r := xi) ((hM2.below (hb0.trans (h.mono hb0.size))).more (Nat.le_trans hb0.size h.size)) (by omega) ha
                    have ct3 := fun (W : World) (h : Below (wr.alloc (Obj.cells #[.int .i64 xi, .bool xa, .bool true, .int .i64 xw, .int .i64 xt, .int .i64 xr] 31)).heap.size (wr.alloc (Obj.cells #[.int .i64 xi, .bool xa, .bool true, .int .i64 xw, .int .i64 xt, .int .i64 xr] 31)) W) => tgt_c (c := c3) (w := W) (r := xi) ((hH2.below (hb0.trans (h.mono hb0.size))).more (Nat.le_trans hb0.size h.size)) (by omega) hb2
                    clear hM2 hH2 ha hb2 hab
                    go_wp2_with fail
                    refine wp_region_held_drew (S := fun w' => HeldX (wr.alloc (Obj.cells #[.int .i64 xi, .bool xa, .bool true, .int .i64 xw, .int .i64 xt, .int .i64 xr] 31)) wr.heap.size xi w') (by kernel_rfl) ⟨x0, x2, (Below.refl _ _).drew⟩ (fun hHeld => ?_)
                    refine wpAnyH_take (i := 0) (oi := _) (v := ?_) rfl (by kernel_rfl) (by kernel_rfl) (by kernel_rfl) (fun _ _ _ h => h) (Or.inl ⟨by rfl, ?_⟩) hHeld ?_
                    rotate_left
                    · intro w hSw; obtain ⟨hx0, hx2, hxB⟩ := hSw; go_simp; try with_reducible rfl
                    simp only [Act.put, List.getElem_toArray, List.getElem_cons_succ, List.getElem_cons_zero, List.setIfInBounds_toArray, List.set_cons_zero, List.set_cons_succ]
                    refine wpAnyH_take (i := 1) (oi := _) (v := ?_) rfl (by kernel_rfl) (by kernel_rfl) (by kernel_rfl) (fun _ _ _ h => h) (Or.inl ⟨by rfl, ?_⟩) hHeld ?_
                    rotate_left
                    · intro w hSw; obtain ⟨hx0, hx2, hxB⟩ := hSw; go_simp; try with_reducible rfl
                    simp only [Act.put, List.getElem_toArray, List.getElem_cons_succ, List.getElem_cons_zero, List.setIfInBounds_toArray, List.set_cons_zero, List.set_cons_succ]
                    refine wpAnyH_take (i := 2) (oi := _) (v := ?_) rfl (by kernel_rfl) (by kernel_rfl) (by kernel_rfl) (fun _ _ _ h => h) (Or.inl ⟨by rfl, ?_⟩) hHeld ?_
                    rotate_left
                    · intro w hSw; obtain ⟨hx0, hx2, hxB⟩ := hSw; go_simp; try with_reducible rfl
                    simp only [Act.put, List.getElem_toArray, List.getElem_cons_succ, List.getElem_cons_zero, List.setIfInBounds_toArray, List.set_cons_zero, List.set_cons_succ]
                    refine wpAnyH_take (i := 3) (oi := _) (v := ?_) rfl (by kernel_rfl) (by kernel_rfl) (by kernel_rfl) (fun _ _ _ h => h) (Or.inl ⟨by rfl, ?_⟩) hHeld ?_
                    rotate_left
                    · intro w hSw; obtain ⟨hx0, hx2, hxB⟩ := hSw; go_simp; try with_reducible rfl
                    simp only [Act.put, List.getElem_toArray, List.getElem_cons_succ, List.getElem_cons_zero, List.setIfInBounds_toArray, List.set_cons_zero, List.set_cons_succ]
                    refine wpAnyH_take (i := 4) (oi := _) (v := ?_) rfl (by kernel_rfl) (by kernel_rfl) (by kernel_rfl) (fun _ _ _ h => h) (Or.inl ⟨by rfl, ?_⟩) hHeld ?_
                    rotate_left
                    · intro w hSw; obtain ⟨hx0, hx2, hxB⟩ := hSw; go_simp; try with_reducible rfl
                    simp only [Act.put, List.getElem_toArray, List.getElem_cons_succ, List.getElem_cons_zero, List.setIfInBounds_toArray, List.set_cons_zero, List.set_cons_succ]
                    refine wpAnyH_take (i := 5) (oi := _) (v := ?_) rfl (by kernel_rfl) (by kernel_rfl) (by kernel_rfl) (fun _ _ _ h => h) (Or.inl ⟨by rfl, ?_⟩) hHeld ?_
                    rotate_left
                    · intro w hSw; obtain ⟨hx0, hx2, hxB⟩ := hSw; go_simp; try with_reducible rfl
                    simp only [Act.put, List.getElem_toArray, List.getElem_cons_succ, List.getElem_cons_zero, List.setIfInBounds_toArray, List.set_cons_zero, List.set_cons_succ]
                    refine wpAnyH_take (i := 6) (oi := _) (v := ?_) rfl (by kernel_rfl) (by kernel_rfl) (by kernel_rfl) (fun _ _ _ h => h) (Or.inl ⟨by rfl, ?_⟩) hHeld ?_
                    rotate_left
                    · intro w hSw; obtain ⟨hx0, hx2, hxB⟩ := hSw; go_simp; try with_reducible rfl
                    simp only [Act.put, List.getElem_toArray, List.getElem_cons_succ, List.getElem_cons_zero, List.setIfInBounds_toArray, List.set_cons_zero, List.set_cons_succ]
                    refine wpAnyH_take (i := 7) (oi := _) (v := ?_) rfl (by kernel_rfl) (by kernel_rfl) (by kernel_rfl) (fun _ _ _ h => h) (Or.inl ⟨by rfl, ?_⟩) hHeld ?_
                    rotate_left
                    · intro w hSw; obtain ⟨hx0, hx2, hxB⟩ := hSw; go_simp; try with_reducible rfl
                    simp only [Act.put, List.getElem_toArray, List.getElem_cons_succ, List.getElem_cons_zero, List.setIfInBounds_toArray, List.set_cons_zero, List.set_cons_succ]
                    refine wpAnyH_take (i := 8) (oi := _) (v := ?_) rfl (by kernel_rfl) (by kernel_rfl) (by kernel_rfl) (fun _ _ _ h => h) (Or.inl ⟨by rfl, ?_⟩) hHeld ?_
                    rotate_left
                    · intro w hSw; obtain ⟨hx0, hx2, hxB⟩ := hSw; go_simp; try with_reducible rfl
                    simp only [Act.put, List.getElem_toArray, List.getElem_cons_succ, List.getElem_cons_zero, List.setIfInBounds_toArray, List.set_cons_zero, List.set_cons_succ]
                    refine wpAnyH_take (i := 9) (oi := _) (v := ?_) rfl (by kernel_rfl) (by kernel_rfl) (by kernel_rfl) (fun _ _ _ h => h) (Or.inl ⟨by rfl, ?_⟩) hHeld ?_
                    rotate_left
                    · intro w hSw; obtain ⟨hx0, hx2, hxB⟩ := hSw; go_simp; try with_reducible rfl
                    simp only [Act.put, List.getElem_toArray, List.getElem_cons_succ, List.getElem_cons_zero, List.setIfInBounds_toArray, List.set_cons_zero, List.set_cons_succ]
                    refine wpAnyH_take (i := 10) (oi := _) (v := ?_) rfl (by kernel_rfl) (by kernel_rfl) (by kernel_rfl) (fun _ _ _ h => h) (Or.inl ⟨by rfl, ?_⟩) hHeld ?_
                    rotate_left
                    · intro w hSw; obtain ⟨hx0, hx2, hxB⟩ := hSw; go_simp; try with_reducible rfl
                    simp only [Act.put, List.getElem_toArray, List.getElem_cons_succ, List.getElem_cons_zero, List.setIfInBounds_toArray, List.set_cons_zero, List.set_cons_succ]
                    refine wpAnyH_ready (rs := [11]) (by kernel_rfl) (by simp) (AllReadyH.cons (o := _) rfl (fun K hK => ?_) AllReadyH.nil)
                    go_simp
                    go_at_call 33
                    refine (ch2 _ hHeld.2.2).mono ?_
                    rintro e w11 ⟨rfl, hb11⟩
                    refine hK.out _ _ (hHeld.keep hb11 hsz) (fun hHeld => ?_)
                    clear hK K
                    try simp only [Act.put, List.getElem_toArray, List.getElem_cons_succ, List.getElem_cons_zero, List.setIfInBounds_toArray, List.set_cons_zero, List.set_cons_succ]
                    refine wpAnyH_take (i := 12) (oi := _) (v := ?_) rfl (by kernel_rfl) (by kernel_rfl) (by kernel_rfl) (fun _ _ _ h => h) (Or.inl ⟨by rfl, ?_⟩) hHeld ?_
                    rotate_left
                    · intro w hSw; obtain ⟨hx0, hx2, hxB⟩ := hSw; go_simp; try with_reducible rfl
                    simp only [Act.put, List.getElem_toArray, List.getElem_cons_succ, List.getElem_cons_zero, List.setIfInBounds_toArray, List.set_cons_zero, List.set_cons_succ]
                    refine wpAnyH_take (i := 13) (oi := _) (v := ?_) rfl (by kernel_rfl) (by kernel_rfl) (by kernel_rfl) (fun _ _ _ h => h) (Or.inl ⟨by rfl, ?_⟩) hHeld ?_
                    rotate_left
                    · intro w hSw; obtain ⟨hx0, hx2, hxB⟩ := hSw; go_simp; try with_reducible rfl
                    simp only [Act.put, List.getElem_toArray, List.getElem_cons_succ, List.getElem_cons_zero, List.setIfInBounds_toArray, List.set_cons_zero, List.set_cons_succ]
                    refine wpAnyH_take (i := 14) (oi := _) (v := ?_) rfl (by kernel_rfl) (by kernel_rfl) (by kernel_rfl) (fun _ _ _ h => h) (Or.inl ⟨by rfl, ?_⟩) hHeld ?_
                    rotate_left
                    · intro w hSw; obtain ⟨hx0, hx2, hxB⟩ := hSw; go_simp; try with_reducible rfl
                    simp only [Act.put, List.getElem_toArray, List.getElem_cons_succ, List.getElem_cons_zero, List.setIfInBounds_toArray, List.set_cons_zero, List.set_cons_succ]
                    refine wpAnyH_take (i := 15) (oi := _) (v := ?_) rfl (by kernel_rfl) (by kernel_rfl) (by kernel_rfl) (fun _ _ _ h => h) (Or.inl ⟨by rfl, ?_⟩) hHeld ?_
                    rotate_left
                    · intro w hSw; obtain ⟨hx0, hx2, hxB⟩ := hSw; go_simp; try with_reducible rfl
                    simp only [Act.put, List.getElem_toArray, List.getElem_cons_succ, List.getElem_cons_zero, List.setIfInBounds_toArray, List.set_cons_zero, List.set_cons_succ]
                    refine wpAnyH_take (i := 16) (oi := _) (v := ?_) rfl (by kernel_rfl) (by kernel_rfl) (by kernel_rfl) (fun _ _ _ h => h) (Or.inl ⟨by rfl, ?_⟩) hHeld ?_
                    rotate_left
                    · intro w hSw; obtain ⟨hx0, hx2, hxB⟩ := hSw; go_simp; try with_reducible rfl
                    simp only [Act.put, List.getElem_toArray, List.getElem_cons_succ, List.getElem_cons_zero, List.setIfInBounds_toArray, List.set_cons_zero, List.set_cons_succ]
                    refine wpAnyH_take (i := 19) (oi := _) (v := ?_) rfl (by kernel_rfl) (by kernel_rfl) (by kernel_rfl) (fun _ _ _ h => h) (Or.inl ⟨by rfl, ?_⟩) hHeld ?_
                    rotate_left
                    · intro w hSw; obtain ⟨hx0, hx2, hxB⟩ := hSw; go_simp; try with_reducible rfl
                    simp only [Act.put, List.getElem_toArray, List.getElem_cons_succ, List.getElem_cons_zero, List.setIfInBounds_toArray, List.set_cons_zero, List.set_cons_succ]
                    refine wpAnyH_take (i := 20) (oi := _) (v := ?_) rfl (by kernel_rfl) (by kernel_rfl) (by kernel_rfl) (fun _ _ _ h => h) (Or.inl ⟨by rfl, ?_⟩) hHeld ?_
                    rotate_left
                    · intro w hSw; obtain ⟨hx0, hx2, hxB⟩ := hSw; go_simp; try with_reducible rfl
                    simp only [Act.put, List.getElem_toArray, List.getElem_cons_succ, List.getElem_cons_zero, List.setIfInBounds_toArray, List.set_cons_zero, List.set_cons_succ]
                    refine wpAnyH_take (i := 21) (oi := _) (v := ?_) rfl (by kernel_rfl) (by kernel_rfl) (by kernel_rfl) (fun _ _ _ h => h) (Or.inl ⟨by rfl, ?_⟩) hHeld ?_
                    rotate_left
                    · intro w hSw; obtain ⟨hx0, hx2, hxB⟩ := hSw; go_simp; try with_reducible rfl
                    simp only [Act.put, List.getElem_toArray, List.getElem_cons_succ, List.getElem_cons_zero, List.setIfInBounds_toArray, List.set_cons_zero, List.set_cons_succ]
                    refine wpAnyH_ready (rs := [17]) (by kernel_rfl) (by simp) (AllReadyH.cons (o := _) rfl (fun K hK => ?_) AllReadyH.nil)
                    go_simp
                    go_at_call 34
                    refine (ct2 _ hHeld.2.2).mono ?_
                    rintro e w17 ⟨A17, c17, rfl, hb17⟩
                    refine hK.out _ _ (hHeld.keep hb17 hsz) (fun hHeld => ?_)
                    clear hK K
                    try simp only [Act.put, List.getElem_toArray, List.getElem_cons_succ, List.getElem_cons_zero, List.setIfInBounds_toArray, List.set_cons_zero, List.set_cons_succ]
                    refine wpAnyH_take (i := 18) (oi := _) (v := ?_) rfl (by kernel_rfl) (by kernel_rfl) (by kernel_rfl) (fun _ _ _ h => h) (Or.inl ⟨by rfl, ?_⟩) hHeld ?_
                    rotate_left
                    · intro w hSw; obtain ⟨hx0, hx2, hxB⟩ := hSw; go_simp; try with_reducible rfl
                    simp only [Act.put, List.getElem_toArray, List.getElem_cons_succ, List.getElem_cons_zero, List.setIfInBounds_toArray, List.set_cons_zero, List.set_cons_succ]
                    refine wpAnyH_ready (rs := [22]) (by kernel_rfl) (by simp) (AllReadyH.cons (o := _) rfl (fun K hK => ?_) AllReadyH.nil)
                    go_simp
                    go_at_call 34
                    refine (ct3 _ hHeld.2.2).mono ?_
                    rintro e w22 ⟨A22, c22, rfl, hb22⟩
                    refine hK.out _ _ (hHeld.keep hb22 hsz) (fun hHeld => ?_)
                    clear hK K
                    try simp only [Act.put, List.getElem_toArray, List.getElem_cons_succ, List.getElem_cons_zero, List.setIfInBounds_toArray, List.set_cons_zero, List.set_cons_succ]
                    refine wpAnyH_take (i := 23) (oi := _) (v := ?_) rfl (by kernel_rfl) (by kernel_rfl) (by kernel_rfl) (fun _ _ _ h => h) (Or.inl ⟨by rfl, ?_⟩) hHeld ?_
                    rotate_left
                    · intro w hSw; obtain ⟨hx0, hx2, hxB⟩ := hSw; go_simp; try with_reducible rfl
                    simp only [Act.put, List.getElem_toArray, List.getElem_cons_succ, List.getElem_cons_zero, List.setIfInBounds_toArray, List.set_cons_zero, List.set_cons_succ]
                    refine wpAnyH_take (i := 24) (oi := _) (v := ?_) rfl (by kernel_rfl) (by kernel_rfl) (by kernel_rfl) (fun _ _ _ h => h) (Or.inl ⟨by rfl, ?_⟩) hHeld ?_
                    rotate_left
                    · intro w hSw; obtain ⟨hx0, hx2, hxB⟩ := hSw; go_simp; try with_reducible rfl
                    simp only [Act.put, List.getElem_toArray, List.getElem_cons_succ, List.getElem_cons_zero, List.setIfInBounds_toArray, List.set_cons_zero, List.set_cons_succ]
                    refine wpAnyH_take (i := 25) (oi := _) (v := ?_) rfl (by kernel_rfl) (by kernel_rfl) (by kernel_rfl) (fun _ _ _ h => h) (Or.inl ⟨by rfl, ?_⟩) hHeld ?_
                    rotate_left
                    · intro w hSw; obtain ⟨hx0, hx2, hxB⟩ := hSw; go_simp; try with_reducible rfl
                    simp only [Act.put, List.getElem_toArray, List.getElem_cons_succ, List.getElem_cons_zero, List.setIfInBounds_toArray, List.set_cons_zero, List.set_cons_succ]
                    refine wpAnyH_done (by kernel_rfl) ?_ _
                    have hp := hHeld.2.2
                    go_wp2_with fail
                    go_roundw
                    case rel => exact ⟨k + 1, by omega, by go_num, (hrest.out.alloc hrest.out.size _).trans (hp.mono (Nat.le_trans hrest.out.size (Nat.le_of_lt hsz))), (hrest2.out.alloc hrest2.out.size _).trans (hp.mono (Nat.le_trans hrest2.out.size (Nat.le_of_lt hsz)))⟩
                    case measure => simp [intOf]; omega
                  · have hg1 : g = 0 := by omega
                    have t1 : decide ((0 : Int) < (g : Int)) = false := decide_eq_false (by omega)
                    have y2 := fun p : Later (wr.alloc (Obj.cells #[.int .i64 xi, .bool xa, .bool true, .int .i64 xw, .int .i64 xt, .int .i64 xr] 31)) => p.cell x2 hsz
                    clear x0 x2 hb0
                    subst hg1
                    go_wp2_with fail
                    refine wp_later (by kernel_rfl) (by kernel_rfl) ?_
                    repeat (go_big_quiet_step (fail))
                    refine wpQuiet_nil ?_
                    rintro _ ⟨p, rfl⟩
                    have hp := p.h
                    go_wp2_with fail
                    go_roundw
                    case rel => exact ⟨k + 1, by omega, by go_num, (hrest.out.alloc hrest.out.size _).trans (hp.mono (Nat.le_trans hrest.out.size (Nat.le_of_lt hsz))), (hrest2.out.alloc hrest2.out.size _).trans (hp.mono (Nat.le_trans hrest2.out.size (Nat.le_of_lt hsz)))⟩
                    case measure => simp [intOf]; omega
              · have hkm : k = m := by omega
                subst hkm
                have hM2 := (hr8.below hb).more hb.size
                have ch2 := has_any A8 mm c8 M id wr hM2 (by omega)
                rw [HHAS.out] at ch2
                clear HR8 HH8 hr8 hlt hM2
                go_wp2_with (first
                  | (go_at_call 33; ((with_reducible refine ch2.mono ?_); rintro e w9 ⟨rfl, hb9⟩))
                  | fail)
                try rw [Exit.noGoto_ret]
                go_ret
                exact ⟨rfl, hB.trans (hb9.mono hB.size)⟩
theorem excl_row (A : Option Addr) (n c : Nat) (l : List Rel) (hnc : n ≤ c) (hn : c ≤ 281474976710656) {Q : Prop} (_ : Q)
    (A2 : Option Addr) (n2 c2 : Nat) (l2 : List Int) (hnc2 : n2 ≤ c2) (hn2 : c2 * 8 ≤ 140737488351232) (hw : ∀ x ∈ l2, (Lit.int .u64 x).wf = true) (id : Int) (hid : (Lit.int .u64 id).wf = true) (w : World) (hE : Env w)
    (hR : Reads w w.heap.size 6 A n (rels l)) (hR2 : Reads w w.heap.size 1 A2 n2 (l2.map (Value.int .u64))) :
    Calls Tryd.prog 7 #[.slice A n c, .slice A2 n2 c2, .int .u64 id] w fun e w' => e = .returned (.bool true) ∧ Below w.heap.size w w' := by
  obtain ⟨H, rfl⟩ := wints l2 (fun x hx => word_wf (hw x hx))
  exact excl_law A n c l A2 n2 c2 H id w hE hR hnc hn hR2 hnc2 (by omega) (word_wf hid)
end Go.Proofs.YtibjelonabhcmaaDoor
