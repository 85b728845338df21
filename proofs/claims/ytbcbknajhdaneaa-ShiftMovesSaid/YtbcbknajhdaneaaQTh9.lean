/- What is proved: the document's Column and Fit. the document's Rows. what the document's Push, Swap and Set have in common: rows of values, and the document's Of at them. the document's Push. a value stored into rows of values of the call's own. the document's Set. the document's Swap. plain laws: what the document's Push, Swap and Set answer is what the table's do. plain laws: what tables answer hangs on what they hold alone. -/
import Derived.Test.YtbcbknajhdaneaaQTe4
import Derived.Test.YtbcbknajhdaneaaQOg
import Derived.Test.YtbcbknajhdaneaaQTg4
namespace Go.Proofs.Ytbcbknajhdaneaa
open Go.RowKit
set_option linter.unusedVariables false
set_option linter.unusedSimpArgs false
theorem ixGo_eq (v x : Int) (l : List Int) (k : Nat) : ixGo v (x :: l) k = if x == v then (k : Int) else ixGo v l (k + 1) := by
  show (if v == x then (k : Int) else ixGo v l (k + 1)) = _
  rw [Bool.beq_comm]
set_option maxRecDepth 100000 in
theorem rcolumn_any (t : Tab) (id : Int) (w : World) (h : TabOk w w.heap.size t) (hs : t.Tn ≤ 281474976710656) :
    Calls Try.prog 32 #[t.V, .int .u64 id] w fun e w' => e = .returned (.int .i64 (ixD t.ty id)) ∧ Below w.heap.size w w' := by
  have hB := (Below.refl w.heap.size w).alloc (Nat.le_refl _) (.cells #[.slice t.TA t.Tn t.Tc, .slice t.CA t.Cn t.Cc, .slice t.EA t.En t.Ec] 25)
  obtain ⟨⟨c0, c1, c2⟩, _⟩ := blk_cells3 (Blk.new w 25 #[.slice t.TA t.Tn t.Tc, .slice t.CA t.Cn t.Cc, .slice t.EA t.En t.Ec])
  have hl := h.len.1
  have hR := h.ty
  obtain ⟨TA, Tn, Tc, l, CA, Cn, Cc, F, EA, En, Ec, es⟩ := t
  simp only at *
  unfold Tab.V
  simp only
  clear h
  go_enter Try.func32, Try.ntmps32
  go_wp2_with fail
  clear c0 c1 c2
  go_loopw [10] (fun i wr => ∃ k : Nat, k ≤ Tn ∧ i = .int .i64 k ∧ ixD l id = ixGo id (l.drop k) k ∧ Below w.heap.size w wr)
    (fun i _ => Tn - (intOf i).toNat)
  case atStart => exact ⟨0, Nat.zero_le _, rfl, rfl, hB⟩
  case round =>
    obtain ⟨k, hk, rfl, hq, hb⟩ := hrel
    by_cases hlt : k < Tn
    · have e1 := List.getElem?_eq_getElem (l := l) (i := k) (by omega)
      generalize l[k]'(by omega) = x at e1
      rw [drop_cons e1, ixGo_eq] at hq
      obtain ⟨b, off, rfl, hbl, g⟩ := ids_cell hR e1
      have g0 := cell_below' hb g hbl
      have i1 : (k : Int) < (Tn : Int) := by omega
      cases hv : (x == id)
      · rw [hv] at hq
        have HQ := Lib.hid hq
        clear hq e1 hR g hl
        go_wp2_with fail
        go_roundw
        case rel => exact ⟨k + 1, by omega, by go_num, HQ.out, hb⟩
        case measure => simp [intOf]; omega
      · rw [hv] at hq
        have HQ := Lib.hid hq
        clear hq e1 hR g hl
        go_wp2_with fail
        try rw [Exit.noGoto_ret]
        go_ret
        exact ⟨by rw [HQ.out]; rfl, hb⟩
    · have hke : k = Tn := by omega
      subst hke
      rw [List.drop_of_length_le (by omega)] at hq
      have HQ := Lib.hid hq
      clear hq hR hl
      go_wp2_with fail
      try rw [Exit.noGoto_ret]
      go_ret
      exact ⟨by rw [HQ.out]; rfl, hb⟩
/-- are values one for each column, of its width? -/
def fitB (t : Tab) (G : List Rw) : Bool := (G.length == t.F.length) && widE G 0 t.F
end Go.Proofs.Ytbcbknajhdaneaa
namespace Go.Proofs.Ytbcbknajhdaneaa
open Go.RowKit
set_option linter.unusedVariables false
set_option linter.unusedSimpArgs false
/-- the values of the first rows -/
def allR (F : List Col) (m : Nat) : List (List (List Int)) := (List.range m).map (rowL F)
theorem allR_succ (F : List Col) (m : Nat) : allR F (m + 1) = allR F m ++ [rowL F m] := by unfold allR; rw [List.range_succ, List.map_append]; rfl
theorem allR_len (F : List Col) (m : Nat) : (allR F m).length = m := by unfold allR; rw [List.length_map, List.length_range]
/-- a row of values of the call's own -/
structure GrFresh (w : World) (base : Nat) (x : Gr) : Prop where
  own : w.ownsRow base 44 1 x.V x.G.length (rws x.G)
  n : x.n = x.G.length
  g : ∀ v ∈ x.G, RwFresh w base v
theorem GrFresh.below {w w' : World} {base : Nat} {x : Gr} (h : GrFresh w base x) (hb : Below w.heap.size w w') : GrFresh w' base x := ⟨own_below h.own hb, h.n, fun v hv => (h.g v hv).below hb⟩
theorem GrFresh.base {w : World} {b b' : Nat} {x : Gr} (h : GrFresh w b x) (hb : b' ≤ b) : GrFresh w b' x := ⟨base_le h.own hb, h.n, fun v hv => colFresh_base (h.g v hv) hb⟩
theorem GrFresh.grown {w w' : World} {base b n size : Nat} {x : Gr} {e : TypeId} {v : Value} {xs : List Value} (h : GrFresh w base x) (ho : w.ownsRow b e size v n xs) (hne : e ≠ 26) (hne2 : e ≠ 44) (hg : w.grownBy w' v.ownBlock) : GrFresh w' base x :=
  ⟨own_other h.own ho (fun e1 => hne2 e1.symm) hg, h.n, fun y hy => rwFresh_grown (h.g y hy) ho hne hg⟩
theorem GrFresh.ok {w : World} {base : Nat} {x : Gr} (h : GrFresh w base x) : GrOk w w.heap.size x := by
  obtain ⟨A', c', hv, h1, h2⟩ := own_cap h.own
  obtain ⟨A, n, c, G⟩ := x
  unfold Gr.V at hv
  injection hv with ha hn hc
  have ho := h.own
  unfold Gr.V at ho
  simp only at ha hn hc ho
  subst ha hc hn
  exact ⟨Reads.of_own ho, ⟨h1, by unfold maxLen; exact h2⟩, fun v hv => rwOk_fresh (h.g v hv)⟩
theorem grs_app (a b : List Gr) : grs (a ++ b) = grs a ++ grs b := by unfold grs; rw [List.map_append]
theorem vls_app (a b : List Gr) : vls (a ++ b) = vls a ++ vls b := by unfold vls; rw [List.map_append]
theorem info_vals : (Try.prog.info? 28).map (fun i => (i.zero, i.size, i.bytes)) = some (some (.slice none 0 0), 1, 24) := by kernel_rfl
/-- the rows lie one behind the other -/
def Srt (L : List Gr) : Prop := ∀ (i j : Nat) (x y : Gr) (a b : Addr), i < j → L[i]? = some x → L[j]? = some y → x.A = some a → y.A = some b → a.block < b.block
theorem own_lo {w : World} {base n n' size c : Nat} {e : TypeId} {A : Option Addr} {a : Addr} {xs : List Value} (h : w.ownsRow base e size (.slice A n c) n' xs) (hA : A = some a) : base ≤ a.block ∧ a.block < w.heap.size := by
  subst hA
  rcases h.2 with ⟨hv, _⟩ | ⟨g, cap, cur, hv, h1, h2, _⟩
  · cases hv
  · injection hv with ha _ _
    injection ha with ha
    subst ha
    exact ⟨h1, (Array.getElem?_eq_some_iff.1 h2).1⟩
theorem Srt.snoc {L : List Gr} {y : Gr} {B : Nat} (h : Srt L) (h1 : ∀ x ∈ L, ∀ a, x.A = some a → a.block < B) (h2 : ∀ b, y.A = some b → B ≤ b.block) : Srt (L ++ [y]) := by
  intro i j x z a b hij hi hj ha hb
  have hjl := (List.getElem?_eq_some_iff.1 hj).1
  rw [List.length_append, List.length_singleton] at hjl
  rw [List.getElem?_append_left (by omega)] at hi
  rcases Nat.lt_or_ge j L.length with hl | hl
  · rw [List.getElem?_append_left hl] at hj
    exact h i j x z a b hij hi hj ha hb
  · rw [List.getElem?_append_right hl, show j - L.length = 0 from by omega] at hj
    simp at hj
    subst hj
    have q1 := h1 x (List.mem_of_getElem? hi) a ha
    have q2 := h2 b hb
    omega
theorem GrFresh.lt {w : World} {base : Nat} {x : Gr} (h : GrFresh w base x) : ∀ a, x.A = some a → a.block < w.heap.size := fun a ha => (own_lo (by have := h.own; unfold Gr.V at this; exact this) ha).2
/-- rows of values of the call's own -/
def OwnGs (R : List (List (List Int))) (w : World) (e : Ending) (w' : World) : Prop :=
  ∃ v L, e = .returned v ∧ w'.ownsRow w.heap.size 28 1 v L.length (grs L) ∧ vls L = R ∧ ((∀ x ∈ L, GrFresh w' w.heap.size x) ∧ Srt L) ∧ Below w.heap.size w w'
set_option maxRecDepth 100000 in
set_option maxHeartbeats 4000000 in
theorem rrows_any (t : Tab) (w : World) (h : TabOk w w.heap.size t) (hn : t.Cn ≤ 65536) (hE : t.En ≤ 65536) (hb0 : tabB t = true) :
    Calls Try.prog 75 #[t.V] w (OwnGs (allR t.F t.es.length) w) := by
  obtain ⟨i0, hi0, hz0, hz1, hz2⟩ := info_parts info_vals
  have hB := (Below.refl w.heap.size w).alloc (Nat.le_refl _) (.cells #[.slice t.TA t.Tn t.Tc, .slice t.CA t.Cn t.Cc, .slice t.EA t.En t.Ec] 25)
  have kx := Blk.new w 25 #[.slice t.TA t.Tn t.Tc, .slice t.CA t.Cn t.Cc, .slice t.EA t.En t.Ec]
  obtain ⟨W0, hW0⟩ : ∃ W0, W0 = w.alloc (.cells #[.slice t.TA t.Tn t.Tc, .slice t.CA t.Cn t.Cc, .slice t.EA t.En t.Ec] 25) := ⟨_, rfl⟩
  rw [← hW0] at hB kx
  obtain ⟨⟨c0, c1, c2⟩, _⟩ := blk_cells3 kx
  have hsz : W0.heap.size = w.heap.size + 1 := by rw [hW0]; simp
  have HC := Lib.hid (fun (W : World) (hb : Below W0.heap.size W0 W) => (blk_cells3 (blk_below kx hb)).1)
  have hlen := h.len.2.2
  have cvs := fun (k : Nat) (hk : k < t.es.length) (W : World) (hb : Below w.heap.size w W) => rvalues_any t k W ((h.keep hb).more hb.size) hn hb0 hk
  obtain ⟨TA, Tn, Tc, ty, CA, Cn, Cc, F, EA, En, Ec, es⟩ := t
  simp only at *
  unfold Tab.V at cvs ⊢
  unfold OwnVs at cvs
  simp only at cvs ⊢
  have HL := Lib.hid hlen
  have HW := Lib.hid hW0
  have HB := Lib.hid hB
  have HS := Lib.hid hsz
  clear h hW0 kx hlen hB hsz
  go_enter Try.func75, Try.ntmps75
  go_upto_region 1 with fail
  rw [← HW.out]
  go_wp2_with fail
  clear c0 c1 c2
  go_loopw [3, 8] (fun o i wr => ∃ k : Nat, k ≤ En ∧ i = .int .i64 k ∧ Below W0.heap.size W0 wr ∧
      ∃ L, wr.ownsRow W0.heap.size 28 1 o L.length (grs L) ∧ vls L = allR F k ∧ (∀ x ∈ L, GrFresh wr w.heap.size x) ∧ Srt L)
    (fun _ i _ => En - (intOf i).toNat)
  case atStart => exact ⟨0, Nat.zero_le _, rfl, Below.refl _ _, [], World.ownsRow_nil _ _ _ _, rfl, by simp, fun i j x y a b hij hi => by simp at hi⟩
  case round =>
    obtain ⟨k, hk, rfl, hb, L, ho, hp, hfr, hsrt⟩ := hrel
    have HSRT := Lib.hid hsrt
    clear hsrt
    obtain ⟨c0, c1, c2⟩ := HC.out _ hb
    have hLl : L.length = k := by
      have h1 := congrArg List.length hp
      unfold vls at h1
      rw [List.length_map, allR_len] at h1
      exact h1
    have hb2 := HB.out.trans (hb.mono HB.out.size)
    by_cases hlt : k < En
    · have cv := cvs k (by rw [HL.out]; exact hlt) wr hb2
      have HO := Lib.hid ho
      have HP := Lib.hid hp
      have HFR := Lib.hid hfr
      have HLL := Lib.hid (show L.length ≤ 65536 by omega)
      obtain ⟨Ao, co, rfl⟩ := own_slice ho
      have hltI : (k : Int) < (En : Int) := by omega
      have HT := Lib.hid (show vls L ++ [rowL F k] = allR F (k + 1) from by rw [hp, allR_succ])
      generalize rowL F k = rk at *
      clear ho hp hfr cvs hLl
      go_wp2_with (first
        | (go_at_call 29; ((with_reducible refine cv.mono ?_); rintro en w2 ⟨v2, G2, rfl, ho2, hp2, hf2, hb4⟩; obtain ⟨A2, a2, rfl⟩ := own_slice ho2; have HO2 := Lib.hid ho2; have HP2 := Lib.hid hp2; have HF2 := Lib.hid hf2; clear ho2 hp2 hf2))
        | (at_builtin
           refine wpList_append_any _ rfl (.tmp 11) (.tmp 15) _ rfl W0.heap.size 28 i0 _ 1 24 Try.underlying112 hi0 hz0 hz1 hz2 rfl (by omega) _ L.length (grs L) rfl
             ?_ (w2.heap.size + 1) (some ⟨w2.heap.size, 0, none⟩) 1 1 [.slice A2 G2.length a2] rfl ?_ (by simp [Value.oneCell']) (by have := HLL.out; simp only [maxLen]; omega) (by have := HLL.out; omega) ?_ ?_
           · exact (own_below HO.out hb4).alloc _
           · exact lit_reads1 _ _ _ rfl
           · exact Nat.le_trans hb.size (by have := hb4.size; simp at this ⊢; omega)
           intro v1 w1 hown1 hg1 hat1)
        | fail)
      have hb3 : Below W0.heap.size W0 w2 := hb.trans (hb4.mono hb.size)
      have ho3 := (own_below HO.out hb4).alloc (.cells #[.slice A2 G2.length a2] 28)
      have hb5 := own_grown_below (hb3.alloc hb3.size (.cells #[.slice A2 G2.length a2] 28)) ho3 hg1
      have hba := (Below.refl w2.heap.size w2).alloc (Nat.le_refl _) (.cells #[.slice A2 G2.length a2] 28)
      go_roundw
      case rel =>
        refine ⟨k + 1, by omega, by go_num, hb5, L ++ [⟨A2, G2.length, a2, G2⟩], ?_, ?_, fun y hy => ?_, HSRT.out.snoc (B := wr.heap.size) (fun x hx => (HFR.out x hx).lt) (fun b hb => (own_lo HO2.out hb).1)⟩
        · rw [grs_app, List.length_append]; exact hown1
        · rw [vls_app, ← HT.out, ← HP2.out]; rfl
        · have hstep : ∀ z, GrFresh w2 w.heap.size z → GrFresh w1 w.heap.size z := fun z hz => (hz.below hba).grown ho3 (by decide) (by decide) hg1
          rcases List.mem_append.1 hy with hy | hy
          · exact hstep y ((HFR.out y hy).below hb4)
          · rw [List.mem_singleton] at hy; subst hy
            refine hstep _ (GrFresh.base (b := wr.heap.size) ⟨HO2.out, rfl, HF2.out⟩ (by have := hb.size; have := HS.out; omega))
      case measure => simp [intOf]; omega
    · have : k = En := by omega
      subst this
      have HO := Lib.hid ho
      have HP := Lib.hid hp
      have HFR := Lib.hid hfr
      obtain ⟨Ao, co, rfl⟩ := own_slice ho
      have hltI : ¬ ((k : Int) < (k : Int)) := by omega
      clear ho hp hfr cvs hLl
      go_wp2_with fail
      go_ret
      exact ⟨_, L, rfl, base_le HO.out (by have := HS.out; omega), by rw [HP.out, HL.out], ⟨HFR.out, HSRT.out⟩, hb2⟩
end Go.Proofs.Ytbcbknajhdaneaa
namespace Go.Proofs.Ytbcbknajhdaneaa
open Go.RowKit
set_option linter.unusedVariables false
set_option linter.unusedSimpArgs false
/-- what comes of the document's Push -/
def rpuP (t : Tab) (e : Int) (ls : List (List Int)) : PT := (t.ty, ofL (allR t.F t.es.length ++ [ls]) ((t.En + 1 : Nat) : Int) 0 (t.F.map Col.W), t.es ++ [e])
/-- a table that can be read; of the call's own where the table it comes of is -/
def TabGotF (t0 : Tab) (p : PT) (w : World) (e : Ending) (w' : World) : Prop := ∃ t : Tab, e = .returned t.V ∧ t.p = p ∧ TabOk w' w'.heap.size t ∧ Below w.heap.size w w' ∧ ∀ b, b ≤ w.heap.size → TabFresh w b t0 → TabFresh w' b t
theorem two_blk (w : World) (t t2 : TypeId) (a b : Array Value) : ∃ W0, W0 = (w.alloc (.cells a t)).alloc (.cells b t2) ∧ Below w.heap.size w W0 ∧ W0.heap.size = w.heap.size + 2 ∧ Blk W0 w.heap.size t a ∧ Blk W0 (w.heap.size + 1) t2 b := by
  refine ⟨_, rfl, ((Below.refl w.heap.size w).alloc (Nat.le_refl _) _).alloc (by simp) _, by simp, (Blk.new w _ _).alloc _, ?_⟩
  have h := Blk.new (w.alloc (.cells a t)) t2 b
  rw [World.size_alloc] at h
  exact h
theorem blk_read {w : World} {g : Nat} {t : TypeId} {v : Value} (h : Blk w g t #[v]) : Reads w w.heap.size 1 (some ⟨g, 0, none⟩) 1 [v] := blk_reads (cs := #[v]) h rfl
theorem colOf_bound {m : Nat} : ∀ {R : List (List (List Int))} (h : ∀ r ∈ R, ∀ v ∈ r, v.length ≤ m) (k : Nat), (colOf R k).length ≤ m * R.length
  | [], _, k => by unfold colOf; simp
  | r :: R, h, k => by
    have h1 := colOf_bound (R := R) (fun x hx => h x (List.mem_cons_of_mem _ hx)) k
    have h2 : (match r[k]? with | some v => v | none => []).length ≤ m := by
      cases hv : r[k]? with
      | none => simp
      | some v => exact h r (List.mem_cons_self ..) v (List.mem_of_getElem? hv)
    have h3 : colOf (r :: R) k = (match r[k]? with | some v => v | none => []) ++ colOf R k := by unfold colOf; rw [List.flatMap_cons]; rfl
    rw [h3, List.length_append, List.length_cons, Nat.mul_succ]
    omega
theorem allR_small {t : Tab} (hb0 : tabB t = true) (m : Nat) : ∀ r ∈ allR t.F m, ∀ v ∈ r, v.length ≤ 4 := by
  obtain ⟨_, _, _, hc, _⟩ := tabB_parts hb0
  intro r hr v hv
  unfold allR at hr
  obtain ⟨j, _, rfl⟩ := List.mem_map.1 hr
  unfold rowL at hv
  obtain ⟨x, hx, rfl⟩ := List.mem_map.1 hv
  obtain ⟨hc1, _⟩ := hc x hx
  unfold colB at hc1
  obtain ⟨hW0, hW4, _⟩ := of_decide_eq_true hc1
  unfold chunk
  have := List.length_take_le x.W.toNat (x.l.drop (j * x.W.toNat))
  omega
theorem allR_row {F : List Col} {m : Nat} : ∀ r ∈ allR F m, r.length = F.length := by
  intro r hr
  unfold allR at hr
  obtain ⟨j, _, rfl⟩ := List.mem_map.1 hr
  unfold rowL; rw [List.length_map]
theorem fit_small {t : Tab} {G : List Rw} (hb0 : tabB t = true) (hf : fitB t G = true) (hl : ∀ v ∈ G, v.l.length = v.n) : ∀ v ∈ G.map Rw.l, v.length ≤ 4 := by
  obtain ⟨_, _, _, hc, _⟩ := tabB_parts hb0
  unfold fitB at hf
  rw [Bool.and_eq_true, beq_iff_eq] at hf
  intro l hlm
  obtain ⟨v, hv, rfl⟩ := List.mem_map.1 hlm
  obtain ⟨k, hk⟩ := List.getElem?_of_mem hv
  have hkl := (List.getElem?_eq_some_iff.1 hk).1
  have h2 := List.getElem?_eq_getElem (l := t.F) (i := k) (by omega)
  generalize t.F[k]'(by omega) = x at h2
  have h3 := widE_at hf.2 k x h2
  rw [Nat.zero_add] at h3
  have h4 := rws_at (G := G) hkl
  rw [hk] at h4
  injection h4 with h4
  rw [← h4] at h3
  obtain ⟨hc1, _⟩ := hc x (List.mem_of_getElem? h2)
  unfold colB at hc1
  obtain ⟨hW0, hW4, _⟩ := of_decide_eq_true hc1
  rw [hl v hv]; omega
/-- the document's Of at rows of the call's own and one more -/
theorem of_rows {t : Tab} (hb0 : tabB t = true) (hC : t.Cn ≤ 65536) (hE : t.En ≤ 65535) (hlen : t.F.length = t.Cn ∧ t.es.length = t.En) (TA : Option Addr) (Tn Tc : Nat) (A3 : Option Addr) (c3 : Nat) (A7 : Option Addr) (c7 n7 : Nat) (A12 : Option Addr) (n12 c12 : Nat) (L : List Gr) (w : World) (hn7 : n7 ≤ 8589934592)
    (R : List (List (List Int))) (hR : vls L = R) (hR4 : ∀ r ∈ R, ∀ v ∈ r, v.length ≤ 4) (hRl : ∀ r ∈ R, r.length = t.F.length) (hRn : R.length ≤ 65536)
    (hN : Reads w w.heap.size 1 A3 t.F.length (ins (t.F.map Col.W))) (hL : Reads w w.heap.size 1 A12 n12 (grs L)) (hG : ∀ g ∈ L, GrOk w w.heap.size g) :
    Calls Try.prog 47 #[.slice TA Tn Tc, .slice A3 t.F.length c3, .slice A7 n7 c7, .slice A12 n12 c12] w (OfR (ofL R (n7 : Int) 0 (t.F.map Col.W)) (.slice TA Tn Tc) (.slice A7 n7 c7) w) := by
  have hL2 : n12 ≤ 65536 := by
    have h1 := hL.1
    have h2 := congrArg List.length hR
    unfold vls at h2
    rw [List.length_map] at h2
    rw [grs_len] at h1
    omega
  have h := of_any TA Tn Tc A3 t.F.length c3 (t.F.map Col.W) A7 n7 c7 A12 n12 c12 L w hN hL hG
    (fun g hg => by
      have h1 : g.vl ∈ vls L := by unfold vls; exact List.mem_map_of_mem hg
      rw [hR] at h1
      have h2 := hRl _ h1
      unfold Gr.vl at h2
      rw [List.length_map] at h2
      omega)
    (fun k => by
      rw [hR]
      have h1 := colOf_bound hR4 k
      omega)
    (by omega) (by omega) hn7
  rw [hR] at h
  exact h
end Go.Proofs.Ytbcbknajhdaneaa
namespace Go.Proofs.Ytbcbknajhdaneaa
open Go.RowKit
set_option linter.unusedVariables false
set_option linter.unusedSimpArgs false
set_option maxRecDepth 100000 in
set_option maxHeartbeats 8000000 in
theorem rpush_any (t : Tab) (e : Int) (hwe : Word e) (VA : Option Addr) (vn vc : Nat) (G : List Rw) (w : World) (h : TabOk w w.heap.size t) (hs : t.Cn ≤ 65536 ∧ t.En ≤ 65535) (hb0 : tabB t = true) (hfit : fitB t G = true)
    (hR : Reads w w.heap.size 1 VA vn (rws G)) (hvc : vn ≤ vc ∧ vc ≤ maxLen) (hG : ∀ v ∈ G, RwOk w w.heap.size v) :
    Calls Try.prog 21 #[t.V, .int .u64 e, .slice VA vn vc] w (TabGotF t (rpuP t e (G.map Rw.l)) w) := by
  obtain ⟨i1, hi0, hz0, hz1, hz2⟩ := info_parts info_id
  obtain ⟨i2, hj0, hj1, hj2, hj3⟩ := info_parts info_vals
  obtain ⟨W0, hW0, hB, hsz, k0, k1⟩ := two_blk w 25 25 #[.slice t.TA t.Tn t.Tc, .slice t.CA t.Cn t.Cc, .slice t.EA t.En t.Ec] #[.slice none 0 0, .slice none 0 0, .slice none 0 0]
  have hT := (h.keep hB).more hB.size
  have hlen := h.len
  have cwd := fun (W : World) (hb : Below W0.heap.size W0 W) => rwidths_any t W ((hT.keep hb).more hb.size) hs.1
  have crs := fun (W : World) (hb : Below W0.heap.size W0 W) => rrows_any t W ((hT.keep hb).more hb.size) hs.1 (by omega) hb0
  have hfl : G.length = t.F.length := by unfold fitB at hfit; rw [Bool.and_eq_true, beq_iff_eq] at hfit; exact hfit.1
  have hPS : ofL (allR t.F t.es.length ++ [G.map Rw.l]) ((t.En + 1 : Nat) : Int) 0 (t.F.map Col.W) = (rpuP t e (G.map Rw.l)).2.1 := rfl
  have cof := fun (w1 : World) (hb : Below W0.heap.size W0 w1) (L : List Gr) (A3 : Option Addr) (c3 : Nat) (A7 : Option Addr) (c7 : Nat) (A12 : Option Addr) (c12 : Nat)
      (ho3 : w1.ownsRow W0.heap.size 3 1 (.slice A3 t.F.length c3) t.F.length (ins (t.F.map Col.W)))
      (ho12 : w1.ownsRow W0.heap.size 28 1 (.slice A12 (L.length + 1) c12) (L.length + 1) (grs L ++ [.slice VA vn vc])) (hp12 : vls L = allR t.F t.es.length) (hf12 : ∀ x ∈ L, GrFresh w1 W0.heap.size x) =>
    of_rows hb0 hs.1 hs.2 ⟨hlen.2.1, hlen.2.2⟩ t.TA t.Tn t.Tc A3 c3 A7 c7 (t.En + 1) A12 (L.length + 1) c12 (L ++ [⟨VA, vn, vc, G⟩]) w1 (by omega) (allR t.F t.es.length ++ [G.map Rw.l]) (by rw [vls_app, hp12]; rfl)
      (fun r hr v hv => by
        rcases List.mem_append.1 hr with hr | hr
        · exact allR_small hb0 _ r hr v hv
        · rw [List.mem_singleton] at hr; subst hr
          exact fit_small hb0 hfit (fun v hv => (hG v hv).len) v hv)
      (fun r hr => by
        rcases List.mem_append.1 hr with hr | hr
        · exact allR_row r hr
        · rw [List.mem_singleton] at hr; subst hr
          rw [List.length_map]; exact hfl)
      (by rw [List.length_append, allR_len, List.length_singleton]; omega)
      (Reads.of_own ho3) (by rw [grs_app]; exact Reads.of_own ho12)
      (fun g hg => by
        rcases List.mem_append.1 hg with hg | hg
        · exact (hf12 g hg).ok
        · rw [List.mem_singleton] at hg; subst hg
          have hb2 := hB.trans (hb.mono hB.size)
          exact ⟨(hR.below hb2).more hb2.size, hvc, fun v hv => ((hG v hv).keep hb2).more hb2.size⟩)
  rw [hPS] at cof
  have hes := hT.es
  have HP := Lib.hid (show rpuP t e (G.map Rw.l) = (t.ty, (rpuP t e (G.map Rw.l)).2.1, t.es ++ [e]) from rfl)
  generalize (rpuP t e (G.map Rw.l)).2.1 = PS at cof HP
  generalize rpuP t e (G.map Rw.l) = PT0 at HP ⊢
  have HW := Lib.hid hW0
  have HS := Lib.hid hsz
  have HB := Lib.hid hB
  have HC := Lib.hid (fun (W : World) (hb : Below W0.heap.size W0 W) => (blk_cells3 (blk_below k0 hb)).1)
  have HK1 := Lib.hid k1
  have H0 := Lib.hid h
  have HWE := Lib.hid hwe
  have HL := Lib.hid hlen
  obtain ⟨⟨s0, s1, s2⟩, _⟩ := blk_cells3 k0
  obtain ⟨TA, Tn, Tc, ty, CA, Cn, Cc, F, EA, En, Ec, es⟩ := t
  simp only at hes hs s0 s1 s2 HC cof HL HP HW
  unfold Tab.V at cwd crs ⊢
  unfold OwnGs at crs
  unfold OwnN at cwd
  unfold OfR at cof
  simp only at cwd crs ⊢
  clear hW0 hB hsz k0 k1 hT hfit hR hG hlen hb0 h hfl hPS hvc hwe
  have HCC := Lib.hid (fun (W : World) (hb : Below W0.heap.size W0 W) => And.intro (HB.out.trans (hb.mono HB.out.size)) (HC.out W hb))
  go_enter Try.func21, Try.ntmps21
  go_upto_region 1 with fail
  rw [← HW.out]
  go_upto_region 3 with (first
    | (at_builtin
       refine wpList_append_any _ rfl (.tmp 8) (.tmp 10) _ rfl W0.heap.size 27 i1 _ 1 8 Try.underlying22 hi0 hz0 hz1 hz2 rfl (by omega) _ 0 [] rfl
         (World.ownsRow_nil _ _ _ _) W0.heap.size EA En Ec (ids es) rfl hes (ids_one es) (by have := hs.2; simp only [maxLen]; omega) (by have := hs.2; omega) (Nat.le_refl _) ?_
       intro v1 w1 hown1 hg1 hat1)
    | fail)
  have hb1 : Below W0.heap.size W0 w1 := own_grown_below (Below.refl _ _) (World.ownsRow_nil W0 W0.heap.size 27 1) hg1
  rw [Nat.zero_add, List.nil_append] at hown1
  obtain ⟨A1, c1, rfl⟩ := own_slice hown1
  obtain ⟨x0, x1, x2⟩ := HC.out _ hb1
  have HO1 := Lib.hid hown1
  have HB1 := Lib.hid hb1
  clear hown1 hg1 hat1 s0 s1 s2 hes hb1
  refine wp_region_held_drew (S := fun w' => w'.cell? ⟨w.heap.size, 0, none⟩ = some (.slice TA Tn Tc) ∧ w'.cell? ⟨w.heap.size, 1, none⟩ = some (.slice CA Cn Cc) ∧ w'.cell? ⟨w.heap.size, 2, none⟩ = some (.slice EA En Ec)) (by kernel_rfl) ⟨x0, x1, x2⟩ (fun hHeld => ?_)
  refine wpAnyH_take (i := 0) (oi := _) (v := ?_) rfl (by kernel_rfl) (by kernel_rfl) (by kernel_rfl) (fun _ _ _ h => h) (Or.inl ⟨by rfl, ?_⟩) hHeld ?_
  rotate_left
  · intro w hSw; obtain ⟨t0, t1, t2⟩ := hSw; go_simp; try with_reducible rfl
  simp only [Act.put, List.getElem_toArray, List.getElem_cons_succ, List.getElem_cons_zero, List.setIfInBounds_toArray, List.set_cons_zero, List.set_cons_succ]
  refine wpAnyH_take (i := 1) (oi := _) (v := ?_) rfl (by kernel_rfl) (by kernel_rfl) (by kernel_rfl) (fun _ _ _ h => h) (Or.inl ⟨by rfl, ?_⟩) hHeld ?_
  rotate_left
  · intro w hSw; obtain ⟨t0, t1, t2⟩ := hSw; go_simp; try with_reducible rfl
  simp only [Act.put, List.getElem_toArray, List.getElem_cons_succ, List.getElem_cons_zero, List.setIfInBounds_toArray, List.set_cons_zero, List.set_cons_succ]
  refine wpAnyH_take (i := 2) (oi := _) (v := ?_) rfl (by kernel_rfl) (by kernel_rfl) (by kernel_rfl) (fun _ _ _ h => h) (Or.inl ⟨by rfl, ?_⟩) hHeld ?_
  rotate_left
  · intro w hSw; obtain ⟨t0, t1, t2⟩ := hSw; go_simp; try with_reducible rfl
  simp only [Act.put, List.getElem_toArray, List.getElem_cons_succ, List.getElem_cons_zero, List.setIfInBounds_toArray, List.set_cons_zero, List.set_cons_succ]
  refine wpAnyH_take (i := 4) (oi := _) (v := ?_) rfl (by kernel_rfl) (by kernel_rfl) (by kernel_rfl) (fun _ _ _ h => h) (Or.inl ⟨by rfl, ?_⟩) hHeld ?_
  rotate_left
  · intro w hSw; obtain ⟨t0, t1, t2⟩ := hSw; go_simp; try with_reducible rfl
  simp only [Act.put, List.getElem_toArray, List.getElem_cons_succ, List.getElem_cons_zero, List.setIfInBounds_toArray, List.set_cons_zero, List.set_cons_succ]
  refine wpAnyH_take (i := 5) (oi := _) (v := ?_) rfl (by kernel_rfl) (by kernel_rfl) (by kernel_rfl) (fun _ _ _ h => h) (Or.inl ⟨by rfl, ?_⟩) hHeld ?_
  rotate_left
  · intro w hSw; obtain ⟨t0, t1, t2⟩ := hSw; go_simp; try with_reducible rfl
  simp only [Act.put, List.getElem_toArray, List.getElem_cons_succ, List.getElem_cons_zero, List.setIfInBounds_toArray, List.set_cons_zero, List.set_cons_succ]
  refine wpAnyH_take (i := 8) (oi := _) (v := ?_) rfl (by kernel_rfl) (by kernel_rfl) (by kernel_rfl) (fun _ _ _ h => h) (Or.inl ⟨by rfl, ?_⟩) hHeld ?_
  rotate_left
  · intro w hSw; obtain ⟨t0, t1, t2⟩ := hSw; go_simp; try with_reducible rfl
  simp only [Act.put, List.getElem_toArray, List.getElem_cons_succ, List.getElem_cons_zero, List.setIfInBounds_toArray, List.set_cons_zero, List.set_cons_succ]
  refine wpAnyH_take (i := 10) (oi := _) (v := ?_) rfl (by kernel_rfl) (by kernel_rfl) (by kernel_rfl) (fun _ _ _ h => h) (Or.inl ⟨by rfl, ?_⟩) hHeld ?_
  rotate_left
  · intro w hSw; obtain ⟨t0, t1, t2⟩ := hSw; go_simp; try with_reducible rfl
  simp only [Act.put, List.getElem_toArray, List.getElem_cons_succ, List.getElem_cons_zero, List.setIfInBounds_toArray, List.set_cons_zero, List.set_cons_succ]
  refine Og.start (fr := fun y => { tmps := #[.agg #[.slice TA Tn Tc, .slice CA Cn Cc, .slice EA En Ec], .int .u64 e, .slice VA vn vc, .pointer (some ⟨w.heap.size, 0, none⟩), undef, undef, .pointer (some ⟨w.heap.size + 1, 0, none⟩), .slice A1 En c1, .slice none 0 0, .pointer (some ⟨w.heap.size, 2, none⟩), .slice EA En Ec, .slice A1 En c1, .pointer (some ⟨w.heap.size, 0, none⟩), .slice TA Tn Tc, .agg #[.slice TA Tn Tc, .slice CA Cn Cc, .slice EA En Ec], y 3, .slice A1 En c1, .int .u64 e, y 6, y 7, .agg #[.slice TA Tn Tc, .slice CA Cn Cc, .slice EA En Ec], y 9, .slice VA vn vc, y 11, y 12, y 13], defers := [] })
    (C := fun w' => (Below w.heap.size w w' ∧ w'.cell? ⟨w.heap.size, 0, none⟩ = some (.slice TA Tn Tc) ∧ w'.cell? ⟨w.heap.size, 1, none⟩ = some (.slice CA Cn Cc) ∧ w'.cell? ⟨w.heap.size, 2, none⟩ = some (.slice EA En Ec)))
    (F := fun j y w' => match j with
      | 3 => ∃ A c, y 3 = .slice A F.length c ∧ w'.ownsRow W0.heap.size 3 1 (.slice A F.length c) F.length (ins (F.map Col.W))
      | 6 => ∃ g, y 6 = .slice (some ⟨g, 0, none⟩) 1 1 ∧ W0.heap.size ≤ g ∧ Blk w' g 27 #[.int .u64 e]
      | 7 => ∃ A c, y 7 = .slice A (En + 1) c ∧ w'.ownsRow W0.heap.size 27 1 (.slice A (En + 1) c) (En + 1) (ids es ++ [.int .u64 e])
      | 9 => ∃ A c L, y 9 = .slice A L.length c ∧ w'.ownsRow W0.heap.size 28 1 (.slice A L.length c) L.length (grs L) ∧ vls L = allR F es.length ∧ ∀ x ∈ L, GrFresh w' W0.heap.size x
      | 11 => ∃ g, y 11 = .slice (some ⟨g, 0, none⟩) 1 1 ∧ W0.heap.size ≤ g ∧ Blk w' g 28 #[.slice VA vn vc]
      | 12 => ∃ A c L, y 12 = .slice A (L.length + 1) c ∧ w'.ownsRow W0.heap.size 28 1 (.slice A (L.length + 1) c) (L.length + 1) (grs L ++ [.slice VA vn vc]) ∧ vls L = allR F es.length ∧ ∀ x ∈ L, GrFresh w' W0.heap.size x
      | 13 => ∃ A2 c2 A3 c3 F3, y 13 = .agg #[.slice TA Tn Tc, .slice A3 F3.length c3, .slice A2 (En + 1) c2] ∧ w'.ownsRow W0.heap.size 27 1 (.slice A2 (En + 1) c2) (En + 1) (ids es ++ [.int .u64 e]) ∧ w'.ownsRow W0.heap.size 68 3 (.slice A3 F3.length c3) F3.length (cols F3) ∧ F3.map Col.p = PS ∧ ∀ x ∈ F3, ColFresh w' W0.heap.size x
      | 14 => ∃ A2 c2 A3 c3 F3, Blk w' (w.heap.size + 1) 25 #[.slice TA Tn Tc, .slice A3 F3.length c3, .slice A2 (En + 1) c2] ∧ w'.ownsRow W0.heap.size 27 1 (.slice A2 (En + 1) c2) (En + 1) (ids es ++ [.int .u64 e]) ∧ w'.ownsRow W0.heap.size 68 3 (.slice A3 F3.length c3) F3.length (cols F3) ∧ F3.map Col.p = PS ∧ ∀ x ∈ F3, ColFresh w' W0.heap.size x
      | 15 => w'.ownsRow W0.heap.size 27 1 (.slice A1 En c1) En (ids es)
      | 16 => Below W0.heap.size W0 w'
      | _ => True)
    { rem := [3, 6, 7, 9, 11, 12, 13, 14], facts := [3, 6, 7, 9, 11, 12, 13, 14, 15, 16], needs := fun i => match i with | 3 => [16] | 6 => [16] | 7 => [16, 6, 15] | 9 => [16] | 11 => [16] | 12 => [16, 9, 11] | 13 => [16, 3, 7, 12] | 14 => [16, 13] | _ => [], keeps := fun i => match i with | 3 => [16, 6, 11, 15] | 6 => [16, 3, 11, 15] | 7 => [16, 3, 11] | 9 => [16, 3, 7, 11] | 11 => [16, 3, 6, 7, 9, 12, 15] | 12 => [16, 3, 7] | 13 => [16] | _ => [], final := [14] }
    (fun _ => undef) rfl (by kernel_rfl) ?hCS ?hC (Og.All.cons (own_below HO1.out (Below.refl _ _).drew) (Og.All.cons HB1.out.drew Og.All.nil)) (Og.Steps.cons _ rfl rfl ?st3 (Og.Steps.cons _ rfl rfl ?st6 (Og.Steps.cons _ rfl rfl ?st7 (Og.Steps.cons _ rfl rfl ?st9 (Og.Steps.cons _ rfl rfl ?st11 (Og.Steps.cons _ rfl rfl ?st12 (Og.Steps.cons _ rfl rfl ?st13 (Og.Steps.cons _ rfl rfl ?st14 Og.Steps.nil)))))))) ?hE
  case hCS =>
    intro w' hC
    exact hC.2
  case hC =>
    exact HCC.out _ HB1.out.drew
  case st3 =>
    intro y w1 hC hN K hK
    obtain hC : Below W0.heap.size W0 w1 := hN.head
    go_simp
    refine (cwd _ hC).mono ?_
    rintro en w2 ⟨v, rfl, ho, hb⟩
    obtain ⟨A, c, rfl⟩ := own_slice ho
    rw [List.length_map] at ho ⊢
    refine Eq.mp (congrArg (fun a => K a _) ?_) (hK.out (.slice A F.length c) w2 (HCC.out _ (hC.trans (hb.mono hC.size))) ⟨A, c, rfl, base_le ho hC.size⟩ (Og.All.cons (fun _ => hC.trans (hb.mono hC.size)) (Og.All.cons (fun ⟨g, e, hg, h⟩ => ⟨g, e, hg, blk_below h hb⟩) (Og.All.cons (fun ⟨g, e, hg, h⟩ => ⟨g, e, hg, blk_below h hb⟩) (Og.All.cons (fun h => own_below h hb) Og.All.nil)))))
    have u3 : ∀ v, Og.upd y 3 v 3 = v := fun v => rfl
    have u6 : ∀ v, Og.upd y 3 v 6 = y 6 := fun v => rfl
    have u7 : ∀ v, Og.upd y 3 v 7 = y 7 := fun v => rfl
    have u9 : ∀ v, Og.upd y 3 v 9 = y 9 := fun v => rfl
    have u11 : ∀ v, Og.upd y 3 v 11 = y 11 := fun v => rfl
    have u12 : ∀ v, Og.upd y 3 v 12 = y 12 := fun v => rfl
    have u13 : ∀ v, Og.upd y 3 v 13 = y 13 := fun v => rfl
    simp only [Act.put, List.getElem_toArray, List.getElem_cons_succ, List.getElem_cons_zero, List.setIfInBounds_toArray, List.set_cons_zero, List.set_cons_succ, u3, u6, u7, u9, u11, u12, u13]
  case st6 =>
    intro y w1 hC hN K hK
    obtain hC : Below W0.heap.size W0 w1 := hN.head
    go_simp
    have hb := (Below.refl w1.heap.size w1).alloc (Nat.le_refl _) (.cells #[.int .u64 e] 27)
    refine Eq.mp (congrArg (fun a => K a _) ?_) (hK.out (.slice (some ⟨w1.heap.size, 0, none⟩) 1 1) _ (HCC.out _ (hC.trans (hb.mono hC.size))) ⟨w1.heap.size, rfl, hC.size, Blk.new w1 27 #[.int .u64 e]⟩ (Og.All.cons (fun _ => hC.trans (hb.mono hC.size)) (Og.All.cons (fun ⟨A, c, e, h⟩ => ⟨A, c, e, own_below h hb⟩) (Og.All.cons (fun ⟨g, e, hg, h⟩ => ⟨g, e, hg, blk_below h hb⟩) (Og.All.cons (fun h => own_below h hb) Og.All.nil)))))
    have u3 : ∀ v, Og.upd y 6 v 3 = y 3 := fun v => rfl
    have u6 : ∀ v, Og.upd y 6 v 6 = v := fun v => rfl
    have u7 : ∀ v, Og.upd y 6 v 7 = y 7 := fun v => rfl
    have u9 : ∀ v, Og.upd y 6 v 9 = y 9 := fun v => rfl
    have u11 : ∀ v, Og.upd y 6 v 11 = y 11 := fun v => rfl
    have u12 : ∀ v, Og.upd y 6 v 12 = y 12 := fun v => rfl
    have u13 : ∀ v, Og.upd y 6 v 13 = y 13 := fun v => rfl
    simp only [Act.put, List.getElem_toArray, List.getElem_cons_succ, List.getElem_cons_zero, List.setIfInBounds_toArray, List.set_cons_zero, List.set_cons_succ, u3, u6, u7, u9, u11, u12, u13]
  case st7 =>
    intro y w1 hC hN K hK
    obtain hC : Below W0.heap.size W0 w1 := hN.head
    obtain ⟨g6, x6, hg6, hk6⟩ : ∃ g, y 6 = .slice (some ⟨g, 0, none⟩) 1 1 ∧ W0.heap.size ≤ g ∧ Blk w1 g 27 #[.int .u64 e] := hN.tail.head
    obtain ho15 : w1.ownsRow W0.heap.size 27 1 (.slice A1 En c1) En (ids es) := hN.tail.tail.head
    simp only [x6]
    refine wp_append_any _ (.tmp 16) (.tmp 18) 22 rfl W0.heap.size 27 i1 _ 1 8 Try.underlying22 hi0 hz0 hz1 hz2 rfl (by omega) _ En (ids es) (by rfl)
      ho15 (w1.heap.size) (some ⟨g6, 0, none⟩) 1 1 [.int .u64 e] (by rfl) (blk_read hk6) (by simp [Value.oneCell']) (by have := hs.2; simp only [maxLen]; omega) (by have := hs.2; omega) hC.size ?_
    intro v2 w2 ho2 hgA hat2
    have hoA := ho15
    have hb9 := own_grown_below hC ho15 hgA
    obtain ⟨A2, c2, rfl⟩ := own_slice ho2
    refine Eq.mp (congrArg (fun a => K a _) ?_) (hK.out (.slice A2 (En + 1) c2) w2 (HCC.out _ hb9) ⟨A2, c2, rfl, ho2⟩ (Og.All.cons (fun _ => hb9) (Og.All.cons (fun ⟨A, c, e, h⟩ => ⟨A, c, e, own_other h hoA (by decide) hgA⟩) (Og.All.cons (fun ⟨g, e, hg, h⟩ => ⟨g, e, hg, blk_grown_own h hoA (by decide) hgA⟩) Og.All.nil))))
    have u3 : ∀ v, Og.upd y 7 v 3 = y 3 := fun v => rfl
    have u6 : ∀ v, Og.upd y 7 v 6 = y 6 := fun v => rfl
    have u7 : ∀ v, Og.upd y 7 v 7 = v := fun v => rfl
    have u9 : ∀ v, Og.upd y 7 v 9 = y 9 := fun v => rfl
    have u11 : ∀ v, Og.upd y 7 v 11 = y 11 := fun v => rfl
    have u12 : ∀ v, Og.upd y 7 v 12 = y 12 := fun v => rfl
    have u13 : ∀ v, Og.upd y 7 v 13 = y 13 := fun v => rfl
    simp only [Act.put, List.getElem_toArray, List.getElem_cons_succ, List.getElem_cons_zero, List.setIfInBounds_toArray, List.set_cons_zero, List.set_cons_succ, u3, u6, u7, u9, u11, u12, u13, x6]
  case st9 =>
    intro y w1 hC hN K hK
    obtain hC : Below W0.heap.size W0 w1 := hN.head
    go_simp
    refine (crs _ hC).mono ?_
    rintro en w2 ⟨v, L, rfl, ho, hp, ⟨hf, _⟩, hb⟩
    obtain ⟨A, c, rfl⟩ := own_slice ho
    refine Eq.mp (congrArg (fun a => K a _) ?_) (hK.out (.slice A L.length c) w2 (HCC.out _ (hC.trans (hb.mono hC.size))) ⟨A, c, L, rfl, base_le ho hC.size, hp, fun x hx => (hf x hx).base hC.size⟩ (Og.All.cons (fun _ => hC.trans (hb.mono hC.size)) (Og.All.cons (fun ⟨A, c, e, h⟩ => ⟨A, c, e, own_below h hb⟩) (Og.All.cons (fun ⟨A, c, e, h⟩ => ⟨A, c, e, own_below h hb⟩) (Og.All.cons (fun ⟨g, e, hg, h⟩ => ⟨g, e, hg, blk_below h hb⟩) Og.All.nil)))))
    have u3 : ∀ v, Og.upd y 9 v 3 = y 3 := fun v => rfl
    have u6 : ∀ v, Og.upd y 9 v 6 = y 6 := fun v => rfl
    have u7 : ∀ v, Og.upd y 9 v 7 = y 7 := fun v => rfl
    have u9 : ∀ v, Og.upd y 9 v 9 = v := fun v => rfl
    have u11 : ∀ v, Og.upd y 9 v 11 = y 11 := fun v => rfl
    have u12 : ∀ v, Og.upd y 9 v 12 = y 12 := fun v => rfl
    have u13 : ∀ v, Og.upd y 9 v 13 = y 13 := fun v => rfl
    simp only [Act.put, List.getElem_toArray, List.getElem_cons_succ, List.getElem_cons_zero, List.setIfInBounds_toArray, List.set_cons_zero, List.set_cons_succ, u3, u6, u7, u9, u11, u12, u13]
  case st11 =>
    intro y w1 hC hN K hK
    obtain hC : Below W0.heap.size W0 w1 := hN.head
    go_simp
    have hb := (Below.refl w1.heap.size w1).alloc (Nat.le_refl _) (.cells #[.slice VA vn vc] 28)
    refine Eq.mp (congrArg (fun a => K a _) ?_) (hK.out (.slice (some ⟨w1.heap.size, 0, none⟩) 1 1) _ (HCC.out _ (hC.trans (hb.mono hC.size))) ⟨w1.heap.size, rfl, hC.size, Blk.new w1 28 #[.slice VA vn vc]⟩ (Og.All.cons (fun _ => hC.trans (hb.mono hC.size)) (Og.All.cons (fun ⟨A, c, e, h⟩ => ⟨A, c, e, own_below h hb⟩) (Og.All.cons (fun ⟨g, e, hg, h⟩ => ⟨g, e, hg, blk_below h hb⟩) (Og.All.cons (fun ⟨A, c, e, h⟩ => ⟨A, c, e, own_below h hb⟩) (Og.All.cons (fun ⟨A, c, L, e, h, hp, hf⟩ => ⟨A, c, L, e, own_below h hb, hp, fun x hx => (hf x hx).below hb⟩) (Og.All.cons (fun ⟨A, c, L, e, h, hp, hf⟩ => ⟨A, c, L, e, own_below h hb, hp, fun x hx => (hf x hx).below hb⟩) (Og.All.cons (fun h => own_below h hb) Og.All.nil))))))))
    have u3 : ∀ v, Og.upd y 11 v 3 = y 3 := fun v => rfl
    have u6 : ∀ v, Og.upd y 11 v 6 = y 6 := fun v => rfl
    have u7 : ∀ v, Og.upd y 11 v 7 = y 7 := fun v => rfl
    have u9 : ∀ v, Og.upd y 11 v 9 = y 9 := fun v => rfl
    have u11 : ∀ v, Og.upd y 11 v 11 = v := fun v => rfl
    have u12 : ∀ v, Og.upd y 11 v 12 = y 12 := fun v => rfl
    have u13 : ∀ v, Og.upd y 11 v 13 = y 13 := fun v => rfl
    simp only [Act.put, List.getElem_toArray, List.getElem_cons_succ, List.getElem_cons_zero, List.setIfInBounds_toArray, List.set_cons_zero, List.set_cons_succ, u3, u6, u7, u9, u11, u12, u13]
  case st12 =>
    intro y w1 hC hN K hK
    obtain hC : Below W0.heap.size W0 w1 := hN.head
    obtain ⟨A9, c9, L, x9, ho9, hp9, hf9⟩ : ∃ A c L, y 9 = .slice A L.length c ∧ w1.ownsRow W0.heap.size 28 1 (.slice A L.length c) L.length (grs L) ∧ vls L = allR F es.length ∧ ∀ x ∈ L, GrFresh w1 W0.heap.size x := hN.tail.head
    obtain ⟨g11, x11, hg11, hk11⟩ : ∃ g, y 11 = .slice (some ⟨g, 0, none⟩) 1 1 ∧ W0.heap.size ≤ g ∧ Blk w1 g 28 #[.slice VA vn vc] := hN.tail.tail.head
    simp only [x9, x11]
    have hL9 : L.length = En := by
      have h1 := congrArg List.length hp9
      unfold vls at h1
      rw [List.length_map, allR_len, HL.out.2.2] at h1
      exact h1
    refine wp_append_any _ (.tmp 21) (.tmp 23) 112 rfl W0.heap.size 28 i2 _ 1 24 Try.underlying112 hj0 hj1 hj2 hj3 rfl (by omega) _ L.length (grs L) (by rfl)
      ho9 (w1.heap.size) (some ⟨g11, 0, none⟩) 1 1 [.slice VA vn vc] (by rfl) (blk_read hk11) (by simp [Value.oneCell']) (by have := hs.2; simp only [maxLen]; omega) (by have := hs.2; omega) hC.size ?_
    intro v2 w2 ho2 hgA hat2
    have hoA := ho9
    have hb9 := own_grown_below hC ho9 hgA
    obtain ⟨A2, c2, rfl⟩ := own_slice ho2
    refine Eq.mp (congrArg (fun a => K a _) ?_) (hK.out (.slice A2 (L.length + 1) c2) w2 (HCC.out _ hb9) ⟨A2, c2, L, rfl, ho2, hp9, fun x hx => (hf9 x hx).grown ho9 (by decide) (by decide) hgA⟩ (Og.All.cons (fun _ => hb9) (Og.All.cons (fun ⟨A, c, e, h⟩ => ⟨A, c, e, own_other h hoA (by decide) hgA⟩) (Og.All.cons (fun ⟨A, c, e, h⟩ => ⟨A, c, e, own_other h hoA (by decide) hgA⟩) Og.All.nil))))
    have u3 : ∀ v, Og.upd y 12 v 3 = y 3 := fun v => rfl
    have u6 : ∀ v, Og.upd y 12 v 6 = y 6 := fun v => rfl
    have u7 : ∀ v, Og.upd y 12 v 7 = y 7 := fun v => rfl
    have u9 : ∀ v, Og.upd y 12 v 9 = y 9 := fun v => rfl
    have u11 : ∀ v, Og.upd y 12 v 11 = y 11 := fun v => rfl
    have u12 : ∀ v, Og.upd y 12 v 12 = v := fun v => rfl
    have u13 : ∀ v, Og.upd y 12 v 13 = y 13 := fun v => rfl
    simp only [Act.put, List.getElem_toArray, List.getElem_cons_succ, List.getElem_cons_zero, List.setIfInBounds_toArray, List.set_cons_zero, List.set_cons_succ, u3, u6, u7, u9, u11, u12, u13, x9, x11]
  case st13 =>
    intro y w1 hC hN K hK
    obtain hC : Below W0.heap.size W0 w1 := hN.head
    obtain ⟨A3, c3, x3, ho3⟩ : ∃ A c, y 3 = .slice A F.length c ∧ w1.ownsRow W0.heap.size 3 1 (.slice A F.length c) F.length (ins (F.map Col.W)) := hN.tail.head
    obtain ⟨A7, c7, x7, ho7⟩ : ∃ A c, y 7 = .slice A (En + 1) c ∧ w1.ownsRow W0.heap.size 27 1 (.slice A (En + 1) c) (En + 1) (ids es ++ [.int .u64 e]) := hN.tail.tail.head
    obtain ⟨A12, c12, L, x12, ho12, hp12, hf12⟩ : ∃ A c L, y 12 = .slice A (L.length + 1) c ∧ w1.ownsRow W0.heap.size 28 1 (.slice A (L.length + 1) c) (L.length + 1) (grs L ++ [.slice VA vn vc]) ∧ vls L = allR F es.length ∧ ∀ x ∈ L, GrFresh w1 W0.heap.size x := hN.tail.tail.tail.head
    simp only [x3, x7, x12]
    go_simp
    with_reducible refine (cof w1 hC L A3 c3 A7 c7 A12 c12 ho3 ho12 hp12 hf12).mono ?_
    rintro en w2 ⟨v, F3, rfl, ho, hp, hf, hb⟩
    obtain ⟨A, c, rfl⟩ := own_slice ho
    refine Eq.mp (congrArg (fun a => K a _) ?_) (hK.out (.agg #[.slice TA Tn Tc, .slice A F3.length c, .slice A7 (En + 1) c7]) w2 (HCC.out _ (hC.trans (hb.mono hC.size))) ⟨A7, c7, A, c, F3, rfl, own_below ho7 hb, base_le ho hC.size, hp, fun x hx => colFresh_base (hf x hx) hC.size⟩ (Og.All.cons (fun _ => hC.trans (hb.mono hC.size)) Og.All.nil))
    have u3 : ∀ v, Og.upd y 13 v 3 = y 3 := fun v => rfl
    have u6 : ∀ v, Og.upd y 13 v 6 = y 6 := fun v => rfl
    have u7 : ∀ v, Og.upd y 13 v 7 = y 7 := fun v => rfl
    have u9 : ∀ v, Og.upd y 13 v 9 = y 9 := fun v => rfl
    have u11 : ∀ v, Og.upd y 13 v 11 = y 11 := fun v => rfl
    have u12 : ∀ v, Og.upd y 13 v 12 = y 12 := fun v => rfl
    have u13 : ∀ v, Og.upd y 13 v 13 = v := fun v => rfl
    simp only [Act.put, List.getElem_toArray, List.getElem_cons_succ, List.getElem_cons_zero, List.setIfInBounds_toArray, List.set_cons_zero, List.set_cons_succ, u3, u6, u7, u9, u11, u12, u13, x3, x7, x12]
  case st14 =>
    intro y w1 hC hN K hK
    obtain hC : Below W0.heap.size W0 w1 := hN.head
    obtain ⟨A2, c2, A3, c3, F3, x13, ho2, ho3, hp3, hf3⟩ : ∃ A2 c2 A3 c3 F3, y 13 = .agg #[.slice TA Tn Tc, .slice A3 F3.length c3, .slice A2 (En + 1) c2] ∧ w1.ownsRow W0.heap.size 27 1 (.slice A2 (En + 1) c2) (En + 1) (ids es ++ [.int .u64 e]) ∧ w1.ownsRow W0.heap.size 68 3 (.slice A3 F3.length c3) F3.length (cols F3) ∧ F3.map Col.p = PS ∧ ∀ x ∈ F3, ColFresh w1 W0.heap.size x := hN.tail.head
    simp only [x13]
    have hk := blk_below HK1.out hC
    obtain ⟨⟨z0, z1, z2⟩, zf⟩ := blk_cells3 hk
    have zf0 := zf 0
    have zf1 := zf 1
    have zf2 := zf 2
    obtain ⟨q0, q1, q2⟩ := HC.out _ hC
    have hCW := HB.out.trans (hC.mono HB.out.size)
    go_simp
    refine Eq.mp (congrArg (fun a => K a _) ?_) (hK.out (undef) _ (⟨below_set3 hCW (by omega), far3 _ _ _ trivial q0 (by omega), far3 _ _ _ trivial q1 (by omega), far3 _ _ _ trivial q2 (by omega)⟩) ⟨A2, c2, A3, c3, F3, ((hk.set_ 0 _).set_ 1 _).set_ 2 _, own_set3 ho2 hk (by decide) _ _ _, own_set3 ho3 hk (by decide) _ _ _, hp3, fun x hx => fresh_set3 (hf3 x hx) hk (by decide) _ _ _⟩ Og.All.nil)
    have u3 : ∀ v, Og.upd y 14 v 3 = y 3 := fun v => rfl
    have u6 : ∀ v, Og.upd y 14 v 6 = y 6 := fun v => rfl
    have u7 : ∀ v, Og.upd y 14 v 7 = y 7 := fun v => rfl
    have u9 : ∀ v, Og.upd y 14 v 9 = y 9 := fun v => rfl
    have u11 : ∀ v, Og.upd y 14 v 11 = y 11 := fun v => rfl
    have u12 : ∀ v, Og.upd y 14 v 12 = y 12 := fun v => rfl
    have u13 : ∀ v, Og.upd y 14 v 13 = y 13 := fun v => rfl
    simp only [Act.put, List.getElem_toArray, List.getElem_cons_succ, List.getElem_cons_zero, List.setIfInBounds_toArray, List.set_cons_zero, List.set_cons_succ, u3, u6, u7, u9, u11, u12, u13, x13]
  case hE =>
    intro y w1 hC hF
    obtain ⟨A2, c2, A3, c3, F3, hk, ho2, ho3, hp3, hf3⟩ : ∃ A2 c2 A3 c3 F3, Blk w1 (w.heap.size + 1) 25 #[.slice TA Tn Tc, .slice A3 F3.length c3, .slice A2 (En + 1) c2] ∧ w1.ownsRow W0.heap.size 27 1 (.slice A2 (En + 1) c2) (En + 1) (ids es ++ [.int .u64 e]) ∧ w1.ownsRow W0.heap.size 68 3 (.slice A3 F3.length c3) F3.length (cols F3) ∧ F3.map Col.p = PS ∧ ∀ x ∈ F3, ColFresh w1 W0.heap.size x := hF.head
    have hCB := hC.1
    clear hC hF
    generalize y 3 = y3
    generalize y 6 = y6
    generalize y 7 = y7
    generalize y 9 = y9
    generalize y 11 = y11
    generalize y 12 = y12
    generalize y 13 = y13
    clear y
    obtain ⟨⟨z0, z1, z2⟩, _⟩ := blk_cells3 hk
    have HK := Lib.hid hk
    have HO2 := Lib.hid ho2
    have HO3 := Lib.hid ho3
    have HP3 := Lib.hid hp3
    have HF3 := Lib.hid hf3
    have HCB := Lib.hid hCB
    clear hk ho2 ho3 hp3 hf3 hCB cwd crs cof x0 x1 x2 hHeld
    go_wp2_with fail
    refine bodyPost_ret (v := .agg #[.slice TA Tn Tc, .slice A3 F3.length c3, .slice A2 (En + 1) c2]) (by simp [results, Try.results21, go_sem, *]) rfl ?_
    have ht := (H0.out.keep HCB.out).more HCB.out.size
    obtain ⟨A2', c2', e2, l2, m2⟩ := own_cap HO2.out
    obtain ⟨A3', c3', e3, l3, m3⟩ := own_cap HO3.out
    injection e2 with _ _ e2
    injection e3 with _ _ e3
    have hr2 := Reads.of_own HO2.out
    rw [show ids es ++ [.int .u64 e] = ids (es ++ [e]) from by unfold ids; rw [List.map_append]; rfl] at hr2
    have ho2' := HO2.out
    rw [show ids es ++ [.int .u64 e] = ids (es ++ [e]) from by unfold ids; rw [List.map_append]; rfl] at ho2'
    have hwe' : ∀ x ∈ es ++ [e], Word x := fun x hx => by
      rcases List.mem_append.1 hx with hx | hx
      · exact ht.esw x hx
      · rw [List.mem_singleton] at hx; subst hx; exact HWE.out
    exact ⟨⟨TA, Tn, Tc, ty, A3, F3.length, c3, F3, A2, En + 1, c2, es ++ [e]⟩, rfl, by rw [HP.out]; unfold Tab.p; rw [HP3.out], ⟨ht.ty, ht.tyc, ht.tyw, Reads.of_own HO3.out, ⟨by rw [e3]; exact l3, by rw [e3]; unfold maxLen; exact m3⟩, fun x hx => (HF3.out x hx).1, hr2, ⟨by rw [e2]; exact l2, by rw [e2]; unfold maxLen; exact m2⟩, fun x hx => by
      rcases List.mem_append.1 hx with hx | hx
      · exact ht.esw x hx
      · rw [List.mem_singleton] at hx; subst hx; exact HWE.out⟩, HCB.out, fun b hb hf => ⟨hf.ty.below HCB.out, base_le HO3.out (Nat.le_trans hb HB.out.size), fun x hx => colFresh_base (HF3.out x hx) (Nat.le_trans hb HB.out.size), idFresh_own (base_le ho2' (Nat.le_trans hb HB.out.size)) hwe'⟩⟩
end Go.Proofs.Ytbcbknajhdaneaa
namespace Go.Proofs.Ytbcbknajhdaneaa
open Go.RowKit
set_option linter.unusedVariables false
set_option linter.unusedSimpArgs false
theorem own_form {w : World} {base n size c : Nat} {e : TypeId} {A : Option Addr} {xs : List Value} (h : w.ownsRow base e size (.slice A n c) n xs) (hn : 0 < n) : ∃ g, A = some ⟨g, 0, none⟩ := by
  obtain ⟨g, cap, hv, _⟩ := h.form hn
  injection hv with ha _ _
  exact ⟨g, ha⟩
theorem grs_set (L : List Gr) (r : Nat) (x : Gr) : grs (L.set r x) = (grs L).set r x.V := by unfold grs; rw [List.map_set]
theorem vls_set (L : List Gr) (r : Nat) (x : Gr) : vls (L.set r x) = (vls L).set r x.vl := by unfold vls; rw [List.map_set]
theorem rws_set (G : List Rw) (k : Nat) (v : Rw) : rws (G.set k v) = (rws G).set k v.V := by unfold rws; rw [List.map_set]
theorem set_same {α : Type} {l : List α} {k : Nat} {x : α} (h : l[k]? = some x) : l.set k x = l := by
  refine List.ext_getElem? fun j => ?_
  rw [List.getElem?_set]
  by_cases hj : k = j
  · subst hj; rw [if_pos rfl, h, if_pos (List.getElem?_eq_some_iff.1 h).1]
  · rw [if_neg hj]
end Go.Proofs.Ytbcbknajhdaneaa
namespace Go.Proofs.Ytbcbknajhdaneaa
open Go.RowKit
set_option linter.unusedVariables false
set_option linter.unusedSimpArgs false
theorem allR_at {F : List Col} {m r : Nat} (hr : r < m) : (allR F m)[r]? = some (rowL F r) := by
  unfold allR; rw [List.getElem?_map, List.getElem?_range hr]; rfl
end Go.Proofs.Ytbcbknajhdaneaa
namespace Go.Proofs.Ytbcbknajhdaneaa
open Go.RowKit
set_option linter.unusedVariables false
set_option linter.unusedSimpArgs false
/-- what comes of the document's Swap -/
def rswapR (t : Tab) (r m : Nat) : List (List (List Int)) := ((allR t.F (m + 1)).set r (rowL t.F m)).take m
def rswapP (t : Tab) (r m : Nat) : PT := (t.ty, ofL (rswapR t r m) (m : Int) 0 (t.F.map Col.W), swapEs t.es r)
def TabGot2 (t0 : Tab) (p : PT) (mv : Int) (w : World) (e : Ending) (w' : World) : Prop := ∃ t : Tab, e = .returned (.tuple #[t.V, .int .u64 mv]) ∧ t.p = p ∧ TabOk w' w'.heap.size t ∧ Below w.heap.size w w' ∧ ∀ b, b ≤ w.heap.size → TabFresh w b t0 → TabFresh w' b t
theorem idAt_of {l : List Int} {k : Nat} (hk : k < l.length) : l[k]? = some (idAt l k) := by unfold idAt; rw [List.getElem?_eq_getElem hk]
theorem cell_ids {w : World} {base n c g k : Nat} {l : List Int} {x : Int} (h : w.ownsRow base 27 1 (.slice (some ⟨g, 0, none⟩) n c) n (ids l)) (hk : l[k]? = some x) : w.cell? ⟨g, k, none⟩ = some (.int .u64 x) := by
  obtain ⟨b2, off2, e2, hbl2, g2⟩ := ids_cell (Reads.of_own h) hk
  injection e2 with e2
  injection e2 with e2 e3
  subst e2 e3
  rw [Nat.zero_add] at g2
  exact g2
theorem cell_grs {w : World} {base n c g k : Nat} {L : List Gr} {x : Gr} (h : w.ownsRow base 28 1 (.slice (some ⟨g, 0, none⟩) n c) n (grs L)) (hk : L[k]? = some x) : w.cell? ⟨g, k, none⟩ = some (.slice x.A x.n x.c) := by
  obtain ⟨b2, off2, e2, hbl2, g2⟩ := grs_cell (Reads.of_own h) hk
  injection e2 with e2
  injection e2 with e2 e3
  subst e2 e3
  rw [Nat.zero_add] at g2
  exact g2
theorem reads_pre {w : World} {B n m : Nat} {A : Option Addr} {xs : List Value} (h : Reads w B 1 A n xs) (hm : m ≤ n) : Reads w B 1 A m (xs.take m) := by
  have h1 := h.1
  refine ⟨by rw [List.length_take]; omega, fun h0 => ?_⟩
  obtain ⟨a, e, h2, h3⟩ := h.2 (by omega)
  refine ⟨a, e, h2, fun j x hx => ?_⟩
  rw [List.getElem?_take] at hx
  split at hx
  · exact h3 j x hx
  · cases hx
theorem grs_take (L : List Gr) (k : Nat) : grs (L.take k) = (grs L).take k := by unfold grs; rw [List.map_take]
set_option maxRecDepth 100000 in
set_option maxHeartbeats 8000000 in
theorem rswap_any (t : Tab) (r m : Nat) (w : World) (h : TabOk w w.heap.size t) (hs : t.Cn ≤ 65536 ∧ t.En ≤ 65535) (hb0 : tabB t = true) (hm : t.es.length = m + 1) (hr : r ≤ m) :
    Calls Try.prog 38 #[t.V, .int .i64 (r : Int)] w (TabGot2 t (rswapP t r m) (if r = m then 0 else idAt t.es m) w) := by
  obtain ⟨mv, hmv⟩ : ∃ mv : Int, mv = (if r = m then 0 else idAt t.es m) := ⟨_, rfl⟩
  rw [← hmv]
  have HMV := Lib.hid hmv
  clear hmv
  obtain ⟨i1, hi0, hz0, hz1, hz2⟩ := info_parts info_id
  obtain ⟨W0, hW0, hB, hsz, k0, k1⟩ := two_blk w 25 25 #[.slice t.TA t.Tn t.Tc, .slice t.CA t.Cn t.Cc, .slice t.EA t.En t.Ec] #[.slice none 0 0, .slice none 0 0, .slice none 0 0]
  have hT := (h.keep hB).more hB.size
  have hlen := h.len
  have hEm : t.En = m + 1 := by have := hlen.2.2; omega
  have cwd := fun (W : World) (hb : Below W0.heap.size W0 W) => rwidths_any t W ((hT.keep hb).more hb.size) hs.1
  have crs := fun (W : World) (hb : Below W0.heap.size W0 W) => rrows_any t W ((hT.keep hb).more hb.size) hs.1 (by omega) hb0
  rw [hm] at crs
  have hPS : ofL (rswapR t r m) (m : Int) 0 (t.F.map Col.W) = (rswapP t r m).2.1 := rfl
  have hR4 : ∀ q ∈ rswapR t r m, ∀ z ∈ q, z.length ≤ 4 := by
    intro q hq z hz
    unfold rswapR at hq
    rcases List.mem_or_eq_of_mem_set (List.mem_of_mem_take hq) with hq | rfl
    · exact allR_small hb0 _ q hq z hz
    · exact allR_small hb0 (m + 1) _ (List.mem_of_getElem? (allR_at (Nat.lt_succ_self m))) z hz
  have hRl : ∀ q ∈ rswapR t r m, q.length = t.F.length := by
    intro q hq
    unfold rswapR at hq
    rcases List.mem_or_eq_of_mem_set (List.mem_of_mem_take hq) with hq | rfl
    · exact allR_row q hq
    · unfold rowL; rw [List.length_map]
  have cof := fun (w1 : World) (L2 : List Gr) (A3 : Option Addr) (c3 : Nat) (A7 : Option Addr) (c7 : Nat) (A12 : Option Addr) (c12 : Nat)
      (ho3 : w1.ownsRow W0.heap.size 3 1 (.slice A3 t.F.length c3) t.F.length (ins (t.F.map Col.W)))
      (ho12 : Reads w1 w1.heap.size 1 A12 m (grs L2)) (hp12 : vls L2 = rswapR t r m) (hf12 : ∀ x ∈ L2, GrOk w1 w1.heap.size x) =>
    of_rows hb0 hs.1 hs.2 ⟨hlen.2.1, hlen.2.2⟩ t.TA t.Tn t.Tc A3 c3 A7 c7 m A12 m c12 L2 w1 (by omega) (rswapR t r m) hp12 hR4 hRl
      (by unfold rswapR; rw [List.length_take, List.length_set, allR_len]; omega) (Reads.of_own ho3) ho12 hf12
  rw [hPS] at cof
  have hes := hT.es
  have hesl := idAt_of (l := t.es) (k := m) (by omega)
  have hesr := idAt_of (l := t.es) (k := r) (by omega)
  have hwm : Word (idAt t.es m) := h.esw _ (List.mem_of_getElem? hesl)
  have HP := Lib.hid (show rswapP t r m = (t.ty, (rswapP t r m).2.1, swapEs t.es r) from rfl)
  have HRR := Lib.hid (show ((allR t.F (m + 1)).set r (rowL t.F m)).take m = rswapR t r m from rfl)
  have HSE := Lib.hid (show (t.es.set r (idAt t.es m)).take m = swapEs t.es r from by unfold swapEs; rw [hm, Nat.add_sub_cancel])
  have HSW := Lib.hid (swapEs_word (k := r) h.esw (by omega))
  generalize (rswapP t r m).2.1 = PS at cof HP
  generalize rswapP t r m = PT0 at HP ⊢
  generalize rswapR t r m = RS at cof HRR
  generalize idAt t.es m = em at *
  generalize idAt t.es r = er at *
  generalize swapEs t.es r = se at *
  have HW := Lib.hid hW0
  have HS := Lib.hid hsz
  have HB := Lib.hid hB
  have HC := Lib.hid (fun (W : World) (hb : Below W0.heap.size W0 W) => (blk_cells3 (blk_below k0 hb)).1)
  have HK1 := Lib.hid k1
  have H0 := Lib.hid h
  have HL := Lib.hid hlen
  obtain ⟨⟨s0, s1, s2⟩, _⟩ := blk_cells3 k0
  obtain ⟨TA, Tn, Tc, ty, CA, Cn, Cc, F, EA, En, Ec, es⟩ := t
  simp only at hs s0 s1 s2 HC cof HL HP HW HRR hr hes hm hesl hesr HSE HSW hEm
  unfold Tab.V at cwd crs ⊢
  unfold OwnGs at crs
  unfold OwnN at cwd
  unfold OfR at cof
  simp only at cwd crs ⊢
  clear hW0 hB hsz k0 k1 hT hlen hb0 h hPS hR4 hRl
  subst hEm
  have HCC := Lib.hid (fun (W : World) (hb : Below W0.heap.size W0 W) => And.intro (HB.out.trans (hb.mono HB.out.size)) (HC.out W hb))
  have e1 : IntKind.i64.wrap (((m + 1 : Nat) : Int) - 1) = (m : Int) := by rw [i64_wrap (by omega)]; omega
  have HM := Lib.hid hm
  have HESL := Lib.hid hesl
  have HESR := Lib.hid hesr
  clear hm hesl hesr
  go_enter Try.func38, Try.ntmps38
  go_upto_region 1 with fail
  rw [← HW.out]
  go_upto_region 5 with (first
    | (go_at_call 75; ((with_reducible refine (crs _ (Below.refl _ _)).mono ?_); rintro en w1 ⟨v9, L, rfl, ho, hp, ⟨hf, hsr⟩, hb⟩; obtain ⟨AL, cL, rfl⟩ := own_slice ho; obtain ⟨s0, s1, s2⟩ := HC.out _ hb; have hLl : L.length = m + 1 := (by have h1 := congrArg List.length hp; unfold vls at h1; rw [List.length_map, allR_len] at h1; exact h1); rw [hLl]; rw [hLl] at ho; have HOL := Lib.hid ho; have HPL := Lib.hid hp; have HFL := Lib.hid hf; have HLL := Lib.hid hLl; clear ho hp hf hsr hLl))
    | (at_builtin
       refine wpList_append_any _ rfl (.tmp 15) (.tmp 17) _ rfl W0.heap.size 27 i1 _ 1 8 Try.underlying22 hi0 hz0 hz1 hz2 rfl (by omega) _ 0 [] rfl
         (World.ownsRow_nil _ _ _ _) w1.heap.size EA (m + 1) Ec (ids es) rfl ((hes.below hb).more hb.size) (ids_one es) (by have := hs.2; simp only [maxLen]; omega) (by have := hs.2; omega) hb.size ?_
       intro v1 w2 hown1 hg1 hat1)
    | fail)
  have hb2 : Below w1.heap.size w1 w2 := own_grown_below (Below.refl _ _) (World.ownsRow_nil w1 w1.heap.size 27 1) hg1
  rw [Nat.zero_add, List.nil_append] at hown1
  obtain ⟨A1, c1, rfl⟩ := own_slice hown1
  have hB2 := hb.trans (hb2.mono hb.size)
  have hoL := own_below HOL.out hb2
  have hfL := fun y (hy : y ∈ L) => (HFL.out y hy).below hb2
  obtain ⟨gA, hgA⟩ := own_form hown1 (by omega)
  obtain ⟨gL, hgL⟩ := own_form hoL (by omega)
  subst hgA hgL
  have exm := List.getElem?_eq_getElem (l := L) (i := m) (by rw [HLL.out]; omega)
  generalize L[m]'(by rw [HLL.out]; omega) = xm at exm
  have exr := List.getElem?_eq_getElem (l := L) (i := r) (by rw [HLL.out]; omega)
  generalize L[r]'(by rw [HLL.out]; omega) = xr at exr
  have cAm : w2.cell? ⟨gA, m, none⟩ = some (.int .u64 em) := cell_ids hown1 HESL.out
  have cAr : w2.cell? ⟨gA, r, none⟩ = some (.int .u64 er) := cell_ids hown1 HESR.out
  have cLm : w2.cell? ⟨gL, m, none⟩ = some (.slice xm.A xm.n xm.c) := cell_grs hoL exm
  have cLr : w2.cell? ⟨gL, r, none⟩ = some (.slice xr.A xr.n xr.c) := cell_grs hoL exr
  have fAr := hown1.frozenAt r
  have fLr := hoL.frozenAt r
  have hAL : gA ≠ gL := by
    obtain ⟨cur, hc1⟩ := own_cells hown1
    obtain ⟨cur2, hc2⟩ := own_cells hoL
    intro e
    subst e
    unfold Blk at hc1 hc2
    rw [hc1] at hc2
    injection hc2 with hc2
    injection hc2 with _ hc2
    exact absurd hc2 (by decide)
  have sA := hown1.stored r (.int .u64 em)
  rw [ids_set] at sA
  have hoL1 := hoL.kept sA.2 (.inr (own_blk_ne hoL (own_cells hown1).choose_spec (by decide)))
  have sL := hoL1.stored r (.slice xm.A xm.n xm.c)
  rw [show (grs L).set r (.slice xm.A xm.n xm.c) = grs (L.set r xm) from (grs_set L r xm).symm] at sL
  have sA2 := sA.1.kept sL.2 (.inr (own_blk_ne sA.1 (own_cells hoL1).choose_spec (by decide)))
  have sB1 : Below W0.heap.size W0 (w2.setCell ⟨gA, r, none⟩ (.int .u64 em)) := hB2.setCell (p := ⟨gA, r, none⟩) (own_base hown1) _
  have sB := sB1.setCell (p := ⟨gL, r, none⟩) (own_base hoL) (.slice xm.A xm.n xm.c)
  have sF : ∀ y ∈ L.set r xm, GrFresh ((w2.setCell ⟨gA, r, none⟩ (.int .u64 em)).setCell ⟨gL, r, none⟩ (.slice xm.A xm.n xm.c)) W0.heap.size y := by
    intro y hy
    have hy2 : y ∈ L := by
      rcases List.mem_or_eq_of_mem_set hy with hy | rfl
      · exact hy
      · exact List.mem_of_getElem? exm
    exact ((hfL y hy2).grown hown1 (by decide) (by decide) sA.2).grown hoL1 (by decide) (by decide) sL.2
  have sV : vls ((L.set r xm).take m) = RS := by
    have h1 : xm.vl = rowL F m := by
      have h2 := allR_at (F := F) (m := m + 1) (Nat.lt_succ_self m)
      rw [← HPL.out] at h2
      unfold vls at h2
      rw [List.getElem?_map, exm] at h2
      simpa using h2
    rw [vls_take, vls_set, h1, HPL.out, HRR.out]
  have cAm2 : ((w2.setCell ⟨gA, r, none⟩ (.int .u64 em)).setCell ⟨gL, r, none⟩ (.slice xm.A xm.n xm.c)).cell? ⟨gA, m, none⟩ = some (.int .u64 em) := cell_ids (k := m) sA2 (by
    rw [List.getElem?_set]
    split
    · rw [if_pos (by rw [HM.out]; omega)]
    · exact HESL.out)
  have hgt : ∀ v, (w2.setCell ⟨gA, r, none⟩ v).cell? ⟨gL, m, none⟩ = some (.slice xm.A xm.n xm.c) := fun v => (World.cell?_setCell_other _ _ _ _ (fun ee => hAL (by injection ee))).trans cLm
  have cLr2 : (w2.setCell ⟨gA, r, none⟩ (.int .u64 em)).cell? ⟨gL, r, none⟩ = some (.slice xr.A xr.n xr.c) := (World.cell?_setCell_other _ _ _ _ (fun ee => hAL (by injection ee))).trans cLr
  have cAm1 : (w2.setCell ⟨gA, r, none⟩ (.int .u64 em)).cell? ⟨gA, m, none⟩ = some (.int .u64 em) := cell_ids (k := m) sA.1 (by
    rw [List.getElem?_set]
    split
    · rw [if_pos (by rw [HM.out]; omega)]
    · exact HESL.out)
  have fLr2 : (w2.setCell ⟨gA, r, none⟩ (.int .u64 em)).frozen? ⟨gL, r, none⟩ = false := hoL1.frozenAt r
  have cLm3 : ((w2.setCell ⟨gA, r, none⟩ (.int .u64 em)).setCell ⟨gL, r, none⟩ (.slice xm.A xm.n xm.c)).cell? ⟨gL, m, none⟩ = some (.slice xm.A xm.n xm.c) := cell_grs (k := m) (x := xm) sL.1 (by
    rw [List.getElem?_set]
    split
    · rw [if_pos (by rw [HLL.out]; omega)]
    · exact exm)
  have SA := Lib.hid sA2
  have SL := Lib.hid sL.1
  have SB := Lib.hid sB
  have SF := Lib.hid sF
  have SV := Lib.hid sV
  have CAM := Lib.hid cAm2
  have HLM3 := Lib.hid cLm3
  have HGT := Lib.hid hgt
  have hrm : (r : Int) < (m : Int) + 1 := by omega
  have hmm : (m : Int) < (m : Int) + 1 := by omega
  clear sA2 hoL1 sL sB sF sV cAm2 hgt cLm3 sA sB1 hfL hoL hB2 hb2 hown1 hg1 hat1 exm exr s0 s1 s2 hes hb hAL
  refine wp_region_held_drew (S := fun w' => w'.cell? ⟨gA, m, none⟩ = some (.int .u64 em) ∧ w'.cell? ⟨gL, m, none⟩ = some (.slice xm.A xm.n xm.c)) (by kernel_rfl) ⟨cAm, cLm⟩ (fun hHeld => ?_)
  refine wpAnyH_take (i := 0) (oi := _) (v := ?_) rfl (by kernel_rfl) (by kernel_rfl) (by kernel_rfl) (fun _ _ _ h => h) (Or.inl ⟨by rfl, ?_⟩) hHeld ?_
  rotate_left
  · intro w hSw; obtain ⟨t0, t1⟩ := hSw; go_simp; try with_reducible rfl
  simp only [Act.put, List.getElem_toArray, List.getElem_cons_succ, List.getElem_cons_zero, List.setIfInBounds_toArray, List.set_cons_zero, List.set_cons_succ]
  refine wpAnyH_take (i := 1) (oi := _) (v := ?_) rfl (by kernel_rfl) (by kernel_rfl) (by kernel_rfl) (fun _ _ _ h => h) (Or.inl ⟨by rfl, ?_⟩) hHeld ?_
  rotate_left
  · intro w hSw; obtain ⟨t0, t1⟩ := hSw; go_simp; try with_reducible rfl
  simp only [Act.put, List.getElem_toArray, List.getElem_cons_succ, List.getElem_cons_zero, List.setIfInBounds_toArray, List.set_cons_zero, List.set_cons_succ]
  refine wpAnyH_take (i := 2) (oi := _) (v := ?_) rfl (by kernel_rfl) (by kernel_rfl) (by kernel_rfl) (fun _ _ _ h => h) (Or.inl ⟨by rfl, ?_⟩) hHeld ?_
  rotate_left
  · intro w hSw; obtain ⟨t0, t1⟩ := hSw; go_simp; try with_reducible rfl
  simp only [Act.put, List.getElem_toArray, List.getElem_cons_succ, List.getElem_cons_zero, List.setIfInBounds_toArray, List.set_cons_zero, List.set_cons_succ]
  refine wpAnyH_take (i := 3) (oi := _) (v := ?_) rfl (by kernel_rfl) (by kernel_rfl) (by kernel_rfl) (fun _ _ _ h => h) (Or.inl ⟨by rfl, ?_⟩) hHeld ?_
  rotate_left
  · intro w hSw; obtain ⟨t0, t1⟩ := hSw; go_simp; try with_reducible rfl
  simp only [Act.put, List.getElem_toArray, List.getElem_cons_succ, List.getElem_cons_zero, List.setIfInBounds_toArray, List.set_cons_zero, List.set_cons_succ]
  refine wpAnyH_take (i := 4) (oi := _) (v := ?_) rfl (by kernel_rfl) (by kernel_rfl) (by kernel_rfl) (fun _ _ _ h => h) (Or.inl ⟨by rfl, ?_⟩) hHeld ?_
  rotate_left
  · intro w hSw; obtain ⟨t0, t1⟩ := hSw; go_simp; try with_reducible rfl
  simp only [Act.put, List.getElem_toArray, List.getElem_cons_succ, List.getElem_cons_zero, List.setIfInBounds_toArray, List.set_cons_zero, List.set_cons_succ]
  refine wpAnyH_take (i := 5) (oi := _) (v := ?_) rfl (by kernel_rfl) (by kernel_rfl) (by kernel_rfl) (fun _ _ _ h => h) (Or.inl ⟨by rfl, ?_⟩) hHeld ?_
  rotate_left
  · intro w hSw; obtain ⟨t0, t1⟩ := hSw; go_simp; try with_reducible rfl
  simp only [Act.put, List.getElem_toArray, List.getElem_cons_succ, List.getElem_cons_zero, List.setIfInBounds_toArray, List.set_cons_zero, List.set_cons_succ]
  refine wpAnyH_take (i := 6) (oi := _) (v := ?_) rfl (by kernel_rfl) (by kernel_rfl) (by kernel_rfl) (fun _ _ _ h => h) (Or.inl ⟨by rfl, ?_⟩) hHeld ?_
  rotate_left
  · intro w hSw; obtain ⟨t0, t1⟩ := hSw; go_simp; try with_reducible rfl
  simp only [Act.put, List.getElem_toArray, List.getElem_cons_succ, List.getElem_cons_zero, List.setIfInBounds_toArray, List.set_cons_zero, List.set_cons_succ]
  refine wpAnyH_take (i := 7) (oi := _) (v := ?_) rfl (by kernel_rfl) (by kernel_rfl) (by kernel_rfl) (fun _ _ _ h => h) (Or.inl ⟨by rfl, ?_⟩) hHeld ?_
  rotate_left
  · intro w hSw; obtain ⟨t0, t1⟩ := hSw; go_simp; try with_reducible rfl
  simp only [Act.put, List.getElem_toArray, List.getElem_cons_succ, List.getElem_cons_zero, List.setIfInBounds_toArray, List.set_cons_zero, List.set_cons_succ]
  refine wpAnyH_take (i := 8) (oi := _) (v := ?_) rfl (by kernel_rfl) (by kernel_rfl) (by kernel_rfl) (fun _ _ _ h => h) (Or.inl ⟨by rfl, ?_⟩) hHeld ?_
  rotate_left
  · intro w hSw; obtain ⟨t0, t1⟩ := hSw; go_simp; try with_reducible rfl
  simp only [Act.put, List.getElem_toArray, List.getElem_cons_succ, List.getElem_cons_zero, List.setIfInBounds_toArray, List.set_cons_zero, List.set_cons_succ]
  refine wpAnyH_take (i := 9) (oi := _) (v := ?_) rfl (by kernel_rfl) (by kernel_rfl) (by kernel_rfl) (fun _ _ _ h => h) (Or.inl ⟨by rfl, ?_⟩) hHeld ?_
  rotate_left
  · intro w hSw; obtain ⟨t0, t1⟩ := hSw; go_simp; try with_reducible rfl
  simp only [Act.put, List.getElem_toArray, List.getElem_cons_succ, List.getElem_cons_zero, List.setIfInBounds_toArray, List.set_cons_zero, List.set_cons_succ]
  refine wpAnyH_take (i := 10) (oi := _) (v := ?_) rfl (by kernel_rfl) (by kernel_rfl) (by kernel_rfl) (fun _ _ _ h => h) (Or.inl ⟨by rfl, ?_⟩) hHeld ?_
  rotate_left
  · intro w hSw; obtain ⟨t0, t1⟩ := hSw; go_simp; try with_reducible rfl
  simp only [Act.put, List.getElem_toArray, List.getElem_cons_succ, List.getElem_cons_zero, List.setIfInBounds_toArray, List.set_cons_zero, List.set_cons_succ]
  refine wpAnyH_take (i := 11) (oi := _) (v := ?_) rfl (by kernel_rfl) (by kernel_rfl) (by kernel_rfl) (fun _ _ _ h => h) (Or.inl ⟨by rfl, ?_⟩) hHeld ?_
  rotate_left
  · intro w hSw; obtain ⟨t0, t1⟩ := hSw; go_simp; try with_reducible rfl
  simp only [Act.put, List.getElem_toArray, List.getElem_cons_succ, List.getElem_cons_zero, List.setIfInBounds_toArray, List.set_cons_zero, List.set_cons_succ]
  refine wpAnyH_take (i := 12) (oi := _) (v := ?_) rfl (by kernel_rfl) (by kernel_rfl) (by kernel_rfl) (fun _ _ _ h => h) (Or.inl ⟨by rfl, ?_⟩) hHeld ?_
  rotate_left
  · intro w hSw; obtain ⟨t0, t1⟩ := hSw; go_simp; try with_reducible rfl
  simp only [Act.put, List.getElem_toArray, List.getElem_cons_succ, List.getElem_cons_zero, List.setIfInBounds_toArray, List.set_cons_zero, List.set_cons_succ]
  refine wpAnyH_ready (rs := [13]) (by kernel_rfl) (by simp) (AllReadyH.cons (o := _) rfl (fun K hK => ?_) AllReadyH.nil)
  go_simp
  skip
  refine hK.out _ _ ⟨cAm1, HGT.out _⟩ (fun hHeld => ?_)
  clear hK K
  try simp only [Act.put, List.getElem_toArray, List.getElem_cons_succ, List.getElem_cons_zero, List.setIfInBounds_toArray, List.set_cons_zero, List.set_cons_succ]
  refine wpAnyH_take (i := 14) (oi := _) (v := ?_) rfl (by kernel_rfl) (by kernel_rfl) (by kernel_rfl) (fun _ _ _ h => h) (Or.inl ⟨by rfl, ?_⟩) hHeld ?_
  rotate_left
  · intro w hSw; obtain ⟨t0, t1⟩ := hSw; go_simp; try with_reducible rfl
  simp only [Act.put, List.getElem_toArray, List.getElem_cons_succ, List.getElem_cons_zero, List.setIfInBounds_toArray, List.set_cons_zero, List.set_cons_succ]
  refine wpAnyH_ready (rs := [15]) (by kernel_rfl) (by simp) (AllReadyH.cons (o := _) rfl (fun K hK => ?_) AllReadyH.nil)
  go_simp
  skip
  refine hK.out _ _ ⟨CAM.out, HLM3.out⟩ (fun hHeld => ?_)
  clear hK K
  try simp only [Act.put, List.getElem_toArray, List.getElem_cons_succ, List.getElem_cons_zero, List.setIfInBounds_toArray, List.set_cons_zero, List.set_cons_succ]
  refine wpAnyH_done (by kernel_rfl) ?_ _
  have hcA : m + 1 ≤ c1 ∧ c1 ≤ 9223372036854775807 := by
    obtain ⟨A', c', e2, l2, m2⟩ := own_cap SA.out
    injection e2 with _ _ e2
    omega
  have hcB : m + 1 ≤ cL ∧ cL ≤ 9223372036854775807 := by
    obtain ⟨A', c', e2, l2, m2⟩ := own_cap SL.out
    injection e2 with _ _ e2
    omega
  have lA : (m : Int) ≤ (c1 : Int) := by omega
  have lL : (m : Int) ≤ (cL : Int) := by omega
  have hmc : m ≤ c1 := by omega
  have hmL : m ≤ cL := by omega
  have hc1 : ¬ c1 = 0 := by omega
  have hcL : ¬ cL = 0 := by omega
  generalize hw3 : ((w2.setCell ⟨gA, r, none⟩ (.int .u64 em)).setCell ⟨gL, r, none⟩ (.slice xm.A xm.n xm.c)) = w3 at *
  clear hw3 cAm cAr cLm cLr fAr fLr cLr2 cAm1 fLr2
  clear HGT HLM3
  have cm0 : w3.drew.cell? ⟨gA, m, none⟩ = some (.int .u64 em) := CAM.out
  by_cases hrE : r = m
  · subst hrE
    have d1 : ((r : Int) == (r : Int)) = true := by simp
    obtain rfl : mv = 0 := by rw [HMV.out, if_pos rfl]
    go_upto_region 9 with fail
    obtain ⟨x0, x1, x2⟩ := HC.out _ SB.out.drew
    clear cm0 d1
    refine wp_region_held_drew (S := fun w' => w'.cell? ⟨w.heap.size, 0, none⟩ = some (.slice TA Tn Tc) ∧ w'.cell? ⟨w.heap.size, 1, none⟩ = some (.slice CA Cn Cc) ∧ w'.cell? ⟨w.heap.size, 2, none⟩ = some (.slice EA (r + 1) Ec)) (by kernel_rfl) ⟨x0, x1, x2⟩ (fun hHeld => ?_)
    refine wpAnyH_take (i := 0) (oi := _) (v := ?_) rfl (by kernel_rfl) (by kernel_rfl) (by kernel_rfl) (fun _ _ _ h => h) (Or.inl ⟨by rfl, ?_⟩) hHeld ?_
    rotate_left
    · intro w hSw; obtain ⟨t0, t1, t2⟩ := hSw; go_simp; try with_reducible rfl
    simp only [Act.put, List.getElem_toArray, List.getElem_cons_succ, List.getElem_cons_zero, List.setIfInBounds_toArray, List.set_cons_zero, List.set_cons_succ]
    refine wpAnyH_take (i := 1) (oi := _) (v := ?_) rfl (by kernel_rfl) (by kernel_rfl) (by kernel_rfl) (fun _ _ _ h => h) (Or.inl ⟨by rfl, ?_⟩) hHeld ?_
    rotate_left
    · intro w hSw; obtain ⟨t0, t1, t2⟩ := hSw; go_simp; try with_reducible rfl
    simp only [Act.put, List.getElem_toArray, List.getElem_cons_succ, List.getElem_cons_zero, List.setIfInBounds_toArray, List.set_cons_zero, List.set_cons_succ]
    refine wpAnyH_take (i := 2) (oi := _) (v := ?_) rfl (by kernel_rfl) (by kernel_rfl) (by kernel_rfl) (fun _ _ _ h => h) (Or.inl ⟨by rfl, ?_⟩) hHeld ?_
    rotate_left
    · intro w hSw; obtain ⟨t0, t1, t2⟩ := hSw; go_simp; try with_reducible rfl
    simp only [Act.put, List.getElem_toArray, List.getElem_cons_succ, List.getElem_cons_zero, List.setIfInBounds_toArray, List.set_cons_zero, List.set_cons_succ]
    refine wpAnyH_take (i := 4) (oi := _) (v := ?_) rfl (by kernel_rfl) (by kernel_rfl) (by kernel_rfl) (fun _ _ _ h => h) (Or.inl ⟨by rfl, ?_⟩) hHeld ?_
    rotate_left
    · intro w hSw; obtain ⟨t0, t1, t2⟩ := hSw; go_simp; try with_reducible rfl
    simp only [Act.put, List.getElem_toArray, List.getElem_cons_succ, List.getElem_cons_zero, List.setIfInBounds_toArray, List.set_cons_zero, List.set_cons_succ]
    refine wpAnyH_take (i := 5) (oi := _) (v := ?_) rfl (by kernel_rfl) (by kernel_rfl) (by kernel_rfl) (fun _ _ _ h => h) (Or.inl ⟨by rfl, ?_⟩) hHeld ?_
    rotate_left
    · intro w hSw; obtain ⟨t0, t1, t2⟩ := hSw; go_simp; try with_reducible rfl
    simp only [Act.put, List.getElem_toArray, List.getElem_cons_succ, List.getElem_cons_zero, List.setIfInBounds_toArray, List.set_cons_zero, List.set_cons_succ]
    refine wpAnyH_take (i := 6) (oi := _) (v := ?_) rfl (by kernel_rfl) (by kernel_rfl) (by kernel_rfl) (fun _ _ _ h => h) (Or.inl ⟨by rfl, ?_⟩) hHeld ?_
    rotate_left
    · intro w hSw; obtain ⟨t0, t1, t2⟩ := hSw; go_simp; try with_reducible rfl
    simp only [Act.put, List.getElem_toArray, List.getElem_cons_succ, List.getElem_cons_zero, List.setIfInBounds_toArray, List.set_cons_zero, List.set_cons_succ]
    refine wpAnyH_take (i := 7) (oi := _) (v := ?_) rfl (by kernel_rfl) (by kernel_rfl) (by kernel_rfl) (fun _ _ _ h => h) (Or.inl ⟨by rfl, ?_⟩) hHeld ?_
    rotate_left
    · intro w hSw; obtain ⟨t0, t1, t2⟩ := hSw; go_simp; try with_reducible rfl
    simp only [Act.put, List.getElem_toArray, List.getElem_cons_succ, List.getElem_cons_zero, List.setIfInBounds_toArray, List.set_cons_zero, List.set_cons_succ]
    refine wpAnyH_take (i := 8) (oi := _) (v := ?_) rfl (by kernel_rfl) (by kernel_rfl) (by kernel_rfl) (fun _ _ _ h => h) (Or.inl ⟨by rfl, ?_⟩) hHeld ?_
    rotate_left
    · intro w hSw; obtain ⟨t0, t1, t2⟩ := hSw; go_simp; try with_reducible rfl
    simp only [Act.put, List.getElem_toArray, List.getElem_cons_succ, List.getElem_cons_zero, List.setIfInBounds_toArray, List.set_cons_zero, List.set_cons_succ]
    refine wpAnyH_take (i := 9) (oi := _) (v := ?_) rfl (by kernel_rfl) (by kernel_rfl) (by kernel_rfl) (fun _ _ _ h => h) (Or.inl ⟨by rfl, ?_⟩) hHeld ?_
    rotate_left
    · intro w hSw; obtain ⟨t0, t1, t2⟩ := hSw; go_simp; try with_reducible rfl
    simp only [Act.put, List.getElem_toArray, List.getElem_cons_succ, List.getElem_cons_zero, List.setIfInBounds_toArray, List.set_cons_zero, List.set_cons_succ]
    refine wpAnyH_take (i := 11) (oi := _) (v := ?_) rfl (by kernel_rfl) (by kernel_rfl) (by kernel_rfl) (fun _ _ _ h => h) (Or.inl ⟨by rfl, ?_⟩) hHeld ?_
    rotate_left
    · intro w hSw; obtain ⟨t0, t1, t2⟩ := hSw; go_simp; try with_reducible rfl
    simp only [Act.put, List.getElem_toArray, List.getElem_cons_succ, List.getElem_cons_zero, List.setIfInBounds_toArray, List.set_cons_zero, List.set_cons_succ]
    refine Og.start (fr := fun y => { tmps := #[.agg #[.slice TA Tn Tc, .slice CA Cn Cc, .slice EA (r + 1) Ec], .int .i64 (r : Int), .pointer (some ⟨w.heap.size, 0, none⟩), undef, .pointer (some ⟨w.heap.size + 1, 0, none⟩), y 13, .slice (some ⟨gL, 0, none⟩) (r + 1) cL, .int .i64 (r : Int), .slice (some ⟨gA, 0, none⟩) (r + 1) c1, .int .u64 0, .agg #[.slice TA Tn Tc, .slice CA Cn Cc, .slice EA (r + 1) Ec], .slice (some ⟨gL, 0, none⟩) (r + 1) cL, .slice (some ⟨gL, 0, none⟩) (r + 1) cL, .int .i64 ((r : Int) + 1), .int .i64 (r : Int), .slice none 0 0, .pointer (some ⟨w.heap.size, 2, none⟩), .slice EA (r + 1) Ec, .slice (some ⟨gA, 0, none⟩) (r + 1) c1, .slice (some ⟨gA, 0, none⟩) (r + 1) c1, .int .i64 (r : Int), .slice (some ⟨gL, 0, none⟩) (r + 1) cL, .int .i64 (r : Int), .slice (some ⟨gA, 0, none⟩) (r + 1) c1, .int .i64 (r : Int), .pointer (some ⟨gA, r, none⟩), .int .u64 em, .slice (some ⟨gL, 0, none⟩) (r + 1) cL, .int .i64 (r : Int), .pointer (some ⟨gL, r, none⟩), .slice xm.A xm.n xm.c, .pointer (some ⟨gA, r, none⟩), .pointer (some ⟨gL, r, none⟩), .slice (some ⟨gA, 0, none⟩) (r + 1) c1, .int .i64 (r : Int), .pointer (some ⟨gA, r, none⟩), .int .u64 em, .int .i64 (r : Int), .int .i64 (r : Int), .bool true, .pointer (some ⟨w.heap.size, 0, none⟩), .slice TA Tn Tc, .agg #[.slice TA Tn Tc, .slice CA Cn Cc, .slice EA (r + 1) Ec], y 3, .slice (some ⟨gA, 0, none⟩) (r + 1) c1, .int .i64 (r : Int), .slice (some ⟨gA, 0, none⟩) r c1, .slice (some ⟨gL, 0, none⟩) (r + 1) cL, .int .i64 (r : Int), .slice (some ⟨gL, 0, none⟩) r cL, y 10, .int .u64 0], defers := [] })
      (C := fun w' => (Below w.heap.size w w' ∧ w'.cell? ⟨w.heap.size, 0, none⟩ = some (.slice TA Tn Tc) ∧ w'.cell? ⟨w.heap.size, 1, none⟩ = some (.slice CA Cn Cc) ∧ w'.cell? ⟨w.heap.size, 2, none⟩ = some (.slice EA (r + 1) Ec)))
      (F := fun j y w' => match j with
        | 3 => ∃ A c, y 3 = .slice A F.length c ∧ w'.ownsRow W0.heap.size 3 1 (.slice A F.length c) F.length (ins (F.map Col.W))
        | 10 => ∃ A3 c3 F3, y 10 = .agg #[.slice TA Tn Tc, .slice A3 F3.length c3, .slice (some ⟨gA, 0, none⟩) r c1] ∧ w'.ownsRow W0.heap.size 68 3 (.slice A3 F3.length c3) F3.length (cols F3) ∧ F3.map Col.p = PS ∧ ∀ x ∈ F3, ColFresh w' W0.heap.size x
        | 12 => ∃ A3 c3 F3, Blk w' (w.heap.size + 1) 25 #[.slice TA Tn Tc, .slice A3 F3.length c3, .slice (some ⟨gA, 0, none⟩) r c1] ∧ w'.ownsRow W0.heap.size 27 1 (.slice (some ⟨gA, 0, none⟩) (r + 1) c1) (r + 1) (ids (es.set r em)) ∧ w'.ownsRow W0.heap.size 68 3 (.slice A3 F3.length c3) F3.length (cols F3) ∧ F3.map Col.p = PS ∧ ∀ x ∈ F3, ColFresh w' W0.heap.size x
        | 13 => y 13 = .int .u64 0
        | 16 => Below W0.heap.size W0 w'
        | 20 => w'.ownsRow W0.heap.size 28 1 (.slice (some ⟨gL, 0, none⟩) (r + 1) cL) (r + 1) (grs (L.set r xm)) ∧ ∀ y ∈ L.set r xm, GrFresh w' W0.heap.size y
        | 21 => w'.ownsRow W0.heap.size 27 1 (.slice (some ⟨gA, 0, none⟩) (r + 1) c1) (r + 1) (ids (es.set r em))
        | _ => True)
      { rem := [3, 10, 12, 13], facts := [3, 10, 12, 13, 16, 20, 21], needs := fun i => match i with | 3 => [16] | 10 => [16, 20, 3] | 12 => [16, 10, 21] | _ => [], keeps := fun i => match i with | 3 => [16, 20, 21] | 10 => [16, 21] | 13 => [12] | _ => [], final := [12, 13] }
      (fun j => match j with | 13 => .int .u64 0 | _ => undef) rfl (by kernel_rfl) ?hCS ?hC (Og.All.cons SB.out.drew.drew (Og.All.cons ⟨own_below SL.out ((Below.refl _ _).drew.drew), fun x hx => (SF.out x hx).below ((Below.refl _ _).drew.drew)⟩ (Og.All.cons (own_below SA.out ((Below.refl _ _).drew.drew)) Og.All.nil))) (Og.Steps.cons _ rfl rfl ?st3 (Og.Steps.cons _ rfl rfl ?st10 (Og.Steps.cons _ rfl rfl ?st12 (Og.Steps.cons _ rfl rfl ?st13 Og.Steps.nil)))) ?hE
    case hCS =>
      intro w' hC
      exact hC.2
    case hC =>
      exact HCC.out _ SB.out.drew.drew
    case st3 =>
      intro y w1 hC hN K hK
      obtain hC : Below W0.heap.size W0 w1 := hN.head
      go_simp
      refine (cwd _ hC).mono ?_
      rintro en w2 ⟨v, rfl, ho, hb⟩
      obtain ⟨A, c, rfl⟩ := own_slice ho
      rw [List.length_map] at ho ⊢
      refine Eq.mp (congrArg (fun a => K a _) ?_) (hK.out (.slice A F.length c) w2 (HCC.out _ (hC.trans (hb.mono hC.size))) ⟨A, c, rfl, base_le ho hC.size⟩ (Og.All.cons (fun _ => hC.trans (hb.mono hC.size)) (Og.All.cons (fun ⟨h, hf⟩ => ⟨own_below h hb, fun x hx => (hf x hx).below hb⟩) (Og.All.cons (fun h => own_below h hb) Og.All.nil))))
      have u3 : ∀ v, Og.upd y 3 v 3 = v := fun v => rfl
      have u10 : ∀ v, Og.upd y 3 v 10 = y 10 := fun v => rfl
      have u13 : ∀ v, Og.upd y 3 v 13 = y 13 := fun v => rfl
      simp only [Act.put, List.getElem_toArray, List.getElem_cons_succ, List.getElem_cons_zero, List.setIfInBounds_toArray, List.set_cons_zero, List.set_cons_succ, u3, u10, u13]
    case st10 =>
      intro y w1 hC hN K hK
      obtain hC : Below W0.heap.size W0 w1 := hN.head
      obtain ⟨ho20, hf20⟩ : w1.ownsRow W0.heap.size 28 1 (.slice (some ⟨gL, 0, none⟩) (r + 1) cL) (r + 1) (grs (L.set r xm)) ∧ ∀ y ∈ L.set r xm, GrFresh w1 W0.heap.size y := hN.tail.head
      obtain ⟨A3, c3, x3, ho3⟩ : ∃ A c, y 3 = .slice A F.length c ∧ w1.ownsRow W0.heap.size 3 1 (.slice A F.length c) F.length (ins (F.map Col.W)) := hN.tail.tail.head
      simp only [x3]
      go_simp
      have hr20 := reads_pre (m := r) (Reads.of_own ho20) (by omega)
      rw [← grs_take] at hr20
      with_reducible refine (cof w1 ((L.set r xm).take r) A3 c3 (some ⟨gA, 0, none⟩) c1 (some ⟨gL, 0, none⟩) cL ho3 hr20 SV.out (fun x hx => (hf20 x (List.mem_of_mem_take hx)).ok)).mono ?_
      rintro en w2 ⟨v, F3, rfl, ho, hp, hf, hb⟩
      obtain ⟨A, c, rfl⟩ := own_slice ho
      refine Eq.mp (congrArg (fun a => K a _) ?_) (hK.out (.agg #[.slice TA Tn Tc, .slice A F3.length c, .slice (some ⟨gA, 0, none⟩) r c1]) w2 (HCC.out _ (hC.trans (hb.mono hC.size))) ⟨A, c, F3, rfl, base_le ho hC.size, hp, fun x hx => colFresh_base (hf x hx) hC.size⟩ (Og.All.cons (fun _ => hC.trans (hb.mono hC.size)) (Og.All.cons (fun h => own_below h hb) Og.All.nil)))
      have u3 : ∀ v, Og.upd y 10 v 3 = y 3 := fun v => rfl
      have u10 : ∀ v, Og.upd y 10 v 10 = v := fun v => rfl
      have u13 : ∀ v, Og.upd y 10 v 13 = y 13 := fun v => rfl
      simp only [Act.put, List.getElem_toArray, List.getElem_cons_succ, List.getElem_cons_zero, List.setIfInBounds_toArray, List.set_cons_zero, List.set_cons_succ, u3, u10, u13, x3]
    case st12 =>
      intro y w1 hC hN K hK
      obtain hC : Below W0.heap.size W0 w1 := hN.head
      obtain ⟨A3, c3, F3, x10, ho3, hp3, hf3⟩ : ∃ A3 c3 F3, y 10 = .agg #[.slice TA Tn Tc, .slice A3 F3.length c3, .slice (some ⟨gA, 0, none⟩) r c1] ∧ w1.ownsRow W0.heap.size 68 3 (.slice A3 F3.length c3) F3.length (cols F3) ∧ F3.map Col.p = PS ∧ ∀ x ∈ F3, ColFresh w1 W0.heap.size x := hN.tail.head
      obtain ho21 : w1.ownsRow W0.heap.size 27 1 (.slice (some ⟨gA, 0, none⟩) (r + 1) c1) (r + 1) (ids (es.set r em)) := hN.tail.tail.head
      simp only [x10]
      have hk := blk_below HK1.out hC
      obtain ⟨⟨z0, z1, z2⟩, zf⟩ := blk_cells3 hk
      have zf0 := zf 0
      have zf1 := zf 1
      have zf2 := zf 2
      obtain ⟨q0, q1, q2⟩ := HC.out _ hC
      have hCW := HB.out.trans (hC.mono HB.out.size)
      go_simp
      refine Eq.mp (congrArg (fun a => K a _) ?_) (hK.out (undef) _ (⟨below_set3 hCW (by omega), far3 _ _ _ trivial q0 (by omega), far3 _ _ _ trivial q1 (by omega), far3 _ _ _ trivial q2 (by omega)⟩) ⟨A3, c3, F3, ((hk.set_ 0 _).set_ 1 _).set_ 2 _, own_set3 ho21 hk (by decide) _ _ _, own_set3 ho3 hk (by decide) _ _ _, hp3, fun x hx => fresh_set3 (hf3 x hx) hk (by decide) _ _ _⟩ Og.All.nil)
      have u3 : ∀ v, Og.upd y 12 v 3 = y 3 := fun v => rfl
      have u10 : ∀ v, Og.upd y 12 v 10 = y 10 := fun v => rfl
      have u13 : ∀ v, Og.upd y 12 v 13 = y 13 := fun v => rfl
      simp only [Act.put, List.getElem_toArray, List.getElem_cons_succ, List.getElem_cons_zero, List.setIfInBounds_toArray, List.set_cons_zero, List.set_cons_succ, u3, u10, u13, x10]
    case st13 =>
      intro y w1 hC hN K hK
      go_simp
      refine Eq.mp (congrArg (fun a => K a _) ?_) (hK.out (.int .u64 0) w1 (hC) rfl (Og.All.cons (fun h => h) Og.All.nil))
      have u3 : ∀ v, Og.upd y 13 v 3 = y 3 := fun v => rfl
      have u10 : ∀ v, Og.upd y 13 v 10 = y 10 := fun v => rfl
      have u13 : ∀ v, Og.upd y 13 v 13 = v := fun v => rfl
      simp only [Act.put, List.getElem_toArray, List.getElem_cons_succ, List.getElem_cons_zero, List.setIfInBounds_toArray, List.set_cons_zero, List.set_cons_succ, u3, u10, u13]
    case hE =>
      intro y w1 hC hF
      obtain ⟨A3, c3, F3, hk, ho2, ho3, hp3, hf3⟩ : ∃ A3 c3 F3, Blk w1 (w.heap.size + 1) 25 #[.slice TA Tn Tc, .slice A3 F3.length c3, .slice (some ⟨gA, 0, none⟩) r c1] ∧ w1.ownsRow W0.heap.size 27 1 (.slice (some ⟨gA, 0, none⟩) (r + 1) c1) (r + 1) (ids (es.set r em)) ∧ w1.ownsRow W0.heap.size 68 3 (.slice A3 F3.length c3) F3.length (cols F3) ∧ F3.map Col.p = PS ∧ ∀ x ∈ F3, ColFresh w1 W0.heap.size x := hF.head
      obtain x13 : y 13 = .int .u64 0 := hF.tail.head
      have hCB := hC.1
      clear hC hF
      simp only [x13]
      clear x13
      generalize y 3 = y3
      generalize y 10 = y10
      clear y
      obtain ⟨⟨z0, z1, z2⟩, _⟩ := blk_cells3 hk
      have HK := Lib.hid hk
      have HO2 := Lib.hid ho2
      have HO3 := Lib.hid ho3
      have HP3 := Lib.hid hp3
      have HF3 := Lib.hid hf3
      have HCB := Lib.hid hCB
      clear hk ho2 ho3 hp3 hf3 hCB cwd crs cof x0 x1 x2 hHeld
      go_wp2_with fail
      refine bodyPost_ret (v := .tuple #[.agg #[.slice TA Tn Tc, .slice A3 F3.length c3, .slice (some ⟨gA, 0, none⟩) r c1], .int .u64 0]) (by simp [results, Try.results38, go_sem, *]) rfl ?_
      have ht := (H0.out.keep HCB.out).more HCB.out.size
      obtain ⟨A3', c3', e3, l3, m3⟩ := own_cap HO3.out
      injection e3 with _ _ e3
      have hr2 := reads_pre (m := r) (Reads.of_own HO2.out) (by omega)
      rw [ids_take, HSE.out] at hr2
      have ho2' := own_shrink (m := r) HO2.out (by omega)
      rw [ids_take, HSE.out] at ho2'
      exact ⟨⟨TA, Tn, Tc, ty, A3, F3.length, c3, F3, some ⟨gA, 0, none⟩, r, c1, se⟩, rfl, by rw [HP.out]; unfold Tab.p; rw [HP3.out], ⟨ht.ty, ht.tyc, ht.tyw, Reads.of_own HO3.out, ⟨by rw [e3]; exact l3, by rw [e3]; unfold maxLen; exact m3⟩, fun x hx => (HF3.out x hx).1, hr2, ⟨hmc, by unfold maxLen; exact hcA.2⟩, HSW.out⟩, HCB.out, fun b hb hf => ⟨hf.ty.below HCB.out, base_le HO3.out (Nat.le_trans hb HB.out.size), fun x hx => colFresh_base (HF3.out x hx) (Nat.le_trans hb HB.out.size), idFresh_own (base_le ho2' (Nat.le_trans hb HB.out.size)) HSW.out⟩⟩
  · have d1 : ((r : Int) == (m : Int)) = false := by simp; omega
    have hme : em = mv := by rw [HMV.out, if_neg hrE]
    subst hme
    go_upto_region 9 with fail
    obtain ⟨x0, x1, x2⟩ := HC.out _ SB.out.drew
    clear cm0 d1
    refine wp_region_held_drew (S := fun w' => w'.cell? ⟨w.heap.size, 0, none⟩ = some (.slice TA Tn Tc) ∧ w'.cell? ⟨w.heap.size, 1, none⟩ = some (.slice CA Cn Cc) ∧ w'.cell? ⟨w.heap.size, 2, none⟩ = some (.slice EA (m + 1) Ec)) (by kernel_rfl) ⟨x0, x1, x2⟩ (fun hHeld => ?_)
    refine wpAnyH_take (i := 0) (oi := _) (v := ?_) rfl (by kernel_rfl) (by kernel_rfl) (by kernel_rfl) (fun _ _ _ h => h) (Or.inl ⟨by rfl, ?_⟩) hHeld ?_
    rotate_left
    · intro w hSw; obtain ⟨t0, t1, t2⟩ := hSw; go_simp; try with_reducible rfl
    simp only [Act.put, List.getElem_toArray, List.getElem_cons_succ, List.getElem_cons_zero, List.setIfInBounds_toArray, List.set_cons_zero, List.set_cons_succ]
    refine wpAnyH_take (i := 1) (oi := _) (v := ?_) rfl (by kernel_rfl) (by kernel_rfl) (by kernel_rfl) (fun _ _ _ h => h) (Or.inl ⟨by rfl, ?_⟩) hHeld ?_
    rotate_left
    · intro w hSw; obtain ⟨t0, t1, t2⟩ := hSw; go_simp; try with_reducible rfl
    simp only [Act.put, List.getElem_toArray, List.getElem_cons_succ, List.getElem_cons_zero, List.setIfInBounds_toArray, List.set_cons_zero, List.set_cons_succ]
    refine wpAnyH_take (i := 2) (oi := _) (v := ?_) rfl (by kernel_rfl) (by kernel_rfl) (by kernel_rfl) (fun _ _ _ h => h) (Or.inl ⟨by rfl, ?_⟩) hHeld ?_
    rotate_left
    · intro w hSw; obtain ⟨t0, t1, t2⟩ := hSw; go_simp; try with_reducible rfl
    simp only [Act.put, List.getElem_toArray, List.getElem_cons_succ, List.getElem_cons_zero, List.setIfInBounds_toArray, List.set_cons_zero, List.set_cons_succ]
    refine wpAnyH_take (i := 4) (oi := _) (v := ?_) rfl (by kernel_rfl) (by kernel_rfl) (by kernel_rfl) (fun _ _ _ h => h) (Or.inl ⟨by rfl, ?_⟩) hHeld ?_
    rotate_left
    · intro w hSw; obtain ⟨t0, t1, t2⟩ := hSw; go_simp; try with_reducible rfl
    simp only [Act.put, List.getElem_toArray, List.getElem_cons_succ, List.getElem_cons_zero, List.setIfInBounds_toArray, List.set_cons_zero, List.set_cons_succ]
    refine wpAnyH_take (i := 5) (oi := _) (v := ?_) rfl (by kernel_rfl) (by kernel_rfl) (by kernel_rfl) (fun _ _ _ h => h) (Or.inl ⟨by rfl, ?_⟩) hHeld ?_
    rotate_left
    · intro w hSw; obtain ⟨t0, t1, t2⟩ := hSw; go_simp; try with_reducible rfl
    simp only [Act.put, List.getElem_toArray, List.getElem_cons_succ, List.getElem_cons_zero, List.setIfInBounds_toArray, List.set_cons_zero, List.set_cons_succ]
    refine wpAnyH_take (i := 6) (oi := _) (v := ?_) rfl (by kernel_rfl) (by kernel_rfl) (by kernel_rfl) (fun _ _ _ h => h) (Or.inl ⟨by rfl, ?_⟩) hHeld ?_
    rotate_left
    · intro w hSw; obtain ⟨t0, t1, t2⟩ := hSw; go_simp; try with_reducible rfl
    simp only [Act.put, List.getElem_toArray, List.getElem_cons_succ, List.getElem_cons_zero, List.setIfInBounds_toArray, List.set_cons_zero, List.set_cons_succ]
    refine wpAnyH_take (i := 7) (oi := _) (v := ?_) rfl (by kernel_rfl) (by kernel_rfl) (by kernel_rfl) (fun _ _ _ h => h) (Or.inl ⟨by rfl, ?_⟩) hHeld ?_
    rotate_left
    · intro w hSw; obtain ⟨t0, t1, t2⟩ := hSw; go_simp; try with_reducible rfl
    simp only [Act.put, List.getElem_toArray, List.getElem_cons_succ, List.getElem_cons_zero, List.setIfInBounds_toArray, List.set_cons_zero, List.set_cons_succ]
    refine wpAnyH_take (i := 8) (oi := _) (v := ?_) rfl (by kernel_rfl) (by kernel_rfl) (by kernel_rfl) (fun _ _ _ h => h) (Or.inl ⟨by rfl, ?_⟩) hHeld ?_
    rotate_left
    · intro w hSw; obtain ⟨t0, t1, t2⟩ := hSw; go_simp; try with_reducible rfl
    simp only [Act.put, List.getElem_toArray, List.getElem_cons_succ, List.getElem_cons_zero, List.setIfInBounds_toArray, List.set_cons_zero, List.set_cons_succ]
    refine wpAnyH_take (i := 9) (oi := _) (v := ?_) rfl (by kernel_rfl) (by kernel_rfl) (by kernel_rfl) (fun _ _ _ h => h) (Or.inl ⟨by rfl, ?_⟩) hHeld ?_
    rotate_left
    · intro w hSw; obtain ⟨t0, t1, t2⟩ := hSw; go_simp; try with_reducible rfl
    simp only [Act.put, List.getElem_toArray, List.getElem_cons_succ, List.getElem_cons_zero, List.setIfInBounds_toArray, List.set_cons_zero, List.set_cons_succ]
    refine wpAnyH_take (i := 11) (oi := _) (v := ?_) rfl (by kernel_rfl) (by kernel_rfl) (by kernel_rfl) (fun _ _ _ h => h) (Or.inl ⟨by rfl, ?_⟩) hHeld ?_
    rotate_left
    · intro w hSw; obtain ⟨t0, t1, t2⟩ := hSw; go_simp; try with_reducible rfl
    simp only [Act.put, List.getElem_toArray, List.getElem_cons_succ, List.getElem_cons_zero, List.setIfInBounds_toArray, List.set_cons_zero, List.set_cons_succ]
    refine Og.start (fr := fun y => { tmps := #[.agg #[.slice TA Tn Tc, .slice CA Cn Cc, .slice EA (m + 1) Ec], .int .i64 (r : Int), .pointer (some ⟨w.heap.size, 0, none⟩), undef, .pointer (some ⟨w.heap.size + 1, 0, none⟩), y 13, .slice (some ⟨gL, 0, none⟩) (m + 1) cL, .int .i64 (m : Int), .slice (some ⟨gA, 0, none⟩) (m + 1) c1, .int .u64 em, .agg #[.slice TA Tn Tc, .slice CA Cn Cc, .slice EA (m + 1) Ec], .slice (some ⟨gL, 0, none⟩) (m + 1) cL, .slice (some ⟨gL, 0, none⟩) (m + 1) cL, .int .i64 ((m : Int) + 1), .int .i64 (m : Int), .slice none 0 0, .pointer (some ⟨w.heap.size, 2, none⟩), .slice EA (m + 1) Ec, .slice (some ⟨gA, 0, none⟩) (m + 1) c1, .slice (some ⟨gA, 0, none⟩) (m + 1) c1, .int .i64 (r : Int), .slice (some ⟨gL, 0, none⟩) (m + 1) cL, .int .i64 (r : Int), .slice (some ⟨gA, 0, none⟩) (m + 1) c1, .int .i64 (m : Int), .pointer (some ⟨gA, m, none⟩), .int .u64 em, .slice (some ⟨gL, 0, none⟩) (m + 1) cL, .int .i64 (m : Int), .pointer (some ⟨gL, m, none⟩), .slice xm.A xm.n xm.c, .pointer (some ⟨gA, r, none⟩), .pointer (some ⟨gL, r, none⟩), .slice (some ⟨gA, 0, none⟩) (m + 1) c1, .int .i64 (m : Int), .pointer (some ⟨gA, m, none⟩), .int .u64 em, .int .i64 (r : Int), .int .i64 (m : Int), .bool false, .pointer (some ⟨w.heap.size, 0, none⟩), .slice TA Tn Tc, .agg #[.slice TA Tn Tc, .slice CA Cn Cc, .slice EA (m + 1) Ec], y 3, .slice (some ⟨gA, 0, none⟩) (m + 1) c1, .int .i64 (m : Int), .slice (some ⟨gA, 0, none⟩) m c1, .slice (some ⟨gL, 0, none⟩) (m + 1) cL, .int .i64 (m : Int), .slice (some ⟨gL, 0, none⟩) m cL, y 10, .int .u64 em], defers := [] })
      (C := fun w' => (Below w.heap.size w w' ∧ w'.cell? ⟨w.heap.size, 0, none⟩ = some (.slice TA Tn Tc) ∧ w'.cell? ⟨w.heap.size, 1, none⟩ = some (.slice CA Cn Cc) ∧ w'.cell? ⟨w.heap.size, 2, none⟩ = some (.slice EA (m + 1) Ec)))
      (F := fun j y w' => match j with
        | 3 => ∃ A c, y 3 = .slice A F.length c ∧ w'.ownsRow W0.heap.size 3 1 (.slice A F.length c) F.length (ins (F.map Col.W))
        | 10 => ∃ A3 c3 F3, y 10 = .agg #[.slice TA Tn Tc, .slice A3 F3.length c3, .slice (some ⟨gA, 0, none⟩) m c1] ∧ w'.ownsRow W0.heap.size 68 3 (.slice A3 F3.length c3) F3.length (cols F3) ∧ F3.map Col.p = PS ∧ ∀ x ∈ F3, ColFresh w' W0.heap.size x
        | 12 => ∃ A3 c3 F3, Blk w' (w.heap.size + 1) 25 #[.slice TA Tn Tc, .slice A3 F3.length c3, .slice (some ⟨gA, 0, none⟩) m c1] ∧ w'.ownsRow W0.heap.size 27 1 (.slice (some ⟨gA, 0, none⟩) (m + 1) c1) (m + 1) (ids (es.set r em)) ∧ w'.ownsRow W0.heap.size 68 3 (.slice A3 F3.length c3) F3.length (cols F3) ∧ F3.map Col.p = PS ∧ ∀ x ∈ F3, ColFresh w' W0.heap.size x
        | 13 => y 13 = .int .u64 em
        | 16 => Below W0.heap.size W0 w'
        | 20 => w'.ownsRow W0.heap.size 28 1 (.slice (some ⟨gL, 0, none⟩) (m + 1) cL) (m + 1) (grs (L.set r xm)) ∧ ∀ y ∈ L.set r xm, GrFresh w' W0.heap.size y
        | 21 => w'.ownsRow W0.heap.size 27 1 (.slice (some ⟨gA, 0, none⟩) (m + 1) c1) (m + 1) (ids (es.set r em))
        | _ => True)
      { rem := [3, 10, 12, 13], facts := [3, 10, 12, 13, 16, 20, 21], needs := fun i => match i with | 3 => [16] | 10 => [16, 20, 3] | 12 => [16, 10, 21] | _ => [], keeps := fun i => match i with | 3 => [16, 20, 21] | 10 => [16, 21] | 13 => [12] | _ => [], final := [12, 13] }
      (fun j => match j with | 13 => .int .u64 0 | _ => undef) rfl (by kernel_rfl) ?hCS ?hC (Og.All.cons SB.out.drew.drew (Og.All.cons ⟨own_below SL.out ((Below.refl _ _).drew.drew), fun x hx => (SF.out x hx).below ((Below.refl _ _).drew.drew)⟩ (Og.All.cons (own_below SA.out ((Below.refl _ _).drew.drew)) Og.All.nil))) (Og.Steps.cons _ rfl rfl ?st3 (Og.Steps.cons _ rfl rfl ?st10 (Og.Steps.cons _ rfl rfl ?st12 (Og.Steps.cons _ rfl rfl ?st13 Og.Steps.nil)))) ?hE
    case hCS =>
      intro w' hC
      exact hC.2
    case hC =>
      exact HCC.out _ SB.out.drew.drew
    case st3 =>
      intro y w1 hC hN K hK
      obtain hC : Below W0.heap.size W0 w1 := hN.head
      go_simp
      refine (cwd _ hC).mono ?_
      rintro en w2 ⟨v, rfl, ho, hb⟩
      obtain ⟨A, c, rfl⟩ := own_slice ho
      rw [List.length_map] at ho ⊢
      refine Eq.mp (congrArg (fun a => K a _) ?_) (hK.out (.slice A F.length c) w2 (HCC.out _ (hC.trans (hb.mono hC.size))) ⟨A, c, rfl, base_le ho hC.size⟩ (Og.All.cons (fun _ => hC.trans (hb.mono hC.size)) (Og.All.cons (fun ⟨h, hf⟩ => ⟨own_below h hb, fun x hx => (hf x hx).below hb⟩) (Og.All.cons (fun h => own_below h hb) Og.All.nil))))
      have u3 : ∀ v, Og.upd y 3 v 3 = v := fun v => rfl
      have u10 : ∀ v, Og.upd y 3 v 10 = y 10 := fun v => rfl
      have u13 : ∀ v, Og.upd y 3 v 13 = y 13 := fun v => rfl
      simp only [Act.put, List.getElem_toArray, List.getElem_cons_succ, List.getElem_cons_zero, List.setIfInBounds_toArray, List.set_cons_zero, List.set_cons_succ, u3, u10, u13]
    case st10 =>
      intro y w1 hC hN K hK
      obtain hC : Below W0.heap.size W0 w1 := hN.head
      obtain ⟨ho20, hf20⟩ : w1.ownsRow W0.heap.size 28 1 (.slice (some ⟨gL, 0, none⟩) (m + 1) cL) (m + 1) (grs (L.set r xm)) ∧ ∀ y ∈ L.set r xm, GrFresh w1 W0.heap.size y := hN.tail.head
      obtain ⟨A3, c3, x3, ho3⟩ : ∃ A c, y 3 = .slice A F.length c ∧ w1.ownsRow W0.heap.size 3 1 (.slice A F.length c) F.length (ins (F.map Col.W)) := hN.tail.tail.head
      simp only [x3]
      go_simp
      have hr20 := reads_pre (m := m) (Reads.of_own ho20) (by omega)
      rw [← grs_take] at hr20
      with_reducible refine (cof w1 ((L.set r xm).take m) A3 c3 (some ⟨gA, 0, none⟩) c1 (some ⟨gL, 0, none⟩) cL ho3 hr20 SV.out (fun x hx => (hf20 x (List.mem_of_mem_take hx)).ok)).mono ?_
      rintro en w2 ⟨v, F3, rfl, ho, hp, hf, hb⟩
      obtain ⟨A, c, rfl⟩ := own_slice ho
      refine Eq.mp (congrArg (fun a => K a _) ?_) (hK.out (.agg #[.slice TA Tn Tc, .slice A F3.length c, .slice (some ⟨gA, 0, none⟩) m c1]) w2 (HCC.out _ (hC.trans (hb.mono hC.size))) ⟨A, c, F3, rfl, base_le ho hC.size, hp, fun x hx => colFresh_base (hf x hx) hC.size⟩ (Og.All.cons (fun _ => hC.trans (hb.mono hC.size)) (Og.All.cons (fun h => own_below h hb) Og.All.nil)))
      have u3 : ∀ v, Og.upd y 10 v 3 = y 3 := fun v => rfl
      have u10 : ∀ v, Og.upd y 10 v 10 = v := fun v => rfl
      have u13 : ∀ v, Og.upd y 10 v 13 = y 13 := fun v => rfl
      simp only [Act.put, List.getElem_toArray, List.getElem_cons_succ, List.getElem_cons_zero, List.setIfInBounds_toArray, List.set_cons_zero, List.set_cons_succ, u3, u10, u13, x3]
    case st12 =>
      intro y w1 hC hN K hK
      obtain hC : Below W0.heap.size W0 w1 := hN.head
      obtain ⟨A3, c3, F3, x10, ho3, hp3, hf3⟩ : ∃ A3 c3 F3, y 10 = .agg #[.slice TA Tn Tc, .slice A3 F3.length c3, .slice (some ⟨gA, 0, none⟩) m c1] ∧ w1.ownsRow W0.heap.size 68 3 (.slice A3 F3.length c3) F3.length (cols F3) ∧ F3.map Col.p = PS ∧ ∀ x ∈ F3, ColFresh w1 W0.heap.size x := hN.tail.head
      obtain ho21 : w1.ownsRow W0.heap.size 27 1 (.slice (some ⟨gA, 0, none⟩) (m + 1) c1) (m + 1) (ids (es.set r em)) := hN.tail.tail.head
      simp only [x10]
      have hk := blk_below HK1.out hC
      obtain ⟨⟨z0, z1, z2⟩, zf⟩ := blk_cells3 hk
      have zf0 := zf 0
      have zf1 := zf 1
      have zf2 := zf 2
      obtain ⟨q0, q1, q2⟩ := HC.out _ hC
      have hCW := HB.out.trans (hC.mono HB.out.size)
      go_simp
      refine Eq.mp (congrArg (fun a => K a _) ?_) (hK.out (undef) _ (⟨below_set3 hCW (by omega), far3 _ _ _ trivial q0 (by omega), far3 _ _ _ trivial q1 (by omega), far3 _ _ _ trivial q2 (by omega)⟩) ⟨A3, c3, F3, ((hk.set_ 0 _).set_ 1 _).set_ 2 _, own_set3 ho21 hk (by decide) _ _ _, own_set3 ho3 hk (by decide) _ _ _, hp3, fun x hx => fresh_set3 (hf3 x hx) hk (by decide) _ _ _⟩ Og.All.nil)
      have u3 : ∀ v, Og.upd y 12 v 3 = y 3 := fun v => rfl
      have u10 : ∀ v, Og.upd y 12 v 10 = y 10 := fun v => rfl
      have u13 : ∀ v, Og.upd y 12 v 13 = y 13 := fun v => rfl
      simp only [Act.put, List.getElem_toArray, List.getElem_cons_succ, List.getElem_cons_zero, List.setIfInBounds_toArray, List.set_cons_zero, List.set_cons_succ, u3, u10, u13, x10]
    case st13 =>
      intro y w1 hC hN K hK
      go_simp
      refine Eq.mp (congrArg (fun a => K a _) ?_) (hK.out (.int .u64 em) w1 (hC) rfl (Og.All.cons (fun h => h) Og.All.nil))
      have u3 : ∀ v, Og.upd y 13 v 3 = y 3 := fun v => rfl
      have u10 : ∀ v, Og.upd y 13 v 10 = y 10 := fun v => rfl
      have u13 : ∀ v, Og.upd y 13 v 13 = v := fun v => rfl
      simp only [Act.put, List.getElem_toArray, List.getElem_cons_succ, List.getElem_cons_zero, List.setIfInBounds_toArray, List.set_cons_zero, List.set_cons_succ, u3, u10, u13]
    case hE =>
      intro y w1 hC hF
      obtain ⟨A3, c3, F3, hk, ho2, ho3, hp3, hf3⟩ : ∃ A3 c3 F3, Blk w1 (w.heap.size + 1) 25 #[.slice TA Tn Tc, .slice A3 F3.length c3, .slice (some ⟨gA, 0, none⟩) m c1] ∧ w1.ownsRow W0.heap.size 27 1 (.slice (some ⟨gA, 0, none⟩) (m + 1) c1) (m + 1) (ids (es.set r em)) ∧ w1.ownsRow W0.heap.size 68 3 (.slice A3 F3.length c3) F3.length (cols F3) ∧ F3.map Col.p = PS ∧ ∀ x ∈ F3, ColFresh w1 W0.heap.size x := hF.head
      obtain x13 : y 13 = .int .u64 em := hF.tail.head
      have hCB := hC.1
      clear hC hF
      simp only [x13]
      clear x13
      generalize y 3 = y3
      generalize y 10 = y10
      clear y
      obtain ⟨⟨z0, z1, z2⟩, _⟩ := blk_cells3 hk
      have HK := Lib.hid hk
      have HO2 := Lib.hid ho2
      have HO3 := Lib.hid ho3
      have HP3 := Lib.hid hp3
      have HF3 := Lib.hid hf3
      have HCB := Lib.hid hCB
      clear hk ho2 ho3 hp3 hf3 hCB cwd crs cof x0 x1 x2 hHeld
      go_wp2_with fail
      refine bodyPost_ret (v := .tuple #[.agg #[.slice TA Tn Tc, .slice A3 F3.length c3, .slice (some ⟨gA, 0, none⟩) m c1], .int .u64 em]) (by simp [results, Try.results38, go_sem, *]) rfl ?_
      have ht := (H0.out.keep HCB.out).more HCB.out.size
      obtain ⟨A3', c3', e3, l3, m3⟩ := own_cap HO3.out
      injection e3 with _ _ e3
      have hr2 := reads_pre (m := m) (Reads.of_own HO2.out) (by omega)
      rw [ids_take, HSE.out] at hr2
      have ho2' := own_shrink (m := m) HO2.out (by omega)
      rw [ids_take, HSE.out] at ho2'
      exact ⟨⟨TA, Tn, Tc, ty, A3, F3.length, c3, F3, some ⟨gA, 0, none⟩, m, c1, se⟩, rfl, by rw [HP.out]; unfold Tab.p; rw [HP3.out], ⟨ht.ty, ht.tyc, ht.tyw, Reads.of_own HO3.out, ⟨by rw [e3]; exact l3, by rw [e3]; unfold maxLen; exact m3⟩, fun x hx => (HF3.out x hx).1, hr2, ⟨hmc, by unfold maxLen; exact hcA.2⟩, HSW.out⟩, HCB.out, fun b hb hf => ⟨hf.ty.below HCB.out, base_le HO3.out (Nat.le_trans hb HB.out.size), fun x hx => colFresh_base (HF3.out x hx) (Nat.le_trans hb HB.out.size), idFresh_own (base_le ho2' (Nat.le_trans hb HB.out.size)) HSW.out⟩⟩
end Go.Proofs.Ytbcbknajhdaneaa
namespace Go.Proofs.Ytbcbknajhdaneaa
open Go.RowKit
set_option linter.unusedVariables false
set_option linter.unusedSimpArgs false
theorem ofL_get (R : List (List (List Int))) (E : Int) : ∀ (ws : List Int) (b k : Nat), (ofL R E b ws)[k]? = (ws[k]?).map fun n => (n, E, colOf R (b + k))
  | [], _, _ => rfl
  | n :: ws, b, 0 => rfl
  | n :: ws, b, k + 1 => by
    show (ofL R E (b + 1) ws)[k]? = _
    rw [ofL_get R E ws (b + 1) k, List.getElem?_cons_succ, show b + 1 + k = b + (k + 1) from by omega]
theorem colOf_snoc (R : List (List (List Int))) (r : List (List Int)) {k : Nat} {v : List Int} (h : r[k]? = some v) : colOf (R ++ [r]) k = colOf R k ++ v := by
  unfold colOf
  rw [List.flatMap_append]
  simp [h]
theorem colOf_chunks {W k : Nat} : ∀ (m : Nat) {l : List Int} {R : List (List (List Int))}, l.length = W * m → R.length = m → (∀ (j : Nat) (r : List (List Int)), R[j]? = some r → r[k]? = some (chunk l W j)) → colOf R k = l
  | 0, l, R, hl, hR, _ => by
    obtain rfl : R = [] := List.length_eq_zero_iff.1 hR
    obtain rfl : l = [] := List.length_eq_zero_iff.1 (by omega)
    rfl
  | m + 1, l, R, hl, hR, h => by
    have hl2 : l.length = W * m + W := by rw [hl, Nat.mul_succ]
    have e : R = R.take m ++ [R[m]] := by
      have h1 := take_snoc (List.getElem?_eq_getElem (l := R) (i := m) (by omega))
      rw [List.take_of_length_le (by omega)] at h1
      exact h1
    have h2 := h m R[m] (List.getElem?_eq_getElem _)
    have hc : l = l.take (W * m) ++ chunk l W m := by
      unfold chunk
      rw [Nat.mul_comm m W, List.take_of_length_le (l := List.drop (W * m) l) (by rw [List.length_drop]; omega), List.take_append_drop]
    have h3 := colOf_chunks (W := W) (k := k) m (l := l.take (W * m)) (R := R.take m) (by rw [List.length_take]; omega) (by rw [List.length_take]; omega) fun j r hj => by
      rw [List.getElem?_take] at hj
      split at hj
      · rename_i hjm
        have h4 := h j r hj
        rw [h4]
        congr 1
        unfold chunk
        have h5 := rows_le (W := W) hjm
        rw [Nat.succ_mul, Nat.mul_comm m W] at h5
        rw [List.drop_take, List.take_take, Nat.min_eq_left (by omega)]
      · cases hj
    rw [e, colOf_snoc _ _ h2, h3, ← hc]
theorem rowL_get {F : List Col} {j k : Nat} {x : Col} (h : F[k]? = some x) : (rowL F j)[k]? = some (chunk x.l x.W.toNat j) := by unfold rowL; rw [List.getElem?_map, h]; rfl
theorem allR_get {F : List Col} {m j : Nat} {r : List (List Int)} (h : (allR F m)[j]? = some r) : j < m ∧ r = rowL F j := by
  have hj := (List.getElem?_eq_some_iff.1 h).1
  rw [allR_len] at hj
  rw [allR_at hj] at h
  injection h with h
  exact ⟨hj, h.symm⟩
/-- what is known of a column of a table that may be -/
theorem tab_col {t : Tab} (hb : tabB t = true) (hn : NL t) {k : Nat} {x : Col} (hk : t.F[k]? = some x) : 0 ≤ x.W ∧ x.W ≤ 4 ∧ x.R = (t.es.length : Int) ∧ x.l.length = x.W.toNat * t.es.length ∧ colB x.W x.R x.n = true := by
  obtain ⟨_, _, hle, hc, _⟩ := tabB_parts hb
  obtain ⟨h1, h2⟩ := hc x (List.mem_of_getElem? hk)
  have h3 := hn x (List.mem_of_getElem? hk)
  have h4 := h1
  unfold colB at h4
  obtain ⟨hW0, hW4, hR0, hR1, hnn⟩ := of_decide_eq_true h4
  refine ⟨hW0, hW4, h2, ?_, h1⟩
  obtain ⟨W, hW⟩ := Int.eq_ofNat_of_zero_le hW0
  rw [hW, h2, ← Int.natCast_mul] at hnn
  rw [h3, hW, Int.toNat_natCast]
  omega
/-- the columns that come of it -/
theorem cols_eq {t : Tab} {fp : Nat → Col → PC} {R : List (List (List Int))} {E : Int} (h : ∀ (k : Nat) (x : Col), t.F[k]? = some x → fp k x = (x.W, E, colOf R k)) : eachL fp 0 t.F = ofL R E 0 (t.F.map Col.W) := by
  refine List.ext_getElem? fun k => ?_
  rw [eachL_get, ofL_get, List.getElem?_map, Nat.zero_add]
  cases hk : t.F[k]? with
  | none => rfl
  | some x => simp only [Option.map_some]; rw [h k x hk]
theorem push_same {t : Tab} {e : Int} {G : List Rw} (hn : NL t) (hE : t.es.length = t.En) (hl : ∀ v ∈ G, v.l.length = v.n) (h : tpuE t e G = 0) : tpuP t e G = rpuP t e (G.map Rw.l) := by
  have h0 := h
  unfold tpuE at h
  split at h
  rotate_left
  · omega
  rename_i hb
  split at h
  rotate_left
  · omega
  rename_i hk
  split at h
  · omega
  split at h
  rotate_left
  · omega
  rename_i hw
  unfold tpuP rpuP
  rw [if_pos h0]
  congr 2
  refine cols_eq fun k x hx => ?_
  obtain ⟨hW0, hW4, hR, hxl, hc⟩ := tab_col hb hn hx
  have hlt := (List.getElem?_eq_some_iff.1 hx).1
  have hv := rws_at (G := G) (k := k) (by omega)
  have hwv := widE_at hw k x hx
  rw [Nat.zero_add] at hwv
  have hvl := hl _ (List.mem_of_getElem? hv)
  generalize vAt G k = v at *
  have hz : pushE x v = 0 := by
    unfold pushE
    rw [hc, if_pos rfl, if_neg (by rw [hwv]; simp)]
    split
    · rename_i h9
      rw [hR] at h9
      have h1 : (t.es.length = 1048578) ∨ t.es.length < 1048578 := by
        have := (tabB_parts hb).2.2.1
        omega
      rcases h1 with h1 | h1
      · rw [if_pos h1] at h; omega
      · omega
    · rfl
  unfold pushP
  rw [if_pos hz]
  have hvW : v.l.length = x.W.toNat := by omega
  rw [← hE, hR]
  congr 2
  rw [colOf_snoc _ _ (show (G.map Rw.l)[k]? = some v.l from by rw [List.getElem?_map, hv]; rfl)]
  rw [colOf_chunks (W := x.W.toNat) t.es.length hxl (allR_len _ _) fun j r hj => by
    obtain ⟨_, rfl⟩ := allR_get hj
    exact rowL_get hx]
theorem swap_same {t : Tab} {r m : Nat} (hn : NL t) (hm : t.es.length = m + 1) (hr : r ≤ m) (hb : tabB t = true) : tswP t (r : Int) = rswapP t r m := by
  have h0 : atE t (r : Int) = 0 := by unfold atE; rw [hb, if_pos rfl, if_pos ⟨by omega, by omega⟩]
  unfold tswP rswapP
  rw [if_pos h0, Int.toNat_natCast]
  congr 2
  refine cols_eq fun k x hx => ?_
  obtain ⟨hW0, hW4, hR, hxl, hc⟩ := tab_col hb hn hx
  have hg : getE x (r : Int) = 0 := by unfold getE; rw [hc, if_pos rfl, if_pos ⟨by omega, by omega⟩]
  unfold swpP
  rw [if_pos hg, hR, hm, Int.toNat_natCast, show (((m + 1 : Nat) : Int) - 1) = (m : Int) from by omega, Int.toNat_natCast]
  congr 2
  rw [hm] at hxl
  symm
  refine colOf_chunks (W := x.W.toNat) m (swapC_len hxl hr) (by unfold rswapR; rw [List.length_take, List.length_set, allR_len]; omega) fun j q hj => ?_
  unfold rswapR at hj
  rw [List.getElem?_take] at hj
  split at hj
  rotate_left
  · cases hj
  rename_i hjm
  rw [swapC_chunk hxl hr hjm]
  rw [List.getElem?_set] at hj
  unfold sig
  split at hj
  · rename_i hrj
    subst hrj
    rw [allR_len, if_pos (by omega)] at hj
    injection hj with hj
    rw [← hj, if_pos rfl]
    exact rowL_get hx
  · rename_i hrj
    obtain ⟨_, rfl⟩ := allR_get hj
    rw [if_neg (Ne.symm hrj)]
    exact rowL_get hx
theorem idx_zero {a : Int} (h : Word a) : idx a = 0 ↔ kd a ≠ 1 := by
  unfold idx
  split
  · rename_i hk
    have ht : tk a 1 = true := by
      unfold kd at hk
      split at hk
      · assumption
      · split at hk
        · omega
        · split at hk
          · omega
          · split at hk <;> omega
    rw [tk1] at ht
    simp only [Bool.and_eq_true] at ht
    have h2 := ht.1.2
    unfold inn at h2
    simp only [List.all_cons, List.all_nil, Bool.and_true] at h2
    unfold pa
    rw [if_pos (.inl hk)]
    constructor
    · intro h3
      rw [h3] at h2
      simp at h2
    · intro h3; exact absurd hk h3
  · rename_i hk; exact ⟨fun _ => hk, fun _ => rfl⟩
end Go.Proofs.Ytbcbknajhdaneaa
namespace Go.Proofs.Ytbcbknajhdaneaa
open Go.RowKit
set_option linter.unusedVariables false
set_option linter.unusedSimpArgs false
section
variable {a b : Tab} (hp : a.p = b.p)
include hp
theorem p_ty : a.ty = b.ty := congrArg (fun p : PT => p.1) hp
theorem p_es : a.es = b.es := congrArg (fun p : PT => p.2.2) hp
theorem p_F : a.F.map Col.p = b.F.map Col.p := congrArg (fun p : PT => p.2.1) hp
theorem p_len : a.F.length = b.F.length := by have := congrArg List.length (p_F hp); simpa using this
theorem p_at {k : Nat} {x : Col} (hx : a.F[k]? = some x) : ∃ y, b.F[k]? = some y ∧ x.W = y.W ∧ x.R = y.R ∧ x.l = y.l := by
  have h1 := congrArg (fun l => l[k]?) (p_F hp)
  simp only [List.getElem?_map, hx, Option.map_some] at h1
  cases hy : b.F[k]? with
  | none => rw [hy] at h1; cases h1
  | some y =>
    rw [hy] at h1
    simp only [Option.map_some, Option.some.injEq] at h1
    unfold Col.p at h1
    injection h1 with h2 h3
    injection h3 with h3 h4
    exact ⟨y, rfl, h2, h3, h4⟩
theorem tabB_p1 (na : NL a) (nb : NL b) (h : tabB a = true) : tabB b = true := by
  obtain ⟨p1, p2, p3, p4, p5⟩ := tabB_parts h
  rw [tabB_eq]
  simp only [Bool.and_eq_true, decide_eq_true_eq, List.all_eq_true]
  refine ⟨by rw [← p_ty hp]; exact p1, by rw [← p_ty hp, ← p_len hp]; exact p2, by rw [← p_es hp]; exact p3, fun y hy => ?_, by rw [← p_es hp]; exact p5⟩
  obtain ⟨k, hk⟩ := List.getElem?_of_mem hy
  obtain ⟨x, hx, e1, e2, e3⟩ := p_at hp.symm hk
  obtain ⟨q1, q2⟩ := p4 x (List.mem_of_getElem? hx)
  have q3 := na x (List.mem_of_getElem? hx)
  have q4 := nb y hy
  unfold colT
  rw [e1, e2, ← q4, e3, q3, ← p_es hp, q2]
  rw [q2] at q1
  rw [q1]
  simp
end
theorem tabB_p {a b : Tab} (hp : a.p = b.p) (na : NL a) (nb : NL b) : tabB a = tabB b := by
  cases h : tabB a with
  | true => exact (tabB_p1 hp na nb h).symm
  | false =>
    cases h2 : tabB b with
    | false => rfl
    | true => rw [tabB_p1 hp.symm nb na h2] at h; cases h
end Go.Proofs.Ytbcbknajhdaneaa
