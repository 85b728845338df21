/- What is proved: package value's words: its iterator. -/
import Derived.Test.YtcfpnnkohjochaaDoorVaK
import Derived.Lib.SplitLaws
namespace Go.Proofs.YtcfpnnkohjochaaDoor
open Go.RowKit
set_option linter.unusedVariables false
set_option linter.unusedSimpArgs false
attribute [local go_sem] Oper.semAt_some
/-- blocks of strings stay -/
def KStr (W W' : World) : Prop := W.heap.size ≤ W'.heap.size ∧ ∀ (k : Nat) (cs : Array Value) (fr : Nat × Nat), W.heap[k]? = some (.cells cs 9 fr) → W'.heap[k]? = some (.cells cs 9 fr)
theorem KStr.refl (W : World) : KStr W W := ⟨Nat.le_refl _, fun _ _ _ h => h⟩
theorem KStr.trans {A B C : World} (h : KStr A B) (k : KStr B C) : KStr A C := ⟨Nat.le_trans h.1 k.1, fun i cs fr hi => k.2 i cs fr (h.2 i cs fr hi)⟩
theorem KStr.grown {W W' : World} {row : Option Nat} (hg : W.grownBy W' row) (hr : ∀ r, row = some r → ∀ cs fr, W.heap[r]? ≠ some (.cells cs 9 fr)) : KStr W W' :=
  ⟨hg.size, fun k cs fr h => (hg.block k (Array.getElem?_eq_some_iff.1 h).1 (fun e => hr k e.symm cs fr h)).trans h⟩
theorem KStr.below {W W' : World} (hb : Below W.heap.size W W') : KStr W W' := KStr.grown (below_none hb) (fun r e => by cases e)
theorem KStr.alloc (W : World) (o : Obj) : KStr W (W.alloc o) := KStr.below ((Below.refl _ _).alloc (Nat.le_refl _) _)
/-- what a round keeps: what lay below, and strings -/
def KpS (n₁ : Nat) (W W' : World) : Prop := Below n₁ W W' ∧ KStr W W'
theorem kpS_t {n₁ : Nat} {A B C : World} (h : KpS n₁ A B) (k : KpS n₁ B C) : KpS n₁ A C := ⟨h.1.trans k.1, h.2.trans k.2⟩
theorem kpS_b {n₁ : Nat} {w : World} (hn : n₁ ≤ w.heap.size) (W : World) (l : Nat) (o o' : Obj) (hl : w.heap.size ≤ l) (h : W.heap[l]? = some o) (hc : o.isCells = false) (hw : o.isWalk = false) : KpS n₁ W (W.putObj l o') :=
  ⟨belowK_b hn W l o o' hl h hc hw, KStr.grown (grownBy_putObj' W l o') (fun r e cs fr => by
    cases e
    rw [h]
    intro e2
    injection e2 with e2
    subst e2
    cases hc)⟩
def Low (n₁ : Nat) : Prop := 3 < n₁ ∧ 5 < n₁
theorem Env.low {w : World} (h : Env w) : Low w.heap.size := ⟨by obtain ⟨_, h3, _⟩ := h.e3; exact h3, h.tz.1⟩
theorem Env.keep {n₁ : Nat} {w w' : World} (h : Env w) (hb : Below n₁ w w') (hn : Low n₁) : Env w' := by
  obtain ⟨ht, ⟨m, a0, a1⟩, ⟨ev, b0, b1, b2⟩, ⟨ev2, c0, c1, c2⟩⟩ := h
  obtain ⟨h3, h5⟩ := hn
  have hs := hb.size
  exact ⟨⟨Nat.lt_of_lt_of_le ht.1 hs, cell_below' hb ht.2 h5⟩, ⟨m, by omega, cell_below' hb a1 (by omega)⟩, ⟨ev, by omega, cell_below' hb b1 (by omega), b2⟩, ⟨ev2, by omega, cell_below' hb c1 (by omega), c2⟩⟩
/-- a word, or some number, and whether it is one -/
abbrev Item := { x : Int × Bool // Word x.1 }
def encI (x : Item) : Array Value := #[.int .u64 x.1.1, .bool x.1.2]
def FitI (p : ByteArray) (x : Item) : Prop := x.1.2 = (wordP p.data.toList).isSome ∧ ∀ y, wordP p.data.toList = some y → y = x.1.1
def OkPre (ps : List ByteArray) (pre : List Item) : Prop := pre.length ≤ ps.length ∧ ∀ (i : Nat) (x : Item) (p : ByteArray), pre[i]? = some x → ps[i]? = some p → FitI p x ∧ x.1.2 = true
def LastW (ps : List ByteArray) (ys pre : List Item) (x : Item) : Prop := ys = pre ++ [x] ∧ OkPre ps pre ∧ ∃ p, ps[pre.length]? = some p ∧ FitI p x
def GoodW (ps : List ByteArray) (xs : List Item) : Prop := (OkPre ps xs ∧ xs.length = ps.length) ∨ ∃ pre x, LastW ps xs pre x ∧ x.1.2 = false
def PreW (ps : List ByteArray) (ys : List Item) : Prop := ∃ pre x, LastW ps ys pre x
theorem OkPre.nil (ps : List ByteArray) : OkPre ps [] := ⟨Nat.zero_le _, fun i x p h => by simp at h⟩
theorem OkPre.snoc {ps : List ByteArray} {pre : List Item} {x : Item} {p : ByteArray} (h : OkPre ps pre) (hp : ps[pre.length]? = some p) (hf : FitI p x) (hx : x.1.2 = true) : OkPre ps (pre ++ [x]) := by
  refine ⟨by have := (List.getElem?_eq_some_iff.1 hp).1; simp; omega, fun i y q hy hq => ?_⟩
  rw [List.getElem?_append] at hy
  split at hy
  · exact h.2 i y q hy hq
  · have hi : i = pre.length := by
      have := (List.getElem?_eq_some_iff.1 hy).1
      simp at this
      omega
    subst hi
    simp at hy
    subst hy
    rw [hp] at hq
    injection hq with hq
    subst hq
    exact ⟨hf, hx⟩
def comma : ByteArray := ⟨#[44]⟩
/-- the parts of a text, between the commas -/
def partsB (s : ByteArray) : List ByteArray := Lib.splitB ⟨#[44]⟩ 0 (Lib.countB s ⟨#[44]⟩) s
theorem partsB_len (s : ByteArray) : (partsB s).length = Lib.countB s ⟨#[44]⟩ + 1 := Lib.splitB_all _ (by decide) _ _ s rfl
theorem partsB_le (s : ByteArray) : (partsB s).length ≤ s.size + 1 := by
  rw [partsB_len]
  have := Lib.countB_le ⟨#[44]⟩ (by decide) s.size s (Nat.le_refl _)
  omega
theorem splitB_size (sep : ByteArray) : ∀ (k : Nat) (s p : ByteArray), p ∈ Lib.splitB sep 0 k s → p.size ≤ s.size
  | 0, s, p, h => by
    rw [Lib.splitB_zero] at h
    simp at h
    subst h
    exact Nat.le_refl _
  | k + 1, s, p, h => by
    unfold Lib.splitB at h
    split at h
    · simp at h; subst h; exact Nat.le_refl _
    · rcases List.mem_cons.1 h with rfl | h
      · rw [ByteArray.size_extract]; omega
      · have := splitB_size sep k _ p h
        rw [ByteArray.size_extract] at this
        omega
set_option maxRecDepth 100000 in
set_option maxHeartbeats 8000000 in
theorem words1_in (n : Nat) (hn : 1 ≤ n) (l bs n₁ : Nat) (s : ByteArray) (hs : s.size ≤ 65536) (hlo : Low n₁) (J Jx : List Item → World → Prop) (W : World) (hE : Env W) (hn₁ : n₁ ≤ W.heap.size)
    (cb : W.heap[bs]? = some (.cells #[.string s] 9 (0, 0))) (hJ : AbidesFrom W.heap.size J)
    (hY : ∀ pre x W1, J pre W1 → pre.length < 65537 → YieldAt Fence.wide (n - 1) Tryd.prog l (encI x) W1 fun e W' =>
      (e = .returned (.bool true) ∧ J (pre ++ [x]) W' ∧ KpS n₁ W1 W') ∨ (e = .returned (.bool false) ∧ Jx (pre ++ [x]) W')) (h0 : J [] W) :
    CallsIn Fence.wide n Tryd.prog 45 #[.func (.yield l) #[] #[], .pointer (some ⟨bs, 0, none⟩)] W fun e W' => (∃ v, e = .returned v) ∧
      ((∃ xs, GoodW (partsB s) xs ∧ J xs W') ∨ (∃ pre, PreW (partsB s) pre ∧ Jx pre W')) := by
  have cb0 : W.cell? ⟨bs, 0, none⟩ = some (.string s) := by simp [World.cell?, cb]
  obtain ⟨m, _, hm⟩ := hE.mx
  have csp := Tryd.strings_Split s ⟨#[44]⟩ m W (by omega) hm (by decide)
  have hpl := partsB_len s
  have hple := partsB_le s
  have hps : ∀ p ∈ partsB s, p.size ≤ 65536 := fun p hp => Nat.le_trans (splitB_size _ _ s p hp) hs
  obtain ⟨ps, hps0⟩ : ∃ ps, partsB s = ps := ⟨_, rfl⟩
  obtain ⟨N, hN⟩ : ∃ N, Lib.countB s ⟨#[44]⟩ + 1 = N := ⟨_, rfl⟩
  have hpp : Lib.splitB ⟨#[44]⟩ 0 (Lib.countB s ⟨#[44]⟩) s = ps := hps0
  rw [hN, hpp] at csp
  rw [hps0] at hpl hple hps ⊢
  rw [hN] at hpl
  have hN2 : N ≤ 65537 := by omega
  obtain ⟨W0, hW0⟩ : ∃ W0, W0 = W.alloc (.cells (ps.map Value.string).toArray 9) := ⟨_, rfl⟩
  rw [← hW0] at csp
  have hb0 : Below W.heap.size W W0 := by rw [hW0]; exact (Below.refl _ _).alloc (Nat.le_refl _) _
  have hblk : W0.heap[W.heap.size]? = some (.cells (ps.map Value.string).toArray 9 (0, 0)) := by rw [hW0]; exact last_blk W _
  have hJ0 := hJ _ _ _ none h0 (below_none hb0) (fun r e => by cases e)
  have hE0 := Lib.hid (hE.below hb0)
  have hPL := Lib.hid hpl
  have hBLK := Lib.hid hblk
  have HPS := Lib.hid hps
  clear hm hE hpl hps hps0 hN hpp cb h0 hple hW0 hblk
  refine callsIn_of_wp Tryd.func45 rfl trivial ?_ rfl
  simp only [Tryd.ntmps45, List.size_toArray, List.length_cons, List.length_nil, Nat.reduceAdd, Nat.reduceSub, Array.replicate_succ, Array.replicate_zero, List.push_toArray, List.append_toArray, List.nil_append, List.cons_append]
  gi_wp2_with (first
    | (refine ⟨trivial, ?_⟩; gi_at_call 46; (with_reducible refine (callsIn_wide.2 csp).mono ?_); rintro e w2 ⟨rfl, rfl⟩)
    | fail)
  gi_loopw [10] (fun i wr => ∃ (k : Nat) (pre : List Item), k ≤ N ∧ i = .int .i64 k ∧ pre.length = k ∧ OkPre ps pre ∧ J pre wr ∧ KpS n₁ w2 wr)
    (fun i _ => N - (intOf i).toNat)
  case atStart => exact ⟨0, [], Nat.zero_le _, rfl, rfl, OkPre.nil _, hJ0, Below.refl _ _, KStr.refl _⟩
  case round =>
    clear hJ0
    obtain ⟨k, pre, hk, rfl, hpk, hok, hJs, hkp⟩ := hrel
    have hsz := hkp.1.size
    by_cases hlt : k < N
    · have e1 := List.getElem?_eq_getElem (l := ps) (i := k) (by have := hPL.out; omega)
      generalize ps[k]'(by have := hPL.out; omega) = p at e1
      have g1 : wr.cell? ⟨W.heap.size, k, none⟩ = some (.string p) := by
        have hb := hkp.2.2 _ _ _ hBLK.out
        rw [cell_of_row wr W.heap.size k _ 9 (0, 0) hb]
        simp [e1]
      have hw := word_any p wr (by have := HPS.out p (List.mem_of_getElem? e1); omega) (hE0.out.keep hkp.1 hlo)
      have hlen : pre.length < 65537 := by omega
      have HP := Lib.hid hpk
      have HO := Lib.hid hok
      have HE1 := Lib.hid e1
      have HKP := Lib.hid hkp
      clear e1 hpk hok hkp
      unfold WordC at hw
      obtain ⟨ob, hob⟩ : ∃ ob, wordP p.data.toList = ob := ⟨_, rfl⟩
      rw [hob] at hw
      have HOB := Lib.hid hob
      clear hob
      have i1 : (k : Int) < (N : Int) := by omega
      cases ob with
      | some y =>
        simp only [Option.isSome_some] at hw
        gi_wp2_with (first
          | (refine ⟨trivial, ?_⟩; gi_at_call 47; (with_reducible refine (callsIn_wide.2 hw).mono ?_); rintro e w3 ⟨v, rfl, hv1, hv2, hb2⟩; have hV := Lib.hid hv1; clear hv1; obtain ⟨fn, tmps, assign, body, hy, hRd⟩ := hY pre ⟨(v, true), hv2⟩ w3 (hJ _ _ _ none hJs (below_none hb2) (fun r e => by cases e)) hlen; unfold encI at hy)
          | fail)
        have hfit : FitI p ⟨(v, true), hv2⟩ := ⟨by rw [HOB.out]; rfl, fun z hz => by rw [HOB.out] at hz; injection hz with hz; rw [← hz]; exact hV.out y rfl⟩
        refine hRd.mono ?_
        rintro e W3 (⟨rfl, hJ3, hk3⟩ | ⟨rfl, hJx3⟩)
        · have hkp3 : KpS n₁ w2 W3 := kpS_t HKP.out (kpS_t ⟨hb2.mono (Nat.le_trans hn₁ (Nat.le_trans hb0.size hsz)), KStr.below hb2⟩ hk3)
          have hok3 : OkPre ps (pre ++ [⟨(v, true), hv2⟩]) := HO.out.snoc (by rw [HP.out]; exact HE1.out) hfit rfl
          have hl3 : (pre ++ [(⟨(v, true), hv2⟩ : Item)]).length = k + 1 := by simp [HP.out]
          have H3 := Lib.hid hl3
          clear hb2 hk3 hy hRd hl3
          gi_wp2
          go_roundw
          case rel => exact ⟨k + 1, _, by omega, by go_num, H3.out, hok3, hJ3, hkp3⟩
          case measure => simp [intOf]; omega
        · have hpw : PreW ps (pre ++ [⟨(v, true), hv2⟩]) := ⟨pre, _, rfl, HO.out, p, by rw [HP.out]; exact HE1.out, hfit⟩
          clear hb2 hy hRd
          gi_wp2
          refine bodyPost_ret (results_none rfl _ _ _) rfl ?_
          exact ⟨⟨_, rfl⟩, .inr ⟨_, hpw, hJx3⟩⟩
      | none =>
        simp only [Option.isSome_none] at hw
        gi_wp2_with (first
          | (refine ⟨trivial, ?_⟩; gi_at_call 47; (with_reducible refine (callsIn_wide.2 hw).mono ?_); rintro e w3 ⟨v, rfl, hv1, hv2, hb2⟩; have hV := Lib.hid hv1; clear hv1; obtain ⟨fn, tmps, assign, body, hy, hRd⟩ := hY pre ⟨(v, false), hv2⟩ w3 (hJ _ _ _ none hJs (below_none hb2) (fun r e => by cases e)) hlen; unfold encI at hy)
          | fail)
        have hfit : FitI p ⟨(v, false), hv2⟩ := ⟨by rw [HOB.out]; rfl, fun z hz => by rw [HOB.out] at hz; cases hz⟩
        have hlast : LastW ps (pre ++ [⟨(v, false), hv2⟩]) pre ⟨(v, false), hv2⟩ := ⟨rfl, HO.out, p, by rw [HP.out]; exact HE1.out, hfit⟩
        refine hRd.mono ?_
        rintro e W3 (⟨rfl, hJ3, hk3⟩ | ⟨rfl, hJx3⟩)
        · clear hb2 hk3 hy hRd
          gi_wp2
          refine bodyPost_ret (results_none rfl _ _ _) rfl ?_
          exact ⟨⟨_, rfl⟩, .inl ⟨_, .inr ⟨_, _, hlast, rfl⟩, hJ3⟩⟩
        · clear hb2 hy hRd
          gi_wp2
          refine bodyPost_ret (results_none rfl _ _ _) rfl ?_
          exact ⟨⟨_, rfl⟩, .inr ⟨_, ⟨_, _, hlast⟩, hJx3⟩⟩
    · have hkN : N = k := by omega
      subst hkN
      have hg : GoodW ps pre := .inl ⟨hok, by rw [hpk, hPL.out]⟩
      have HG := Lib.hid hg
      have HJ := Lib.hid hJs
      clear hJs hY hJ hg hok hpk
      gi_wp2
      go_end0
      exact ⟨⟨_, rfl⟩, .inl ⟨_, HG.out, HJ.out⟩⟩
end Go.Proofs.YtcfpnnkohjochaaDoor
