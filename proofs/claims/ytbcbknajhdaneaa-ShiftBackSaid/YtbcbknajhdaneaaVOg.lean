/- What is proved: a rule for a region that draws its order: each operation is walked once, from what those ahead of it have left; what one leaves is shown to stand behind those that may come between. -/
import Derived.Test.YtbcbknajhdaneaaVWords
import Derived.Deep.RegionHeld3
import Derived.Below
namespace Go.Proofs.Ytbcbknajhdaneaa
open Go.RowKit
set_option linter.unusedVariables false
set_option linter.unusedSimpArgs false
namespace Og
def direct (md : Region.Mode) (ops : Array Oper) (i : Nat) : List Nat :=
  match ops[i]? with
  | some o => (o.after.toList.filter (Region.binds md)).map (·.on)
  | none => []
/-- is i ahead of j, in every order? -/
def reach (md : Region.Mode) (ops : Array Oper) : Nat → Nat → Nat → Bool
  | 0, _, _ => false
  | f + 1, i, j => (direct md ops j).any fun k => k == i || (decide (i < k) && reach md ops f i k)
def ahead (md : Region.Mode) (ops : Array Oper) (i j : Nat) : Bool := reach md ops ops.size i j
/-- what is to be walked, what each asks, what each leaves standing, and what stands at the end; a fact of a number past the operations' stands from the beginning -/
structure Plan where
  rem : List Nat
  facts : List Nat
  needs : Nat → List Nat
  keeps : Nat → List Nat
  final : List Nat
def ok (md : Region.Mode) (ops : Array Oper) (l0 : Array Bool) (p : Plan) : Bool :=
  (l0.size == ops.size) &&
  (List.range ops.size).all (fun i => (p.rem.contains i == !(l0.getD i false)) && (direct md ops i).all (fun k => decide (k < i)) && (!(l0.getD i false) || (direct md ops i).all (fun k => l0.getD k false))) &&
  p.facts.all (fun j => p.rem.contains j || decide (ops.size ≤ j)) &&
  p.rem.all (fun i => (p.needs i).all fun j => p.facts.contains j && (ahead md ops j i || decide (ops.size ≤ j)) && p.rem.all fun k => k == i || k == j || (p.keeps k).contains j || ahead md ops i k || ahead md ops k j) &&
  p.final.all (fun j => p.facts.contains j && p.rem.all fun k => k == j || (p.keeps k).contains j || ahead md ops k j)
def All : List Nat → (Nat → Prop) → Prop
  | [], _ => True
  | j :: l, P => P j ∧ All l P
theorem All.nil {P : Nat → Prop} : All [] P := trivial
theorem All.cons {P : Nat → Prop} {j : Nat} {l : List Nat} (h : P j) (t : All l P) : All (j :: l) P := ⟨h, t⟩
theorem All.head {P : Nat → Prop} {j : Nat} {l : List Nat} (h : All (j :: l) P) : P j := h.1
theorem All.tail {P : Nat → Prop} {j : Nat} {l : List Nat} (h : All (j :: l) P) : All l P := h.2
theorem All.of {P : Nat → Prop} : ∀ {l : List Nat}, (∀ j ∈ l, P j) → All l P
  | [], _ => trivial
  | _ :: _, h => ⟨h _ (List.mem_cons_self ..), All.of fun j hj => h j (List.mem_cons_of_mem _ hj)⟩
theorem All.at_ {P : Nat → Prop} : ∀ {l : List Nat}, All l P → ∀ j ∈ l, P j
  | _ :: _, h, j, hj => by
    rcases List.mem_cons.1 hj with rfl | hj
    · exact h.1
    · exact All.at_ h.2 j hj
def upd (y : Nat → Value) (i : Nat) (v : Value) : Nat → Value := fun j => bif Nat.beq j i then v else y j
abbrev L (listed : Array Bool) (i : Nat) : Prop := listed.getD i false = true
def Down (md : Region.Mode) (ops : Array Oper) (listed : Array Bool) : Prop := ∀ j, L listed j → ∀ k ∈ direct md ops j, L listed k
section
variable {P : Program} {md : Region.Mode} {ops : Array Oper} {Q : Exit → Act → World → Prop} {S : World → Prop}
theorem reach_listed {listed : Array Bool} (hd : Down md ops listed) : ∀ (f i j : Nat), reach md ops f i j = true → L listed j → L listed i
  | 0, _, _, h, _ => by cases h
  | f + 1, i, j, h, hj => by
    unfold reach at h
    obtain ⟨k, hk, h2⟩ := List.any_eq_true.1 h
    have hkl := hd j hj k hk
    rw [Bool.or_eq_true] at h2
    rcases h2 with h2 | h2
    · rw [beq_iff_eq] at h2; subst h2; exact hkl
    · rw [Bool.and_eq_true] at h2; exact reach_listed hd f i k h2.2 hkl
theorem set_L {listed : Array Bool} {i j : Nat} (hi : i < listed.size) : L (listed.setIfInBounds i true) j ↔ (j = i ∨ L listed j) := by
  unfold L
  by_cases h : j = i
  · subst h; simp [Array.getElem?_setIfInBounds, hi]
  · simp only [Array.getD_eq_getD_getElem?, Array.getElem?_setIfInBounds]
    rw [if_neg (fun e => h e.symm)]
    simp [h]
def cnt (listed : Array Bool) : Nat → Nat
  | 0 => 0
  | n + 1 => cnt listed n + (if listed.getD n true = false then 1 else 0)
theorem cnt_high {listed : Array Bool} {i : Nat} : ∀ n, n ≤ i → cnt (listed.setIfInBounds i true) n = cnt listed n
  | 0, _ => rfl
  | n + 1, h => by
    unfold cnt
    rw [cnt_high n (by omega)]
    have : (listed.setIfInBounds i true).getD n true = listed.getD n true := by
      simp only [Array.getD_eq_getD_getElem?, Array.getElem?_setIfInBounds]
      rw [if_neg (by omega)]
    rw [this]
theorem cnt_set {listed : Array Bool} {i : Nat} (hu : listed.getD i true = false) : ∀ n, i < n → cnt (listed.setIfInBounds i true) n + 1 = cnt listed n
  | n + 1, h => by
    have hi : i < listed.size := by
      rcases Nat.lt_or_ge i listed.size with h1 | h1
      · exact h1
      · simp [Array.getElem?_eq_none h1] at hu
    unfold cnt
    by_cases hin : i = n
    · subst hin
      rw [cnt_high i (Nat.le_refl _), if_pos hu]
      have : (listed.setIfInBounds i true).getD i true = true := by simp [Array.getElem?_setIfInBounds, hi]
      rw [this]; simp
    · have ih := cnt_set hu n (by omega)
      have : (listed.setIfInBounds i true).getD n true = listed.getD n true := by
        simp only [Array.getD_eq_getD_getElem?, Array.getElem?_setIfInBounds]
        rw [if_neg hin]
      rw [this]; omega
theorem cnt_zero {listed : Array Bool} : ∀ n, cnt listed n = 0 → ∀ i, i < n → listed.getD i true = true
  | 0, _, i, h => absurd h (by omega)
  | n + 1, h, i, hi => by
    unfold cnt at h
    by_cases hin : i = n
    · subst hin
      cases hh : listed.getD i true with
      | true => rfl
      | false => rw [if_pos hh] at h; omega
    · exact cnt_zero n (by omega) i (by omega)
theorem getD_of {listed : Array Bool} {i : Nat} (hi : i < listed.size) (b c : Bool) : listed.getD i b = listed.getD i c := by
  simp [Array.getD_eq_getD_getElem?, Array.getElem?_eq_getElem hi]
/-- the walk of one operation -/
def Step (P : Program) (Q : Exit → Act → World → Prop) (fr : (Nat → Value) → Act) (C : World → Prop) (F : Nat → (Nat → Value) → World → Prop) (p : Plan) (i : Nat) (o : Oper) : Prop :=
  ∀ (y : Nat → Value) (w : World), C w → All (p.needs i) (fun j => F j y w) → ∀ K : Act → World → Prop,
    Shut (∀ v w', C w' → F i (upd y i v) w' → All (p.keeps i) (fun j => F j y w → F j (upd y i v) w') → K (fr (upd y i v)) w') → Oper.wp P o (fr y) w K Q
def Steps (P : Program) (ops : Array Oper) (Q : Exit → Act → World → Prop) (fr : (Nat → Value) → Act) (C : World → Prop) (F : Nat → (Nat → Value) → World → Prop) (p : Plan) (l : List Nat) : Prop :=
  ∀ i ∈ l, ∃ o, ops[i]? = some o ∧ o.guard = none ∧ Step P Q fr C F p i o
theorem Steps.nil {fr : (Nat → Value) → Act} {C : World → Prop} {F : Nat → (Nat → Value) → World → Prop} {p : Plan} : Steps P ops Q fr C F p [] := fun _ h => by cases h
theorem Steps.cons {fr : (Nat → Value) → Act} {C : World → Prop} {F : Nat → (Nat → Value) → World → Prop} {p : Plan} {i : Nat} {l : List Nat} (o : Oper) (ho : ops[i]? = some o) (hg : o.guard = none) (h : Step P Q fr C F p i o)
    (hs : Steps P ops Q fr C F p l) : Steps P ops Q fr C F p (i :: l) := fun j hj => by
  rcases List.mem_cons.1 hj with rfl | hj
  · exact ⟨o, ho, hg, h⟩
  · exact hs j hj
theorem direct_spec {i : Nat} {o : Oper} (ho : ops[i]? = some o) {listed : Array Bool} : (∀ e ∈ o.after, Region.binds md e = true → listed.getD e.on false = true) ↔ ∀ k ∈ direct md ops i, L listed k := by
  unfold direct
  rw [ho]
  constructor
  · intro h k hk
    obtain ⟨e, he, rfl⟩ := List.mem_map.1 hk
    obtain ⟨h1, h2⟩ := List.mem_filter.1 he
    exact h e (Array.mem_toList_iff.1 h1) h2
  · intro h e he hb
    exact h _ (List.mem_map.2 ⟨e, List.mem_filter.2 ⟨Array.mem_toList_iff.2 he, hb⟩, rfl⟩)
theorem run {fr : (Nat → Value) → Act} {C : World → Prop} {F : Nat → (Nat → Value) → World → Prop} (p : Plan) {l0 : Array Bool} (hok : ok md ops l0 p = true) (hCS : ∀ w, C w → S w)
    (hst : Steps P ops Q fr C F p p.rem) (hend : ∀ y w, C w → All p.final (fun j => F j y w) → Q .normal (fr y) w) :
    ∀ (fuel : Nat) (listed : Array Bool) (y : Nat → Value) (w : World), listed.size = ops.size → (∀ j, L l0 j → L listed j) → Down md ops listed → C w →
      (∀ j ∈ p.facts, (L listed j ∨ ops.size ≤ j) → (∀ k ∈ p.rem, k ≠ j → (p.keeps k).contains j = false → ahead md ops k j = false → ¬ L listed k) → F j y w) →
      cnt listed ops.size ≤ fuel → wpAnyH P md ops Q S fuel listed (fr y) w := by
  simp only [ok, Bool.and_eq_true, beq_iff_eq] at hok
  obtain ⟨⟨⟨⟨hsz0, hall⟩, hfr⟩, hneed⟩, hfin⟩ := hok
  have hdone : ∀ (listed : Array Bool) (y : Nat → Value) (w : World), listed.size = ops.size → (∀ i, i < ops.size → listed.getD i true = true) → C w →
      (∀ j ∈ p.facts, (L listed j ∨ ops.size ≤ j) → (∀ k ∈ p.rem, k ≠ j → (p.keeps k).contains j = false → ahead md ops k j = false → ¬ L listed k) → F j y w) → Q .normal (fr y) w := by
    intro listed y w hsz hl hC hF
    refine hend y w hC (All.of fun j hj => ?_)
    have h1 := List.all_eq_true.1 hfin j hj
    rw [Bool.and_eq_true] at h1
    have hjf : j ∈ p.facts := List.contains_iff_mem.1 h1.1
    refine hF j hjf ?_ fun k hk hkj hc ha => ?_
    · have h2 := List.all_eq_true.1 hfr j hjf
      rw [Bool.or_eq_true] at h2
      rcases h2 with h2 | h2
      · obtain ⟨o, ho, _⟩ := hst j (List.contains_iff_mem.1 h2)
        have hlt := (Array.getElem?_eq_some_iff.1 ho).1
        exact .inl ((getD_of (by omega) _ _).trans (hl j hlt))
      · exact .inr (of_decide_eq_true h2)
    · have h3 := List.all_eq_true.1 h1.2 k hk
      simp only [Bool.or_eq_true, beq_iff_eq, hc, ha] at h3
      rcases h3 with (h3 | h3) | h3
      · exact absurd h3 hkj
      · cases h3
      · cases h3
  have hready : ∀ (listed : Array Bool), listed.size = ops.size → Region.ready md ops listed = [] → ∀ i, i < ops.size → listed.getD i true = true := by
    intro listed hsz hr i
    induction i using Nat.strongRecOn with
    | ind i ih =>
      intro hi
      cases hh : listed.getD i true with
      | true => rfl
      | false =>
        exfalso
        have : i ∈ Region.ready md ops listed := by
          refine mem_ready.2 ⟨hh, ops[i], Array.getElem?_eq_getElem hi, (direct_spec (Array.getElem?_eq_getElem hi)).2 fun k hk => ?_⟩
          have h1 := List.all_eq_true.1 hall i (List.mem_range.2 hi)
          rw [Bool.and_eq_true, Bool.and_eq_true] at h1
          have h2 := List.all_eq_true.1 h1.1.2 k hk
          have h2 : k < i := of_decide_eq_true h2
          exact (getD_of (by omega) _ _).trans (ih k h2 (by omega))
        rw [hr] at this
        cases this
  intro fuel
  induction fuel with
  | zero =>
    intro listed y w hsz _ _ hC hF hcnt
    have hl := cnt_zero (listed := listed) ops.size (by omega)
    refine ⟨?_, hdone listed y w hsz hl hC hF⟩
    apply List.eq_nil_iff_forall_not_mem.2
    intro i hi
    obtain ⟨h1, o, ho, _⟩ := mem_ready.1 hi
    rw [hl i (Array.getElem?_eq_some_iff.1 ho).1] at h1
    cases h1
  | succ fuel ih =>
    intro listed y w hsz hl0 hdown hC hF hcnt
    refine ⟨fun hr => hdone listed y w hsz (hready listed hsz hr) hC hF, fun i hi => ?_⟩
    obtain ⟨hu, o, ho, hedge⟩ := mem_ready.1 hi
    have hilt := (Array.getElem?_eq_some_iff.1 ho).1
    have hnl : ¬ L listed i := fun h => by
      have : listed.getD i true = true := (getD_of (by omega) _ _).trans h
      rw [this] at hu; cases hu
    have hdir := (direct_spec ho).1 hedge
    have hrem : i ∈ p.rem := by
      have h1 := List.all_eq_true.1 hall i (List.mem_range.2 hilt)
      rw [Bool.and_eq_true, Bool.and_eq_true] at h1
      have h2 := h1.1.1
      rw [beq_iff_eq] at h2
      have h3 : l0.getD i false = false := by
        cases h : l0.getD i false with
        | false => rfl
        | true => exact absurd (hl0 i h) hnl
      rw [h3] at h2
      exact List.contains_iff_mem.1 (by simpa using h2)
    obtain ⟨o', ho', hg, hstep⟩ := hst i hrem
    rw [ho] at ho'
    injection ho' with ho'
    subst ho'
    have hahead : ∀ k, ahead md ops k i = true → L listed k := by
      intro k hk
      unfold ahead at hk
      -- every way to i goes through one of its direct ones, all of which are listed
      have : ∀ f, reach md ops f k i = true → L listed k := by
        intro f hf
        cases f with
        | zero => cases hf
        | succ f =>
          unfold reach at hf
          obtain ⟨m, hm, h2⟩ := List.any_eq_true.1 hf
          rw [Bool.or_eq_true] at h2
          rcases h2 with h2 | h2
          · rw [beq_iff_eq] at h2; subst h2; exact hdir m hm
          · rw [Bool.and_eq_true] at h2; exact reach_listed hdown f k m h2.2 (hdir m hm)
      exact this _ hk
    have hw : Region.wanted o (yielded ops (fr y).tmps) = true := by simp [Region.wanted, hg]
    unfold wpOp
    rw [ho]
    simp only
    rw [if_pos hw]
    refine .inl (hstep y w hC (All.of fun j hj => ?_) _ ?_)
    · have h1 := List.all_eq_true.1 (List.all_eq_true.1 hneed i hrem) j hj
      rw [Bool.and_eq_true, Bool.and_eq_true] at h1
      obtain ⟨⟨h1, h2⟩, h3⟩ := h1
      rw [Bool.or_eq_true] at h2
      refine hF j (List.contains_iff_mem.1 h1) (h2.imp (hahead j) of_decide_eq_true) fun k hk hkj hc ha => ?_
      have h4 := List.all_eq_true.1 h3 k hk
      simp only [Bool.or_eq_true, beq_iff_eq, hc, ha] at h4
      rcases h4 with (((h4 | h4) | h4) | h4) | h4
      · subst h4; exact hnl
      · exact absurd h4 hkj
      · cases h4
      · exact fun hk => hnl (reach_listed hdown _ i k h4 hk)
      · cases h4
    · show ∀ v w', _
      intro v w' hC' hFi hK
      refine ⟨hCS w' hC', ih (listed.setIfInBounds i true) (upd y i v) w' (by simpa using hsz) (fun j hj => (set_L (by omega)).2 (.inr (hl0 j hj))) (fun j hj k hk => ?_) hC' (fun j hj hjl hno => ?_) ?_⟩
      · refine (set_L (by omega)).2 (.inr ?_)
        rcases (set_L (by omega)).1 hj with rfl | hj
        · exact hdir k hk
        · exact hdown j hj k hk
      · have hjl3 : j = i ∨ (L listed j ∨ ops.size ≤ j) := by
          rcases hjl with h | h
          · rcases (set_L (by omega)).1 h with h | h
            · exact .inl h
            · exact .inr (.inl h)
          · exact .inr (.inr h)
        rcases hjl3 with rfl | hjl2
        · exact hFi
        · have hji : j ≠ i := fun e => by
            subst e
            rcases hjl2 with h | h
            · exact hnl h
            · omega
          have hold := hF j hj hjl2 fun k hk hkj hc ha h => hno k hk hkj hc ha ((set_L (by omega)).2 (.inr h))
          cases hc : (p.keeps i).contains j with
          | true => exact hK.at_ j (List.contains_iff_mem.1 hc) hold
          | false =>
            exfalso
            cases ha : ahead md ops i j with
            | true =>
              rcases hjl2 with h | h
              · exact hnl (reach_listed hdown _ i j ha h)
              · have hd : direct md ops j = [] := by unfold direct; rw [Array.getElem?_eq_none h]
                unfold ahead at ha
                cases hs : ops.size with
                | zero => omega
                | succ m => rw [hs] at ha; unfold reach at ha; rw [hd] at ha; cases ha
            | false => exact hno i hrem (Ne.symm hji) hc ha ((set_L (by omega)).2 (.inl rfl))
      · have := cnt_set hu ops.size hilt
        omega
/-- the rule, from a state of the held walk on -/
theorem start {fr : (Nat → Value) → Act} {C : World → Prop} {F : Nat → (Nat → Value) → World → Prop} (p : Plan) {l0 : Array Bool} {fuel : Nat} {a : Act} {w : World} (y : Nat → Value) (ha : a = fr y)
    (hok : (ok md ops l0 p && decide (cnt l0 ops.size ≤ fuel)) = true) (hCS : ∀ w, C w → S w) (hC : C w)
    (hinit : All (p.facts.filter (fun j => decide (ops.size ≤ j))) (fun j => F j y w))
    (hst : Steps P ops Q fr C F p p.rem) (hend : ∀ y w, C w → All p.final (fun j => F j y w) → Q .normal (fr y) w) : wpAnyH P md ops Q S fuel l0 a w := by
  subst ha
  rw [Bool.and_eq_true] at hok
  obtain ⟨hok, hf⟩ := hok
  have hok2 := hok
  simp only [ok, Bool.and_eq_true, beq_iff_eq] at hok2
  obtain ⟨⟨⟨⟨hsz0, hall⟩, hfr⟩, hneed⟩, hfin⟩ := hok2
  refine run p hok hCS hst hend fuel l0 y w hsz0 (fun _ h => h) (fun j hj k hk => ?_) hC (fun j hj hjl _ => ?_) (of_decide_eq_true hf)
  · have hlt : j < ops.size := by
      rcases Nat.lt_or_ge j l0.size with h | h
      · omega
      · unfold L at hj; simp [Array.getElem?_eq_none h] at hj
    have h1 := List.all_eq_true.1 hall j (List.mem_range.2 hlt)
    rw [Bool.and_eq_true] at h1
    have h2 := h1.2
    rw [hj, Bool.not_true, Bool.false_or] at h2
    exact List.all_eq_true.1 h2 k hk
  · rcases hjl with hjl | hjl
    rotate_left
    · exact hinit.at_ j (List.mem_filter.2 ⟨hj, decide_eq_true hjl⟩)
    exfalso
    have h2 := List.all_eq_true.1 hfr j hj
    have hlt : j < ops.size := by
      rcases Nat.lt_or_ge j l0.size with h | h
      · omega
      · unfold L at hjl; simp [Array.getElem?_eq_none h] at hjl
    rw [decide_eq_false (by omega), Bool.or_false] at h2
    have h2 : j ∈ p.rem := List.contains_iff_mem.1 h2
    have hlt : j < ops.size := by
      rcases Nat.lt_or_ge j l0.size with h | h
      · omega
      · unfold L at hjl; simp [Array.getElem?_eq_none h] at hjl
    have h1 := List.all_eq_true.1 hall j (List.mem_range.2 hlt)
    rw [Bool.and_eq_true, Bool.and_eq_true] at h1
    have h3 := h1.1.1
    rw [hjl, List.contains_iff_mem.2 h2] at h3
    cases h3
end
end Og
end Go.Proofs.Ytbcbknajhdaneaa
