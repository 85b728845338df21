/- What is proved: a region that draws its order, walked by hand: what is held may turn where one operation (the stopper) has come up; what is read ahead of it is held only till then. -/
import Derived.Test.YtbcbknajhdaneaaVWords
import Derived.Deep.RegionHeld3
import Derived.Below
namespace Go.Proofs.Ytbcbknajhdaneaa
open Go.RowKit
set_option linter.unusedVariables false
section
variable {P : Program} {ops : Array Oper} {Q : Exit → Act → World → Prop} {md : Region.Mode} {s : Nat} {S : Bool → World → Prop}
/-- whatever order is picked; S of 'has s come up?' holds behind each operation -/
def wpAnyS (P : Program) (md : Region.Mode) (ops : Array Oper) (Q : Exit → Act → World → Prop) (s : Nat) (S : Bool → World → Prop) : Nat → Array Bool → Act → World → Prop
  | 0, listed, a, w => Region.ready md ops listed = [] ∧ Q .normal a w
  | fuel + 1, listed, a, w =>
    (Region.ready md ops listed = [] → Q .normal a w) ∧
    ∀ i ∈ Region.ready md ops listed, wpOp P ops Q i (fun a' w' => S ((listed.setIfInBounds i true).getD s false) w' ∧ wpAnyS P md ops Q s S fuel (listed.setIfInBounds i true) a' w') a w
theorem wpAny_of_stop : ∀ (fuel : Nat) (listed : Array Bool) (a : Act) (w : World), wpAnyS P md ops Q s S fuel listed a w → wpAny P md ops Q fuel listed a w
  | 0, _, _, _, h => h
  | fuel + 1, _, _, _, h => ⟨h.1, fun i hi => wpOp_mono (fun a' w' h' => wpAny_of_stop fuel _ a' w' h'.2) (h.2 i hi)⟩
theorem wpAnyS_first {i : Nat} {oi : Oper} {v : Value} (hi : ops[i]? = some oi) (hsel : ∀ (j : Nat) (o : Oper) cs b, ops[j]? = some o → o.op ≠ .select cs b)
    (hQ : ∀ c a w, Q (.panic c) (a.put oi.dst v) w → Q (.panic c) a w) (his : i ≠ s) (R : World → Prop) (I : Array Bool → Prop) (hR : ∀ (l : Array Bool) w, I l → S (l.getD s false) w → R w)
    (hI : ∀ (l : Array Bool) (j : Nat) (oj : Oper), I l → ops[j]? = some oj → j ≠ i → (∀ e ∈ oj.after, Region.binds md e = true → e.on ≠ i) → I (l.setIfInBounds j true)) :
    ∀ (fuel : Nat) (listed : Array Bool) (a : Act) (w : World), I listed →
      (∀ j oj, ops[j]? = some oj → j ≠ i → listed.getD j true = false → (∀ e ∈ oj.after, Region.binds md e = true → e.on ≠ i) → oi.apart ops oj = true) →
      i ∈ Region.ready md ops listed → YieldsIf P ops R oi v a → S (listed.getD s false) w →
      wpAnyS P md ops Q s S fuel (listed.setIfInBounds i true) (a.put oi.dst v) w → wpAnyS P md ops Q s S (fuel + 1) listed a w := by
  intro fuel
  induction fuel with
  | zero =>
    intro listed a w hIl _ hr hy hS H
    refine ⟨fun h => (by rw [h] at hr; cases hr), fun j hj => ?_⟩
    by_cases hji : j = i
    · subst hji; exact hy.wpOp hi (hR _ _ hIl hS) ⟨by rw [getD_set_ne false his]; exact hS, H⟩
    · have := ready_mono hj hji
      rw [H.1] at this
      cases this
  | succ fuel ih =>
    intro listed a w hIl hfree hr hy hS H
    refine ⟨fun h => (by rw [h] at hr; cases hr), fun j hj => ?_⟩
    by_cases hji : j = i
    · subst hji; exact hy.wpOp hi (hR _ _ hIl hS) ⟨by rw [getD_set_ne false his]; exact hS, H⟩
    · have h1 := H.2 j (ready_mono hj hji)
      obtain ⟨hjun, oj, hoj, hall⟩ := mem_ready.1 hj
      have hnot : ∀ e ∈ oj.after, Region.binds md e = true → e.on ≠ i := fun e he hb heq => by
        have h1 := hall e he hb
        have h0 := (mem_ready.1 hr).1
        rw [heq] at h1
        rcases Nat.lt_or_ge i listed.size with h' | h'
        · simp [h'] at h0 h1; rw [h0] at h1; cases h1
        · simp [Array.getElem?_eq_none h'] at h1
      have h2 := wpOp_putIf hoj (hfree j oj hoj hji hjun hnot) (fun cs b => hsel i oi cs b hi) (fun cs b => hsel j oj cs b hoj) hQ hy h1
      have hfree' : ∀ k ok, ops[k]? = some ok → k ≠ i → (listed.setIfInBounds j true).getD k true = false →
          (∀ e ∈ ok.after, Region.binds md e = true → e.on ≠ i) → oi.apart ops ok = true := fun k ok hk hki hun hno => by
        refine hfree k ok hk hki ?_ hno
        by_cases hjk : j = k
        · subst hjk; exact hjun
        · rw [getD_set_ne true hjk] at hun; exact hun
      refine wpOp_mono (fun a' w' h3 => ?_) h2
      have hS' : S ((listed.setIfInBounds j true).getD s false) w' := by
        have := h3.2.1
        rw [Array.setIfInBounds_comm _ _ (Ne.symm hji), getD_set_ne false his] at this
        exact this
      refine ⟨hS', ih (listed.setIfInBounds j true) a' w' (hI _ _ _ hIl hoj hji hnot) hfree' (ready_mono hr (Ne.symm hji)) h3.1 hS' ?_⟩
      rw [Array.setIfInBounds_comm _ _ hji]
      exact h3.2.2
/-- does s wait for i? -/
def waitsOn (md : Region.Mode) (ops : Array Oper) (s i : Nat) : Bool := match ops[s]? with | some o => o.after.any (fun e => Region.binds md e && e.on == i) | none => false
/-- taken first: what the stopper waits for is read in worlds where it has not come up -/
theorem wpAnyS_take {i : Nat} {oi : Oper} {v : Value} {fuel : Nat} {listed : Array Bool} {a : Act} {w : World} (hi : ops[i]? = some oi)
    (hs : Region.noSelect ops = true) (hf : Region.free md ops listed i = true) (hr : (Region.ready md ops listed).contains i = true) (hw : waitsOn md ops s i = true) (h0 : (Nat.beq i s || listed.getD s false) = false)
    (hQ : ∀ c a w, Q (.panic c) (a.put oi.dst v) w → Q (.panic c) a w) (hy : YieldsIf P ops (S false) oi v a) (hS : S false w)
    (h : wpAnyS P md ops Q s S fuel (listed.setIfInBounds i true) (a.put oi.dst v) w) : wpAnyS P md ops Q s S (fuel + 1) listed a w := by
  rw [Bool.or_eq_false_iff] at h0
  have his : i ≠ s := fun e => by subst e; simp at h0
  refine wpAnyS_first hi (Region.noSelect_spec hs) hQ his (S false) (fun l => l.getD s false = false) (fun l w hl hSl => by rw [hl] at hSl; exact hSl) (fun l j oj hl hoj hji hnot => ?_) fuel listed a w h0.2 (Region.free_spec hi hf) (by simpa using hr) hy (by rw [h0.2]; exact hS) h
  have hjs : j ≠ s := fun e => by
    subst e
    unfold waitsOn at hw
    rw [hoj] at hw
    obtain ⟨k, hk, hb⟩ := Array.any_eq_true.1 hw
    rw [Bool.and_eq_true, beq_iff_eq] at hb
    exact hnot _ (Array.getElem_mem hk) hb.1 hb.2
  rw [getD_set_ne false hjs]
  exact hl
/-- taken first, whether the stopper has come up or not -/
theorem wpAnyS_take' {i : Nat} {oi : Oper} {v : Value} {fuel : Nat} {listed : Array Bool} {a : Act} {w : World} (hi : ops[i]? = some oi)
    (hs : Region.noSelect ops = true) (hf : Region.free md ops listed i = true) (hr : (Region.ready md ops listed).contains i = true) (h0 : Nat.beq i s = false) (b : Bool) (hb : listed.getD s false = b)
    (hQ : ∀ c a w, Q (.panic c) (a.put oi.dst v) w → Q (.panic c) a w) (hy : YieldsIf P ops (fun w => ∃ b, S b w) oi v a) (hS : S b w)
    (h : wpAnyS P md ops Q s S fuel (listed.setIfInBounds i true) (a.put oi.dst v) w) : wpAnyS P md ops Q s S (fuel + 1) listed a w := by
  have his : i ≠ s := fun e => by subst e; simp at h0
  exact wpAnyS_first hi (Region.noSelect_spec hs) hQ his (fun w => ∃ b, S b w) (fun _ => True) (fun l w _ hSl => ⟨_, hSl⟩) (fun _ _ _ _ _ _ _ => trivial) fuel listed a w trivial (Region.free_spec hi hf) (by simpa using hr) hy (by rw [hb]; exact hS) h
def AllReadyS (P : Program) (md : Region.Mode) (ops : Array Oper) (Q : Exit → Act → World → Prop) (s : Nat) (S : Bool → World → Prop) (fuel : Nat) (listed : Array Bool) (a : Act) (w : World) (rs : List Nat) : Prop :=
  ∀ i ∈ rs, wpOp P ops Q i (fun a' w' => S ((listed.setIfInBounds i true).getD s false) w' ∧ wpAnyS P md ops Q s S fuel (listed.setIfInBounds i true) a' w') a w
theorem AllReadyS.nil {fuel : Nat} {listed : Array Bool} {a : Act} {w : World} : AllReadyS P md ops Q s S fuel listed a w [] := fun _ h => by cases h
theorem AllReadyS.cons {fuel : Nat} {listed : Array Bool} {a : Act} {w : World} {i : Nat} {o : Oper} {rs : List Nat} (b : Bool) (hb : (listed.setIfInBounds i true).getD s false = b) (ho : ops[i]? = some o)
    (h : ∀ K' : Act → World → Prop, Shut (∀ a w, S b w → (S b w → wpAnyS P md ops Q s S fuel (listed.setIfInBounds i true) a w) → K' a w) → if Region.wanted o (yielded ops a.tmps) = true then Oper.wp P o a w K' Q else K' (a.put o.dst undef) w)
    (hs : AllReadyS P md ops Q s S fuel listed a w rs) : AllReadyS P md ops Q s S fuel listed a w (i :: rs) := fun j hj => by
  rcases List.mem_cons.1 hj with rfl | hj
  · exact wpOp_step ho (fun K' hK => h K' (fun a w hS hW => hK a w ⟨by rw [hb]; exact hS, hW hS⟩))
  · exact hs j hj
theorem wpAnyS_ready {rs : List Nat} {fuel : Nat} {listed : Array Bool} {a : Act} {w : World} (hr : Region.ready md ops listed = rs) (hne : rs ≠ [])
    (h : AllReadyS P md ops Q s S fuel listed a w rs) : wpAnyS P md ops Q s S (fuel + 1) listed a w := ⟨fun h0 => absurd (hr ▸ h0) hne, hr ▸ h⟩
theorem wpAnyS_done {listed : Array Bool} {a : Act} {w : World} (hr : Region.ready md ops listed = []) (h : Q .normal a w) : ∀ fuel, wpAnyS P md ops Q s S fuel listed a w
  | 0 => ⟨hr, h⟩
  | _ + 1 => ⟨fun _ => h, by rw [hr]; simp⟩
theorem wp_region_stop {id : Nat} {a : Act} {w : World} (s : Nat) (S : Bool → World → Prop) (hm : P.follows .mixedOrders = true) (hS : S false w.drew)
    (h : S false w.drew → wpAnyS P .any ops Q s S ops.size (Array.replicate ops.size false) a w.drew) : (Code.region id ops true).wp P Q a w :=
  wp_region_any hm (wpAny_of_stop _ _ _ _ (h hS))
end
end Go.Proofs.Ytbcbknajhdaneaa
