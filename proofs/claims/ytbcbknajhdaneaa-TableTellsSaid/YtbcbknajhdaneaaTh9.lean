/- What is proved: plain laws: what tables answer hangs on what they hold alone. -/
import Derived.Test.YtbcbknajhdaneaaTh8
namespace Go.Proofs.Ytbcbknajhdaneaa
open Go.RowKit
set_option linter.unusedVariables false
set_option linter.unusedSimpArgs false
section
variable {a b : Tab} (hp : a.p = b.p)
include hp
theorem p_ty : a.ty = b.ty := congrArg (fun p : PT => p.1) hp
theorem p_es : a.es = b.es := congrArg (fun p : PT => p.2.2) hp
theorem p_F : a.F.map Col.p = b.F.map Col.p := congrArg (fun p : PT => p.2.1) hp
theorem p_len : a.F.length = b.F.length := by have := congrArg List.length (p_F hp); simpa using this
theorem p_at {k : Nat} {x : Col} (hx : a.F[k]? = some x) : ∃ y, b.F[k]? = some y ∧ x.W = y.W ∧ x.R = y.R ∧ x.l = y.l := by
  have h1 := congrArg (fun l => l[k]?) (p_F hp)
  simp only [List.getElem?_map, hx, Option.map_some] at h1
  cases hy : b.F[k]? with
  | none => rw [hy] at h1; cases h1
  | some y =>
    rw [hy] at h1
    simp only [Option.map_some, Option.some.injEq] at h1
    unfold Col.p at h1
    injection h1 with h2 h3
    injection h3 with h3 h4
    exact ⟨y, rfl, h2, h3, h4⟩
theorem p_row (j : Nat) : rowL a.F j = rowL b.F j := by
  have e : ∀ F : List Col, rowL F j = (F.map Col.p).map fun p => chunk p.2.2 p.1.toNat j := fun F => by unfold rowL; rw [List.map_map]; rfl
  rw [e, e, p_F hp]
theorem p_all (m : Nat) : allR a.F m = allR b.F m := by
  unfold allR
  exact List.map_congr_left fun j _ => p_row hp j
theorem p_W : a.F.map Col.W = b.F.map Col.W := by
  have e : ∀ F : List Col, F.map Col.W = (F.map Col.p).map fun p => p.1 := fun F => by rw [List.map_map]; rfl
  rw [e, e, p_F hp]
theorem rpuP_p (ha : a.es.length = a.En) (hb : b.es.length = b.En) (e : Int) (ls : List (List Int)) : rpuP a e ls = rpuP b e ls := by
  unfold rpuP
  rw [← ha, ← hb, p_ty hp, p_es hp, p_all hp, p_W hp]
theorem rswapP_p (r m : Nat) : rswapP a r m = rswapP b r m := by
  unfold rswapP rswapR
  rw [p_ty hp, p_es hp, p_all hp, p_W hp, p_row hp]
theorem rsetP_p (ha : a.es.length = a.En) (hb : b.es.length = b.En) (r k : Nat) (ls : List Int) : rsetP a r k ls = rsetP b r k ls := by
  unfold rsetP rsetR
  rw [← ha, ← hb, p_ty hp, p_es hp, p_all hp, p_W hp, p_row hp]
theorem tabB_p1 (na : NL a) (nb : NL b) (h : tabB a = true) : tabB b = true := by
  obtain ⟨p1, p2, p3, p4, p5⟩ := tabB_parts h
  rw [tabB_eq]
  simp only [Bool.and_eq_true, decide_eq_true_eq, List.all_eq_true]
  refine ⟨by rw [← p_ty hp]; exact p1, by rw [← p_ty hp, ← p_len hp]; exact p2, by rw [← p_es hp]; exact p3, fun y hy => ?_, by rw [← p_es hp]; exact p5⟩
  obtain ⟨k, hk⟩ := List.getElem?_of_mem hy
  obtain ⟨x, hx, e1, e2, e3⟩ := p_at hp.symm hk
  obtain ⟨q1, q2⟩ := p4 x (List.mem_of_getElem? hx)
  have q3 := na x (List.mem_of_getElem? hx)
  have q4 := nb y hy
  unfold colT
  rw [e1, e2, ← q4, e3, q3, ← p_es hp, q2]
  rw [q2] at q1
  rw [q1]
  simp
end
theorem tabB_p {a b : Tab} (hp : a.p = b.p) (na : NL a) (nb : NL b) : tabB a = tabB b := by
  cases h : tabB a with
  | true => exact (tabB_p1 hp na nb h).symm
  | false =>
    cases h2 : tabB b with
    | false => rfl
    | true => rw [tabB_p1 hp.symm nb na h2] at h; cases h
theorem fitB_p1 {a b : Tab} {G G' : List Rw} (hp : a.p = b.p) (hG : G.map Rw.l = G'.map Rw.l) (h1 : ∀ v ∈ G, v.l.length = v.n) (h2 : ∀ v ∈ G', v.l.length = v.n) (h : fitB a G = true) : fitB b G' = true := by
  unfold fitB at h ⊢
  rw [Bool.and_eq_true, beq_iff_eq] at h ⊢
  have hl : G.length = G'.length := by have := congrArg List.length hG; simpa using this
  refine ⟨by rw [← hl, ← p_len hp]; exact h.1, widE_all fun k y hy => ?_⟩
  rw [Nat.zero_add]
  obtain ⟨x, hx, e1, _, _⟩ := p_at hp.symm hy
  have h3 := widE_at h.2 k x hx
  rw [Nat.zero_add] at h3
  have hk := (List.getElem?_eq_some_iff.1 hx).1
  have g1 := rws_at (G := G) (k := k) (by omega)
  have g2 := rws_at (G := G') (k := k) (by omega)
  have h4 := congrArg (fun l => l[k]?) hG
  simp only [List.getElem?_map, g1, g2, Option.map_some, Option.some.injEq] at h4
  have q1 := h1 _ (List.mem_of_getElem? g1)
  have q2 := h2 _ (List.mem_of_getElem? g2)
  rw [e1, ← h3]
  rw [h4] at q1
  omega
theorem fitB_p {a b : Tab} {G G' : List Rw} (hp : a.p = b.p) (hG : G.map Rw.l = G'.map Rw.l) (h1 : ∀ v ∈ G, v.l.length = v.n) (h2 : ∀ v ∈ G', v.l.length = v.n) : fitB a G = fitB b G' := by
  cases h : fitB a G with
  | true => exact (fitB_p1 hp hG h1 h2 h).symm
  | false =>
    cases h3 : fitB b G' with
    | false => rfl
    | true => rw [fitB_p1 hp.symm hG.symm h2 h1 h3] at h; cases h
end Go.Proofs.Ytbcbknajhdaneaa
