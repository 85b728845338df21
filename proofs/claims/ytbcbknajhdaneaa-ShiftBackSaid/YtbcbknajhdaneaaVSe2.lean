/- What is proved: the values that go along, column by column. -/
import Derived.Test.YtbcbknajhdaneaaVSe1
import Derived.Test.YtbcbknajhdaneaaVSc3
import Derived.Lib.AppendZerosOnto
namespace Go.Proofs.Ytbcbknajhdaneaa
open Go.RowKit Go.Maps
set_option linter.unusedVariables false
set_option linter.unusedSimpArgs false
/-- what goes along in one column -/
def cellV (f : Tab) (row : Int) (id W : Int) : List Int := if f.ty.contains id then getLi f (ixN f.ty id) row else zerosL W.toNat
def rV (f to : Tab) (row : Int) : List (List Int) := (to.ty.zip to.F).map fun p => cellV f row p.1 p.2.W
theorem rV_len {f to : Tab} {row : Int} (h : to.F.length = to.ty.length) : (rV f to row).length = to.F.length := by unfold rV; rw [List.length_map, List.length_zip, h, Nat.min_self]
theorem foldl_pairs {f : Tab} {row : Int} {A B : Nat} (hA : f.ty.length = A) (hi : Inj f.ty) : ∀ (m : List Int) (b : Nat) (P Z : List (List Int)) (Y : List Col), P.length = b → b + m.length ≤ B → Y.length = m.length → Z = Y.map (fun y => zerosL y.W.toNat) →
    (bothFrom A B f.ty b m).foldl (stepV f row) (P ++ Z) = P ++ (m.zip Y).map (fun p => cellV f row p.1 p.2.W)
  | [], b, P, Z, Y, hP, hb, hY, hZ => by
    have : Y = [] := List.eq_nil_of_length_eq_zero hY
    subst this
    rw [hZ]; rfl
  | a :: m, b, P, Z, [], hP, hb, hY, hZ => by simp at hY
  | a :: m, b, P, Z, y :: Y, hP, hb, hY, hZ => by
    rw [List.length_cons] at hb hY
    rw [List.length_cons] at hY
    have hrec := fun (v : List Int) => foldl_pairs (row := row) (B := B) hA hi m (b + 1) (P ++ [v]) (Y.map (fun y => zerosL y.W.toNat)) Y (by rw [List.length_append, List.length_singleton, hP]) (by omega) (by omega) rfl
    have hz : Z = zerosL y.W.toNat :: Y.map (fun y => zerosL y.W.toNat) := hZ
    rw [hz]
    unfold bothFrom
    by_cases hc : f.ty.contains a = true
    · rw [if_pos hc]
      have hik : ixN f.ty a < A ∧ b < B := ⟨by rw [← hA]; exact (List.getElem?_eq_some_iff.1 (ixN_at hi hc)).1, by omega⟩
      rw [pairAt_of hik, List.foldl_append]
      have hst : [(⟨(ixN f.ty a, b), hik⟩ : PIn A B)].foldl (stepV f row) (P ++ zerosL y.W.toNat :: Y.map (fun y => zerosL y.W.toNat)) = (P ++ [getLi f (ixN f.ty a) row]) ++ Y.map (fun y => zerosL y.W.toNat) := by
        show (P ++ zerosL y.W.toNat :: Y.map (fun y => zerosL y.W.toNat)).set b (getLi f (ixN f.ty a) row) = _
        rw [List.set_append_right _ _ (by omega), hP, Nat.sub_self, List.set_cons_zero, List.append_assoc]; rfl
      rw [hst, hrec]
      have hv : cellV f row a y.W = getLi f (ixN f.ty a) row := by unfold cellV; rw [if_pos hc]
      show _ = P ++ (cellV f row a y.W :: (m.zip Y).map _)
      rw [hv, List.append_assoc]; rfl
    · rw [if_neg hc]
      have hst : P ++ zerosL y.W.toNat :: Y.map (fun y => zerosL y.W.toNat) = (P ++ [zerosL y.W.toNat]) ++ Y.map (fun y => zerosL y.W.toNat) := by rw [List.append_assoc]; rfl
      rw [hst, hrec]
      have hv : cellV f row a y.W = zerosL y.W.toNat := by unfold cellV; rw [if_neg hc]
      show _ = P ++ (cellV f row a y.W :: (m.zip Y).map _)
      rw [hv, List.append_assoc]; rfl
theorem mvV_eq {f to : Tab} (row : Int) (hi : Inj f.ty) (hl : to.F.length = to.ty.length) : mvV f to row = rV f to row := by
  have h := foldl_pairs (f := f) (row := row) (A := f.ty.length) (B := to.ty.length) rfl hi to.ty 0 [] (zsV to) to.F rfl (by omega) hl rfl
  rw [List.nil_append, List.nil_append] at h
  exact h
theorem getLi_chunk {f : Tab} {i q : Nat} {x : Col} (hb : tabB f = true) (hn : NL f) (hx : f.F[i]? = some x) (hq : q < f.es.length) : getLi f i (q : Int) = chunk x.l x.W.toNat q ∧ getE x (q : Int) = 0 ∧ (chunk x.l x.W.toNat q).length = x.W.toNat := by
  obtain ⟨h0, h1, h2, h3, h4⟩ := tab_col hb hn hx
  have hg : getE x (q : Int) = 0 := by unfold getE; rw [h4, if_pos rfl, if_pos ⟨by omega, by omega⟩]
  refine ⟨?_, hg, ?_⟩
  · unfold getLi
    rw [hx]
    show getL x (q : Int) = _
    unfold getL
    rw [if_pos hg, Int.toNat_natCast]
  · exact chunk_len hq h3
theorem cellV_len {f to : Tab} {q k : Nat} {id : Int} {y : Col} (hbf : tabB f = true) (hbt : tabB to = true) (hn : NL f) (hnt : NL to) (hq : q < f.es.length) (hwo : WidOk f to f.ty.length) (h1 : to.ty[k]? = some id) (h2 : to.F[k]? = some y) : ((cellV f (q : Int) id y.W).length : Int) = y.W := by
  obtain ⟨y0, y4, _⟩ := tab_col hbt hnt h2
  unfold cellV
  split
  · rename_i hc
    have hi := ixN_at ((tyR_iff f.ty).1 (tabB_parts hbf).1).inj hc
    have hil := (List.getElem?_eq_some_iff.1 hi).1
    have hx := List.getElem?_eq_getElem (l := f.F) (i := ixN f.ty id) (by rw [(tabB_parts hbf).2.1]; exact hil)
    obtain ⟨e1, e2, e3⟩ := getLi_chunk hbf hn hx hq
    rw [e1, e3]
    obtain ⟨x0, _⟩ := tab_col hbf hn hx
    have := hwo (ixN f.ty id) k id _ _ hil hi h1 hx h2
    omega
  · unfold zerosL
    rw [List.length_replicate]
    omega
theorem fit_rV {f to : Tab} {q : Nat} {G : List Rw} (hbf : tabB f = true) (hbt : tabB to = true) (hn : NL f) (hnt : NL to) (hq : q < f.es.length) (hwo : WidOk f to f.ty.length) (hG : G.map Rw.l = rV f to (q : Int)) (hl : ∀ v ∈ G, v.l.length = v.n) : fitB to G = true := by
  have hlF := (tabB_parts hbt).2.1
  have hGl : G.length = to.F.length := by have h9 := congrArg List.length hG; rw [List.length_map, rV_len hlF] at h9; exact h9
  unfold fitB
  rw [Bool.and_eq_true]
  refine ⟨by simpa using hGl, widE_all fun j y hy => ?_⟩
  have hj := (List.getElem?_eq_some_iff.1 hy).1
  have hv := rws_at (G := G) (k := j) (by omega)
  have hid := List.getElem?_eq_getElem (l := to.ty) (i := j) (by omega)
  have h9 := congrArg (fun L => L[j]?) hG
  simp only [List.getElem?_map, hv, Option.map_some] at h9
  unfold rV at h9
  rw [List.getElem?_map, (List.getElem?_zip_eq_some (z := (_, y))).2 ⟨hid, hy⟩] at h9
  injection h9 with h9
  have h10 := cellV_len hbf hbt hn hnt hq hwo hid hy
  rw [Nat.zero_add, ← hl _ (List.mem_of_getElem? hv), h9]
  exact h10
end Go.Proofs.Ytbcbknajhdaneaa
