/- What is proved: the contract of table's Get. -/
import Derived.Test.YtbcbknajhdaneaaTb2
namespace Go.Proofs.Ytbcbknajhdaneaa
open Go.RowKit
set_option linter.unusedVariables false
set_option linter.unusedSimpArgs false
def colAt (t : Tab) (k : Nat) : Col := match t.F[k]? with | some x => x | none => default
def tgE (t : Tab) (row id : Int) : Int := if plE t row id = 0 then getE (colAt t (ibAt t.ty id)) row else plE t row id
def tgL (t : Tab) (row id : Int) : List Int := if plE t row id = 0 then getL (colAt t (ibAt t.ty id)) row else []
/-- a value, and how it went -/
def ValR (l : List Int) (er : Int) (w : World) (e : Ending) (w' : World) : Prop :=
  ∃ v, e = .returned (.tuple #[v, .int .i64 er]) ∧ w'.ownsRow w.heap.size 26 1 v l.length (ids l) ∧ Below w.heap.size w w'
theorem ibIn_lt {l : List Int} {v : Int} (h : ibIn l v = true) : ibAt l v < l.length := by
  unfold ibIn at h
  rw [Bool.and_eq_true] at h
  exact of_decide_eq_true h.1
theorem tabB_parts {t : Tab} (h : tabB t = true) : tyR t.ty = true ∧ t.F.length = t.ty.length ∧ t.es.length ≤ 1048578 ∧ (∀ x ∈ t.F, colB x.W x.R x.n = true ∧ x.R = (t.es.length : Int)) ∧ entOk t.es t.es.length = true := by
  rw [tabB_eq] at h
  simp only [Bool.and_eq_true, decide_eq_true_eq, List.all_eq_true] at h
  obtain ⟨h1, h2, h3, h4, h5⟩ := h
  refine ⟨h1, h2, h3, fun x hx => ?_, h5⟩
  have h6 := h4 x hx
  unfold colT at h6
  rw [Bool.and_eq_true, beq_iff_eq] at h6
  exact h6
theorem atE_zero {t : Tab} {row : Int} (h : atE t row = 0) : tabB t = true ∧ 0 ≤ row ∧ row < (t.es.length : Int) := by
  unfold atE at h
  split at h
  · rename_i hb
    split at h
    · rename_i hr; exact ⟨hb, hr⟩
    · cases h
  · cases h
theorem plE_zero {t : Tab} {row id : Int} (h : plE t row id = 0) : atE t row = 0 ∧ ibIn t.ty id = true := by
  unfold plE at h
  split at h
  · rename_i h1
    split at h
    · rename_i h2; exact ⟨h1, h2⟩
    · cases h
  · rename_i h1; exact absurd h h1
theorem plE_ways (t : Tab) (row id : Int) : plE t row id = 0 ∨ plE t row id = 2 ∨ plE t row id = 190 ∨ plE t row id = 4 := by
  unfold plE
  rcases atE_ways t row with h | h | h
  · rw [h, if_pos rfl]
    split
    · exact .inl rfl
    · exact .inr (.inr (.inr rfl))
  · rw [h]; exact .inr (.inl rfl)
  · rw [h]; exact .inr (.inr (.inl rfl))
set_option maxRecDepth 100000 in
set_option maxHeartbeats 2000000 in
theorem tget_any (t : Tab) (row id : Int) (w : World) (h : TabOk w w.heap.size t) (hs : TabSm t) : Calls Try.prog 31 #[t.V, .int .i64 row, .int .u64 id] w (ValR (tgL t row id) (tgE t row id) w) := by
  have hB := (Below.refl w.heap.size w).alloc (Nat.le_refl _) (.cells #[.slice t.TA t.Tn t.Tc, .slice t.CA t.Cn t.Cc, .slice t.EA t.En t.Ec] 25)
  have hk := Blk.new w 25 #[.slice t.TA t.Tn t.Tc, .slice t.CA t.Cn t.Cc, .slice t.EA t.En t.Ec]
  have hT := (h.keep hB).more hB.size
  have ca := tplace_any t row id _ hT hs
  obtain ⟨⟨c0, c1, c2⟩, _⟩ := blk_cells3 hk
  have HK := Lib.hid hk
  have hways := plE_ways t row id
  unfold tgL tgE
  by_cases h0 : plE t row id = 0
  · obtain ⟨ha, hi⟩ := plE_zero h0
    obtain ⟨hb, hr0, hr1⟩ := atE_zero ha
    obtain ⟨_, hFl, _, _, _⟩ := tabB_parts hb
    have hlt := ibIn_lt hi
    rw [← hFl] at hlt
    have e1 := List.getElem?_eq_getElem (l := t.F) (i := ibAt t.ty id) hlt
    generalize t.F[ibAt t.ty id]'hlt = x at e1
    have hcx : colAt t (ibAt t.ty id) = x := by unfold colAt; rw [e1]
    have hpk : plK t row id = (ibAt t.ty id : Int) := by unfold plK; rw [if_pos h0]
    rw [if_pos h0, if_pos h0, hcx]
    rw [h0, hpk] at ca
    have hCn := h.len.2.1
    obtain ⟨b, off, hCA, hbl, g⟩ := cols_cells hT.cs e1
    have hxo := hT.csok x (List.mem_of_getElem? e1)
    have cg := fun (w2 : World) (hb : Below (w.alloc (.cells #[.slice t.TA t.Tn t.Tc, .slice t.CA t.Cn t.Cc, .slice t.EA t.En t.Ec] 25)).heap.size (w.alloc (.cells #[.slice t.TA t.Tn t.Tc, .slice t.CA t.Cn t.Cc, .slice t.EA t.En t.Ec] 25)) w2) => cget_any x row w2 ((hxo.keep hb).more hb.size)
    have gg := fun (w2 : World) (hb : Below (w.alloc (.cells #[.slice t.TA t.Tn t.Tc, .slice t.CA t.Cn t.Cc, .slice t.EA t.En t.Ec] 25)).heap.size (w.alloc (.cells #[.slice t.TA t.Tn t.Tc, .slice t.CA t.Cn t.Cc, .slice t.EA t.En t.Ec] 25)) w2) => g.below hb hbl
    unfold Tab.V at ca ⊢
    unfold Col.V colV GetP at cg
    have hen := fun (w2 : World) (h : Below (w.alloc (.cells #[.slice t.TA t.Tn t.Tc, .slice t.CA t.Cn t.Cc, .slice t.EA t.En t.Ec] 25)).heap.size (w.alloc (.cells #[.slice t.TA t.Tn t.Tc, .slice t.CA t.Cn t.Cc, .slice t.EA t.En t.Ec] 25)) w2) => (show w2.cell? ⟨w.heap.size, 1, none⟩ = some (.slice t.CA t.Cn t.Cc) from (blk_below HK.out h).cell 1)
    have i1 : ((ibAt t.ty id : Nat) : Int) < ((t.Cn : Nat) : Int) := by omega
    unfold Cells3 at gg
    generalize getL x row = gl at *
    generalize getE x row = ge at *
    generalize ibAt t.ty id = ia at *
    obtain ⟨TA, Tn, Tc, ty, CA, Cn, Cc, F, EA, En, Ec, es⟩ := t
    obtain ⟨xW, xR, xA, xn, xc, xl⟩ := x
    simp only at *
    subst hCA
    clear h hs hk hT h0 ha hi hb hr0 hr1 hFl hlt e1 hcx hpk hCn g hxo hways
    go_enter Try.func31, Try.ntmps31
    go_wp2_with (first
      | (go_at_call 84; ((with_reducible refine ca.mono ?_); rintro en w2 ⟨rfl, hb2⟩; have z1 := hen _ hb2; obtain ⟨g0, g1, g2⟩ := gg _ hb2))
      | (go_at_call 82; ((with_reducible refine (cg _ hb2).mono ?_); rintro en w3 ⟨v, rfl, ho3, hb3⟩))
      | fail)
    go_ret2
    exact ⟨v, rfl, base_le ho3 (Nat.le_trans hB.size hb2.size), (hB.trans (hb2.mono hB.size)).trans (hb3.mono (Nat.le_trans hB.size hb2.size))⟩
  · rw [if_neg h0, if_neg h0]
    have hpk : plK t row id = 0 := by unfold plK; rw [if_neg h0]
    rw [hpk] at ca
    unfold Tab.V at ca ⊢
    generalize plE t row id = pe at *
    obtain ⟨TA, Tn, Tc, ty, CA, Cn, Cc, F, EA, En, Ec, es⟩ := t
    simp only at *
    clear h hs hk hT hpk
    rcases hways with rfl | rfl | rfl | rfl
    · exact absurd rfl h0
    all_goals
      go_enter Try.func31, Try.ntmps31
      go_wp2_with (first
        | (go_at_call 84; ((with_reducible refine ca.mono ?_); rintro en w2 ⟨rfl, hb2⟩))
        | fail)
      go_ret2
      exact ⟨_, rfl, World.ownsRow_nil _ _ _ _, hB.trans (hb2.mono hB.size)⟩
end Go.Proofs.Ytbcbknajhdaneaa
