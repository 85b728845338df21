/- What is proved: tables in memory made since, behind a turn of another block; what comes of Push. -/
import Derived.Test.YtbcbknajhdaneaaTc2
namespace Go.Proofs.Ytbcbknajhdaneaa
open Go.RowKit
set_option linter.unusedVariables false
set_option linter.unusedSimpArgs false
/-- block g is no row of these elements -/
def NoRow (w : World) (g : Nat) : Prop := ∀ cs t z, w.heap[g]? = some (.cells cs t z) → t ≠ 26 ∧ t ≠ 27 ∧ t ≠ 68 ∧ t ≠ 44
theorem noRow_blk {w : World} {g : Nat} {t : TypeId} {cs : Array Value} (h : Blk w g t cs) (hn : t ≠ 26 ∧ t ≠ 27 ∧ t ≠ 68 ∧ t ≠ 44) : NoRow w g := fun cs' t' z hh => by
  unfold Blk at h
  rw [h] at hh
  injection hh with hh
  injection hh with _ ht
  subst ht; exact hn
theorem noRow_def {w : World} {g : Nat} {d : Option (List Deferred)} (h : w.heap[g]? = some (.deferred d)) : NoRow w g := fun cs t z hh => by rw [h] at hh; cases hh
section
variable {w w' : World} {base g : Nat} (hb : ∀ i, i ≠ g → w'.heap[i]? = w.heap[i]?) (hz : w.heap.size ≤ w'.heap.size) (hn : NoRow w g)
include hb hn
theorem ints_other {e : TypeId} {A : Option Addr} {n : Nat} (h : IntS w base e A n) (he : e = 26 ∨ e = 27) : IntS w' base e A n := fun h0 => by
  obtain ⟨g', cur, rfl, h1, h2, h3⟩ := h h0
  refine ⟨g', cur, rfl, h1, (hb g' fun e' => ?_).trans h2, h3⟩
  subst e'
  have := hn _ _ _ h2
  rcases he with rfl | rfl
  · exact this.1 rfl
  · exact this.2.1 rfl
include hz
theorem reads_other {e : TypeId} {A : Option Addr} {n : Nat} {l : List Int} (h : IntS w base e A n) (he : e = 26 ∨ e = 27) (hR : Reads w w.heap.size 1 A n (ids l)) : Reads w' w'.heap.size 1 A n (ids l) := by
  refine ⟨hR.1, fun h0 => ?_⟩
  obtain ⟨ad, e', h1, h2⟩ := hR.2 h0
  obtain ⟨g', cur, hA, h3, h4, h5⟩ := h h0
  obtain ⟨g2, cur2, hA2, _, h6, _⟩ := ints_other hb hn h he h0
  rw [hA] at hA2; injection hA2 with hA2; injection hA2 with hA2
  subst hA2
  rw [e'] at hA; injection hA with hA
  refine ⟨ad, e', Nat.lt_of_lt_of_le h1 hz, fun j u hu => ?_⟩
  rw [← h2 j u hu]
  refine World.cell?_of_block ?_
  rw [block_of_add, hA]
  refine hb g' fun e9 => ?_
  subst e9
  have := hn _ _ _ h4
  rcases he with rfl | rfl
  · exact this.1 rfl
  · exact this.2.1 rfl
theorem colFresh_other {x : Col} (h : ColFresh w base x) : ColFresh w' base x :=
  ⟨⟨reads_other hb hz hn h.2 (.inl rfl) h.1.1, h.1.2⟩, ints_other hb hn h.2 (.inl rfl)⟩
theorem idFresh_other {A : Option Addr} {n c : Nat} {l : List Int} (h : IdFresh w base A n c l) : IdFresh w' base A n c l :=
  ⟨reads_other hb hz hn h.2.2.2.2 (.inr rfl) h.1, h.2.1, h.2.2.1, h.2.2.2.1, ints_other hb hn h.2.2.2.2 (.inr rfl)⟩
omit hz in
theorem own_other2 {e : TypeId} {size n : Nat} {v : Value} {xs : List Value} (h : w.ownsRow base e size v n xs) (he : e = 26 ∨ e = 27 ∨ e = 68 ∨ e = 44) : w'.ownsRow base e size v n xs := by
  rcases h.2 with h2 | ⟨g2, cap2, cur2, rfl, h7, h8, h9⟩
  · exact ⟨h.1, .inl h2⟩
  · refine ⟨h.1, .inr ⟨g2, cap2, cur2, rfl, h7, (hb g2 fun e9 => ?_).trans h8, h9⟩⟩
    subst e9
    have := hn _ _ _ h8
    rcases he with rfl | rfl | rfl | rfl
    · exact this.1 rfl
    · exact this.2.1 rfl
    · exact this.2.2.1 rfl
    · exact this.2.2.2 rfl
theorem TabFresh.other {t : Tab} (h : TabFresh w base t) : TabFresh w' base t :=
  ⟨idFresh_other hb hz hn h.ty, own_other2 hb hn h.cs (.inr (.inr (.inl rfl))), fun x hx => colFresh_other hb hz hn (h.csf x hx), idFresh_other hb hz hn h.es⟩
end
theorem own_new {w w' : World} {b1 n1 n2 s1 s2 : Nat} {e1 e2 : TypeId} {v1 v2 : Value} {x1 x2 : List Value} (h1 : w.ownsRow b1 e1 s1 v1 n1 x1) (h2 : w'.ownsRow w.heap.size e2 s2 v2 n2 x2) : v1.ownBlock = none ∨ v1.ownBlock ≠ v2.ownBlock := by
  rcases h1.2 with ⟨rfl, _⟩ | ⟨g, cap, cur, rfl, _, hg, _⟩
  · exact .inl rfl
  · refine .inr fun hh => ?_
    have hlt := (Array.getElem?_eq_some_iff.1 hg).1
    rcases h2.2 with ⟨rfl, _⟩ | ⟨g2, cap2, cur2, rfl, hb, _⟩
    · simp [Value.ownBlock] at hh
    · simp [Value.ownBlock] at hh
      omega
theorem reads_blk {w : World} {g : Nat} {t : TypeId} {u : Value} (h : Blk w g t #[u]) : Reads w w.heap.size 1 (some ⟨g, 0, none⟩) 1 [u] := by
  refine ⟨rfl, fun _ => ⟨_, rfl, h.lt, fun j x hx => ?_⟩⟩
  rw [add_none, Nat.zero_add, h.cell]
  rw [List.getElem?_cons] at hx
  split at hx
  · rename_i h0; subst h0; simpa using hx
  · simp at hx
def vAt (G : List Rw) (k : Nat) : Rw := match G[k]? with | some x => x | none => default
def widE (G : List Rw) : Nat → List Col → Bool
  | _, [] => true
  | k, x :: F => ((vAt G k).n : Int) == x.W && widE G (k + 1) F
/-- what comes of Push -/
def tpuE (t : Tab) (e : Int) (G : List Rw) : Int :=
  if tabB t then (if kd e = 1 ∧ G.length = t.F.length then (if hasI t.es (pa e) then 5 else if widE G 0 t.F then (if t.es.length = 1048578 then 6 else 0) else 140) else 2) else 190
def tpuP (t : Tab) (e : Int) (G : List Rw) : PT := if tpuE t e G = 0 then (t.ty, eachL (fun k x => pushP x (vAt G k)) 0 t.F, t.es ++ [e]) else noT
theorem widE_at {G : List Rw} : ∀ {F : List Col} {b : Nat}, widE G b F = true → ∀ (k : Nat) (x : Col), F[k]? = some x → ((vAt G (b + k)).n : Int) = x.W
  | [], _, _, _, _, hk => by simp at hk
  | y :: F, b, h, 0, x, hk => by
    simp at hk; subst hk
    unfold widE at h
    rw [Bool.and_eq_true, beq_iff_eq] at h
    exact h.1
  | y :: F, b, h, k + 1, x, hk => by
    unfold widE at h
    rw [Bool.and_eq_true] at h
    rw [show b + (k + 1) = b + 1 + k from by omega]
    exact widE_at h.2 k x (by simpa using hk)
theorem widE_all {G : List Rw} : ∀ {F : List Col} {b : Nat}, (∀ (k : Nat) (x : Col), F[k]? = some x → ((vAt G (b + k)).n : Int) = x.W) → widE G b F = true
  | [], _, _ => rfl
  | y :: F, b, h => by
    unfold widE
    rw [Bool.and_eq_true, beq_iff_eq]
    exact ⟨h 0 y rfl, widE_all fun k x hk => by rw [show b + 1 + k = b + (k + 1) from by omega]; exact h (k + 1) x (by simpa using hk)⟩
theorem push_zero {t : Tab} {G : List Rw} (h1 : tabB t = true) (h2 : widE G 0 t.F = true) (h3 : t.es.length ≠ 1048578) : eachE (fun k x => pushE x (vAt G k)) 0 t.F = 0 := by
  obtain ⟨_, _, hle, hc, _⟩ := tabB_parts h1
  refine eachE_all _ _ _ fun j y hy => ?_
  obtain ⟨hc1, hc2⟩ := hc y (List.mem_of_getElem? hy)
  have hw := widE_at h2 j y hy
  unfold pushE
  rw [hc1, if_pos rfl, if_neg (by rw [hw]; simp), if_neg (by rw [hc2]; omega)]
theorem rows_has (l : List Int) (hw : ∀ x ∈ l, Word x) (hl : l.length ≤ 281474976710656) (i : Int) : (∃ x ∈ rowsL l, x.1.2 = i) ↔ hasI l i = true := by
  have h := rowsFrom_snd l 0 hw (by omega)
  unfold hasI rowsL
  rw [List.any_eq_true]
  constructor
  · rintro ⟨x, hx, rfl⟩
    have : x.1.2 ∈ (rowsFrom 0 l).map (fun x => x.1.2) := List.mem_map_of_mem hx
    rw [h] at this
    obtain ⟨a, ha, e⟩ := List.mem_map.1 this
    exact ⟨a, ha, by rw [e]; simp⟩
  · rintro ⟨a, ha, e⟩
    rw [beq_iff_eq] at e
    have : idx a ∈ (rowsFrom 0 l).map (fun x => x.1.2) := by rw [h]; exact List.mem_map_of_mem ha
    obtain ⟨x, hx, e2⟩ := List.mem_map.1 this
    exact ⟨x, hx, e2.trans e⟩
theorem rws_at {G : List Rw} {k : Nat} (hk : k < G.length) : G[k]? = some (vAt G k) := by
  unfold vAt
  rw [List.getElem?_eq_getElem hk]
end Go.Proofs.Ytbcbknajhdaneaa
