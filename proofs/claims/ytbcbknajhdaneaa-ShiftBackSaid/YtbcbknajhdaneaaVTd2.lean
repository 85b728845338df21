/- What is proved: the contract of table's Set. the contract of table's New. tables in memory made since, behind a turn of another block; what comes of Push. the contract of table's Push. contracts of the document's Value, Values and Widths of tables. rows of rows of rows of words; the contract of the document's Of. -/
import Derived.Test.YtbcbknajhdaneaaVTb9
import Derived.Test.YtbcbknajhdaneaaVWords
import Derived.Deep.RegionHeld3
import Derived.Below
namespace Go.Proofs.Ytbcbknajhdaneaa
open Go.RowKit
set_option linter.unusedVariables false
set_option linter.unusedSimpArgs false
/-- a table, and how it went -/
def SetR (p : PT) (er : Int) (w : World) (e : Ending) (w' : World) : Prop := ∃ v, e = .returned (.tuple #[v, .int .i64 er]) ∧ TabRes p w.heap.size v w' ∧ Below w.heap.size w w'
theorem setR_nil (er : Int) {w w' : World} (h : Below w.heap.size w w') : SetR noT er w (.returned (.tuple #[.agg #[.slice none 0 0, .slice none 0 0, .slice none 0 0], .int .i64 er])) w' := ⟨_, rfl, tabRes_nil _ _, h⟩
end Go.Proofs.Ytbcbknajhdaneaa
namespace Go.Proofs.Ytbcbknajhdaneaa
open Go.RowKit
set_option linter.unusedVariables false
set_option linter.unusedSimpArgs false
theorem ins_cell {w : World} {B n : Nat} {A : Option Addr} {l : List Int} (h : Reads w B 1 A n (ins l)) {k : Nat} {x : Int} (hk : l[k]? = some x) :
    ∃ b off, A = some ⟨b, off, none⟩ ∧ b < B ∧ w.cell? ⟨b, off + k, none⟩ = some (.int .i64 x) := by
  have hn : k < n := by
    have h1 := h.1
    rw [ins_len] at h1
    have := (List.getElem?_eq_some_iff.1 hk).1
    omega
  obtain ⟨ad, u, rfl, hb, hu, hc⟩ := h.at_ hn
  obtain ⟨ad', u', e, _, _, hc'⟩ := h.at_ (show 0 < n by omega)
  injection e with e
  subst e
  unfold ins at hu
  rw [List.getElem?_map, hk] at hu
  cases hu
  obtain ⟨b, off, spot⟩ := ad
  have hspot : spot = none := by simpa [Addr.add] using World.cell?_spot hc'
  subst hspot
  exact ⟨b, off, rfl, hb, by rw [add_none] at hc; exact hc⟩
theorem own_other {w w' : World} {b1 b2 n1 n2 s1 s2 : Nat} {e1 e2 : TypeId} {v1 v2 : Value} {x1 x2 : List Value} (h : w.ownsRow b1 e1 s1 v1 n1 x1) (ho : w.ownsRow b2 e2 s2 v2 n2 x2) (hne : e1 ≠ e2) (hg : w.grownBy w' v2.ownBlock) : w'.ownsRow b1 e1 s1 v1 n1 x1 := by
  rcases ho.2 with ⟨rfl, _⟩ | ⟨g, cap, cur, rfl, _, h5, _⟩
  · have hg : w.grownBy w' none := hg
    rcases h.2 with ⟨rfl, hn⟩ | ⟨g2, cap2, cur2, rfl, h7, h8, h9⟩
    · exact ⟨h.1, .inl ⟨rfl, hn⟩⟩
    · exact ⟨h.1, .inr ⟨g2, cap2, cur2, rfl, h7, (hg.block g2 (Array.getElem?_eq_some_iff.1 h8).1 (by simp)).trans h8, h9⟩⟩
  · exact h.kept hg (.inr (own_blk_ne h (show Blk w g e2 cur from h5) hne))
end Go.Proofs.Ytbcbknajhdaneaa
namespace Go.Proofs.Ytbcbknajhdaneaa
open Go.RowKit
set_option linter.unusedVariables false
set_option linter.unusedSimpArgs false
/-- block g is no row of these elements -/
def NoRow (w : World) (g : Nat) : Prop := ∀ cs t z, w.heap[g]? = some (.cells cs t z) → t ≠ 26 ∧ t ≠ 27 ∧ t ≠ 68 ∧ t ≠ 44
theorem noRow_blk {w : World} {g : Nat} {t : TypeId} {cs : Array Value} (h : Blk w g t cs) (hn : t ≠ 26 ∧ t ≠ 27 ∧ t ≠ 68 ∧ t ≠ 44) : NoRow w g := fun cs' t' z hh => by
  unfold Blk at h
  rw [h] at hh
  injection hh with hh
  injection hh with _ ht
  subst ht; exact hn
theorem noRow_def {w : World} {g : Nat} {d : Option (List Deferred)} (h : w.heap[g]? = some (.deferred d)) : NoRow w g := fun cs t z hh => by rw [h] at hh; cases hh
section
variable {w w' : World} {base g : Nat} (hb : ∀ i, i ≠ g → w'.heap[i]? = w.heap[i]?) (hz : w.heap.size ≤ w'.heap.size) (hn : NoRow w g)
include hb hn
theorem ints_other {e : TypeId} {A : Option Addr} {n : Nat} (h : IntS w base e A n) (he : e = 26 ∨ e = 27) : IntS w' base e A n := fun h0 => by
  obtain ⟨g', cur, rfl, h1, h2, h3⟩ := h h0
  refine ⟨g', cur, rfl, h1, (hb g' fun e' => ?_).trans h2, h3⟩
  subst e'
  have := hn _ _ _ h2
  rcases he with rfl | rfl
  · exact this.1 rfl
  · exact this.2.1 rfl
include hz
theorem reads_other {e : TypeId} {A : Option Addr} {n : Nat} {l : List Int} (h : IntS w base e A n) (he : e = 26 ∨ e = 27) (hR : Reads w w.heap.size 1 A n (ids l)) : Reads w' w'.heap.size 1 A n (ids l) := by
  refine ⟨hR.1, fun h0 => ?_⟩
  obtain ⟨ad, e', h1, h2⟩ := hR.2 h0
  obtain ⟨g', cur, hA, h3, h4, h5⟩ := h h0
  obtain ⟨g2, cur2, hA2, _, h6, _⟩ := ints_other hb hn h he h0
  rw [hA] at hA2; injection hA2 with hA2; injection hA2 with hA2
  subst hA2
  rw [e'] at hA; injection hA with hA
  refine ⟨ad, e', Nat.lt_of_lt_of_le h1 hz, fun j u hu => ?_⟩
  rw [← h2 j u hu]
  refine World.cell?_of_block ?_
  rw [block_of_add, hA]
  refine hb g' fun e9 => ?_
  subst e9
  have := hn _ _ _ h4
  rcases he with rfl | rfl
  · exact this.1 rfl
  · exact this.2.1 rfl
theorem colFresh_other {x : Col} (h : ColFresh w base x) : ColFresh w' base x :=
  ⟨⟨reads_other hb hz hn h.2 (.inl rfl) h.1.1, h.1.2⟩, ints_other hb hn h.2 (.inl rfl)⟩
theorem idFresh_other {A : Option Addr} {n c : Nat} {l : List Int} (h : IdFresh w base A n c l) : IdFresh w' base A n c l :=
  ⟨reads_other hb hz hn h.2.2.2.2 (.inr rfl) h.1, h.2.1, h.2.2.1, h.2.2.2.1, ints_other hb hn h.2.2.2.2 (.inr rfl)⟩
omit hz in
theorem own_other2 {e : TypeId} {size n : Nat} {v : Value} {xs : List Value} (h : w.ownsRow base e size v n xs) (he : e = 26 ∨ e = 27 ∨ e = 68 ∨ e = 44) : w'.ownsRow base e size v n xs := by
  rcases h.2 with h2 | ⟨g2, cap2, cur2, rfl, h7, h8, h9⟩
  · exact ⟨h.1, .inl h2⟩
  · refine ⟨h.1, .inr ⟨g2, cap2, cur2, rfl, h7, (hb g2 fun e9 => ?_).trans h8, h9⟩⟩
    subst e9
    have := hn _ _ _ h8
    rcases he with rfl | rfl | rfl | rfl
    · exact this.1 rfl
    · exact this.2.1 rfl
    · exact this.2.2.1 rfl
    · exact this.2.2.2 rfl
theorem TabFresh.other {t : Tab} (h : TabFresh w base t) : TabFresh w' base t :=
  ⟨idFresh_other hb hz hn h.ty, own_other2 hb hn h.cs (.inr (.inr (.inl rfl))), fun x hx => colFresh_other hb hz hn (h.csf x hx), idFresh_other hb hz hn h.es⟩
end
theorem own_new {w w' : World} {b1 n1 n2 s1 s2 : Nat} {e1 e2 : TypeId} {v1 v2 : Value} {x1 x2 : List Value} (h1 : w.ownsRow b1 e1 s1 v1 n1 x1) (h2 : w'.ownsRow w.heap.size e2 s2 v2 n2 x2) : v1.ownBlock = none ∨ v1.ownBlock ≠ v2.ownBlock := by
  rcases h1.2 with ⟨rfl, _⟩ | ⟨g, cap, cur, rfl, _, hg, _⟩
  · exact .inl rfl
  · refine .inr fun hh => ?_
    have hlt := (Array.getElem?_eq_some_iff.1 hg).1
    rcases h2.2 with ⟨rfl, _⟩ | ⟨g2, cap2, cur2, rfl, hb, _⟩
    · simp [Value.ownBlock] at hh
    · simp [Value.ownBlock] at hh
      omega
theorem reads_blk {w : World} {g : Nat} {t : TypeId} {u : Value} (h : Blk w g t #[u]) : Reads w w.heap.size 1 (some ⟨g, 0, none⟩) 1 [u] := by
  refine ⟨rfl, fun _ => ⟨_, rfl, h.lt, fun j x hx => ?_⟩⟩
  rw [add_none, Nat.zero_add, h.cell]
  rw [List.getElem?_cons] at hx
  split at hx
  · rename_i h0; subst h0; simpa using hx
  · simp at hx
def vAt (G : List Rw) (k : Nat) : Rw := match G[k]? with | some x => x | none => default
def widE (G : List Rw) : Nat → List Col → Bool
  | _, [] => true
  | k, x :: F => ((vAt G k).n : Int) == x.W && widE G (k + 1) F
/-- what comes of Push -/
def tpuE (t : Tab) (e : Int) (G : List Rw) : Int :=
  if tabB t then (if kd e = 1 ∧ G.length = t.F.length then (if hasI t.es (pa e) then 5 else if widE G 0 t.F then (if t.es.length = 1048578 then 6 else 0) else 140) else 2) else 190
def tpuP (t : Tab) (e : Int) (G : List Rw) : PT := if tpuE t e G = 0 then (t.ty, eachL (fun k x => pushP x (vAt G k)) 0 t.F, t.es ++ [e]) else noT
theorem widE_at {G : List Rw} : ∀ {F : List Col} {b : Nat}, widE G b F = true → ∀ (k : Nat) (x : Col), F[k]? = some x → ((vAt G (b + k)).n : Int) = x.W
  | [], _, _, _, _, hk => by simp at hk
  | y :: F, b, h, 0, x, hk => by
    simp at hk; subst hk
    unfold widE at h
    rw [Bool.and_eq_true, beq_iff_eq] at h
    exact h.1
  | y :: F, b, h, k + 1, x, hk => by
    unfold widE at h
    rw [Bool.and_eq_true] at h
    rw [show b + (k + 1) = b + 1 + k from by omega]
    exact widE_at h.2 k x (by simpa using hk)
theorem widE_all {G : List Rw} : ∀ {F : List Col} {b : Nat}, (∀ (k : Nat) (x : Col), F[k]? = some x → ((vAt G (b + k)).n : Int) = x.W) → widE G b F = true
  | [], _, _ => rfl
  | y :: F, b, h => by
    unfold widE
    rw [Bool.and_eq_true, beq_iff_eq]
    exact ⟨h 0 y rfl, widE_all fun k x hk => by rw [show b + 1 + k = b + (k + 1) from by omega]; exact h (k + 1) x (by simpa using hk)⟩
theorem push_zero {t : Tab} {G : List Rw} (h1 : tabB t = true) (h2 : widE G 0 t.F = true) (h3 : t.es.length ≠ 1048578) : eachE (fun k x => pushE x (vAt G k)) 0 t.F = 0 := by
  obtain ⟨_, _, hle, hc, _⟩ := tabB_parts h1
  refine eachE_all _ _ _ fun j y hy => ?_
  obtain ⟨hc1, hc2⟩ := hc y (List.mem_of_getElem? hy)
  have hw := widE_at h2 j y hy
  unfold pushE
  rw [hc1, if_pos rfl, if_neg (by rw [hw]; simp), if_neg (by rw [hc2]; omega)]
theorem rows_has (l : List Int) (hw : ∀ x ∈ l, Word x) (hl : l.length ≤ 281474976710656) (i : Int) : (∃ x ∈ rowsL l, x.1.2 = i) ↔ hasI l i = true := by
  have h := rowsFrom_snd l 0 hw (by omega)
  unfold hasI rowsL
  rw [List.any_eq_true]
  constructor
  · rintro ⟨x, hx, rfl⟩
    have : x.1.2 ∈ (rowsFrom 0 l).map (fun x => x.1.2) := List.mem_map_of_mem hx
    rw [h] at this
    obtain ⟨a, ha, e⟩ := List.mem_map.1 this
    exact ⟨a, ha, by rw [e]; simp⟩
  · rintro ⟨a, ha, e⟩
    rw [beq_iff_eq] at e
    have : idx a ∈ (rowsFrom 0 l).map (fun x => x.1.2) := by rw [h]; exact List.mem_map_of_mem ha
    obtain ⟨x, hx, e2⟩ := List.mem_map.1 this
    exact ⟨x, hx, e2.trans e⟩
theorem rws_at {G : List Rw} {k : Nat} (hk : k < G.length) : G[k]? = some (vAt G k) := by
  unfold vAt
  rw [List.getElem?_eq_getElem hk]
end Go.Proofs.Ytbcbknajhdaneaa
namespace Go.Proofs.Ytbcbknajhdaneaa
open Go.RowKit
set_option linter.unusedVariables false
set_option linter.unusedSimpArgs false
attribute [local go_sem] Oper.semAt_some
theorem blk_cell1 {w : World} {g : Nat} {t : TypeId} {a : Value} (h : Blk w g t #[a]) : w.cell? ⟨g, 0, none⟩ = some a ∧ w.frozen? ⟨g, 0, none⟩ = false := ⟨h.cell 0, h.frozen 0⟩
theorem ownFrom_blk {β : Type} {B g : Nat} (hg : g < B) (t : TypeId) (cs : Array Value) : OwnFrom B (fun (_ : β) W => Blk W g t cs) := fun s W W' row hs hgr hr =>
  hs.grown hgr (fun e => by have := (hr g e.symm).1; omega)
theorem farc {w : World} {g b i j : Nat} {u : Value} (a0 : Value) (hne : b ≠ g) (h : w.cell? ⟨b, i, none⟩ = some u) : (w.setCell ⟨g, j, none⟩ a0).cell? ⟨b, i, none⟩ = some u :=
  (World.cell?_setCell_other w _ _ a0 (fun ee => hne (by injection ee with e1 _ _; exact e1.symm))).trans h
theorem blk_put {w : World} {g D : Nat} {t : TypeId} {cs : Array Value} {d : Option (List Deferred)} (hD : w.heap[D]? = some (.deferred d)) (o : Obj) (h : Blk w g t cs) : Blk (w.putObj D o) g t cs := by
  refine h.grown (grownBy_putObj' w D o) (fun e => ?_)
  injection e with e
  subst e
  unfold Blk at h
  rw [h] at hD
  cases hD
set_option maxRecDepth 100000 in
set_option maxHeartbeats 16000000 in
theorem tpush_any (t : Tab) (e : Int) (hwe : Word e) (VA : Option Addr) (vn vc : Nat) (G : List Rw) (w : World) (h : TabOk w w.heap.size t) (hs : TabSm t) (hn : t.Cn ≤ 65536 ∧ t.Tn ≤ 65536 ∧ t.En ≤ 65535)
    (hR : Reads w w.heap.size 1 VA vn (rws G)) (hG : ∀ v ∈ G, RwOk w w.heap.size v) (hvn : vn ≤ 65536) :
    Calls Try.prog 16 #[t.V, .int .u64 e, .slice VA vn vc] w (SetR (tpuP t e G) (tpuE t e G) w) := by
  obtain ⟨W0, hW0⟩ : ∃ W0, W0 = (((w.alloc (.cells #[.slice t.TA t.Tn t.Tc, .slice t.CA t.Cn t.Cc, .slice t.EA t.En t.Ec] 25)).alloc (.cells #[.slice VA vn vc] 28)).alloc (.cells #[.slice none 0 0, .slice none 0 0, .slice none 0 0] 25)).alloc (.cells #[.int .i64 0] 32) := ⟨_, rfl⟩
  have hB : Below w.heap.size w W0 := by rw [hW0]; exact ((((Below.refl w.heap.size w).alloc (Nat.le_refl _) _).alloc (by simp) _).alloc (by simp; omega) _).alloc (by simp; omega) _
  have hsz : W0.heap.size = w.heap.size + 4 := by rw [hW0]; simp
  have k0 : Blk W0 w.heap.size 25 #[.slice t.TA t.Tn t.Tc, .slice t.CA t.Cn t.Cc, .slice t.EA t.En t.Ec] := by rw [hW0]; exact (((Blk.new w _ _).alloc _).alloc _).alloc _
  have k1 : Blk W0 (w.heap.size + 1) 28 #[.slice VA vn vc] := by
    rw [hW0]
    have h := Blk.new (w.alloc (.cells #[.slice t.TA t.Tn t.Tc, .slice t.CA t.Cn t.Cc, .slice t.EA t.En t.Ec] 25)) 28 #[.slice VA vn vc]
    rw [World.size_alloc] at h
    exact (h.alloc _).alloc _
  have k2 : Blk W0 (w.heap.size + 2) 25 #[.slice none 0 0, .slice none 0 0, .slice none 0 0] := by
    rw [hW0]
    have h := Blk.new ((w.alloc (.cells #[.slice t.TA t.Tn t.Tc, .slice t.CA t.Cn t.Cc, .slice t.EA t.En t.Ec] 25)).alloc (.cells #[.slice VA vn vc] 28)) 25 #[.slice none 0 0, .slice none 0 0, .slice none 0 0]
    rw [World.size_alloc, World.size_alloc] at h
    exact h.alloc _
  have k3 : Blk W0 (w.heap.size + 3) 32 #[.int .i64 0] := by
    rw [hW0]
    have h := Blk.new (((w.alloc (.cells #[.slice t.TA t.Tn t.Tc, .slice t.CA t.Cn t.Cc, .slice t.EA t.En t.Ec] 25)).alloc (.cells #[.slice VA vn vc] 28)).alloc (.cells #[.slice none 0 0, .slice none 0 0, .slice none 0 0] 25)) 32 #[.int .i64 0]
    rw [World.size_alloc, World.size_alloc, World.size_alloc] at h
    exact h
  have hT := (h.keep hB).more hB.size
  have HW := Lib.hid hW0
  have HS := Lib.hid hsz
  have hlen := h.len
  have hGl : G.length = vn := by have := hR.1; rw [rws_len] at this; omega
  have cp := fun w => parts_any e hwe w
  have ck := fun w => kind_any e hwe w
  have ct := fun (w2 : World) (hb : Below W0.heap.size W0 w2) => tabchk_any t w2 ((hT.keep hb).more hb.size) hs
  have zz := fun (w2 : World) (hb : Below W0.heap.size W0 w2) => And.intro (blk_below k0 hb) (And.intro (blk_below k1 hb) (And.intro (blk_below k2 hb) (And.intro (blk_below k3 hb) (hB.trans (hb.mono hB.size)))))
  have HZ := Lib.hid zz
  unfold tabE at ct
  have HTW := Lib.hid h.tyw
  have HEW := Lib.hid h.esw
  cases hb0 : tabB t
  · rw [hb0] at ct
    have hE : tpuE t e G = 190 := by unfold tpuE; rw [hb0]; rfl
    have hP : tpuP t e G = noT := by unfold tpuP; rw [hE, if_neg (by decide)]
    rw [hE, hP]
    unfold Tab.V at ct ⊢
    obtain ⟨TA, Tn, Tc, ty, CA, Cn, Cc, F, EA, En, Ec, es⟩ := t
    simp only at *
    clear hW0 hsz h hs k0 k1 k2 k3 hT hlen hGl hb0 hE hP zz hR hG hn
    go_enter Try.func16, Try.ntmps16
    go_upto_region 1 with fail
    rw [← HW.out]
    go_wp2_with (first
      | (go_at_call 64; ((with_reducible refine (cp _).mono ?_); rintro en w2 ⟨rfl, hb2⟩; have hb3 := hb2.alloc hb2.size (.cells #[.int .i64 (pa e)] 3); obtain ⟨z0, z1, z2, z3, zb⟩ := HZ.out _ hb3; obtain ⟨⟨z0, y1, y2⟩, _⟩ := blk_cells3 z0; clear z1 z2 z3))
      | (go_at_call 34; ((with_reducible refine (ct _ hb3).mono ?_); rintro en w4 ⟨rfl, hb4⟩; have hb5 := hb3.trans (hb4.mono hb3.size); obtain ⟨u0, u1, u2, u3, ub⟩ := HZ.out _ hb5; obtain ⟨⟨q0, q1, q2⟩, qf⟩ := blk_cells3 u2; obtain ⟨p0, pf⟩ := blk_cell1 u3; have qf0 := qf 0; have qf1 := qf 1; have qf2 := qf 2; clear u0 u1 u2 u3 qf))
      | fail)
    refine bodyPost_ret (v := .tuple #[.agg #[.slice none 0 0, .slice none 0 0, .slice none 0 0], .int .i64 190]) (by simp [results, Try.results16, go_sem, *]) rfl ?_
    exact setR_nil 190 (Below.setCell (below_set3 ub (by omega)) (by show w.heap.size ≤ w.heap.size + 3; omega) _)
  · rw [hb0] at ct
    by_cases hkd : kd e = 1 ∧ G.length = t.F.length
    · have hE : tpuE t e G = if hasI t.es (pa e) then 5 else if widE G 0 t.F then (if t.es.length = 1048578 then 6 else 0) else 140 := by unfold tpuE; rw [hb0, if_pos rfl, if_pos hkd]
      obtain ⟨hk1, hk2⟩ := hkd
      rw [hk1] at ck
      have cr := fun (w2 : World) (hb : Below W0.heap.size W0 w2) => rows_any w.heap.size t w2 (Nat.le_trans hB.size hb.size) (h.es.below (hB.trans (hb.mono hB.size))) h.esw (by omega)
      have hix : pa e = idx e := by unfold idx; rw [if_pos hk1]
      have hpb := idx_bd e hwe
      rw [← hix] at hpb
      have t2 : ((vn : Int) != (t.Cn : Int)) = false := by simp; omega
      generalize hpi : pa e = ip at *
      generalize pb e = ipb at *
      have hpost5 : hasI t.es ip = true → SetR (tpuP t e G) (tpuE t e G) w = SetR noT 5 w := fun hh => by
        have h5 : tpuE t e G = 5 := by rw [hE, hh]; rfl
        unfold tpuP; rw [h5, if_neg (by decide)]
      have hpost140 : hasI t.es ip = false → widE G 0 t.F = false → SetR (tpuP t e G) (tpuE t e G) w = SetR noT 140 w := fun hh h2 => by
        have h5 : tpuE t e G = 140 := by rw [hE, hh, h2]; rfl
        unfold tpuP; rw [h5, if_neg (by decide)]
      have hpost0 : hasI t.es ip = false → widE G 0 t.F = true → SetR (tpuP t e G) (tpuE t e G) w = SetR (t.ty, eachL (fun k x => pushP x (vAt G k)) 0 t.F, t.es ++ [e]) 0 w := fun hh h2 => by
        have h5 : tpuE t e G = 0 := by rw [hE, hh, h2, if_neg (by decide), if_pos rfl, if_neg (by omega)]
        unfold tpuP; rw [h5, if_pos rfl]
      have hep : widE G 0 t.F = true → eachE (fun k x => pushE x (vAt G k)) 0 t.F = 0 ∧ eachP (fun k x => pushP x (vAt G k)) (fun k x => pushE x (vAt G k)) t.F = eachL (fun k x => pushP x (vAt G k)) 0 t.F := fun h2 => by
        have h5 := push_zero hb0 h2 (by omega)
        exact ⟨h5, by unfold eachP; rw [if_pos h5]⟩
      have HP5 := Lib.hid hpost5
      have HP140 := Lib.hid hpost140
      have HP0 := Lib.hid hpost0
      have HEP := Lib.hid hep
      have HRH := Lib.hid (rows_has t.es h.esw (by omega) ip)
      have HWE := Lib.hid (@widE_at G t.F 0)
      have HWA := Lib.hid (@widE_all G t.F 0)
      have ce := fun (w2 : World) (hb : Below W0.heap.size W0 w2) => each1_any t 68 (w.heap.size + 1) (fun k x => pushP x (vAt G k)) (fun k x => pushE x (vAt G k)) w2 ((hT.cs.below hb).more hb.size) hn.1
        (enters_of Try.func68 (by kernel_rfl) rfl)
        (fun k x hx W hbW => by
          have hb9 := hb.trans (hbW.mono hb.size)
          have hk9 := (List.getElem?_eq_some_iff.1 hx).1
          exact pushc_any k x (vAt G k) (w.heap.size + 1) VA vn vc G W (((hT.csok x (List.mem_of_getElem? hx)).keep hb9).more hb9.size) ((blk_below k1 hb9).cell 0) (by have := hb9.size; omega) ((hR.below (hB.trans (hb9.mono hB.size))).more (Nat.le_trans hB.size hb9.size)) (rws_at (by omega))
            (((hG _ (List.mem_of_getElem? (rws_at (by omega)))).keep (hB.trans (hb9.mono hB.size))).more (Nat.le_trans hB.size hb9.size)) hvn)
      have co := fun (w2 : World) (hb : Below W0.heap.size W0 w2) => town1 t.EA t.En t.Ec t.es w2 ((hT.es.below hb).more hb.size) (by omega)
      have cu := fun (w2 : World) (hb : Below W0.heap.size W0 w2) => clone_d t.TA t.Tn t.Tc t.ty w2 ((hT.ty.below hb).more hb.size) hn.2.1
      have HCS := Lib.hid h.cs
      have HRV := Lib.hid hR
      have HGO := Lib.hid hG
      have HGL := Lib.hid hGl
      have HLN := Lib.hid hlen
      have HK2 := Lib.hid hk2
      clear hpost5 hpost140 hpost0 hep hE
      generalize SetR (tpuP t e G) (tpuE t e G) w = POST at *
      generalize eachP (fun k x => pushP x (vAt G k)) (fun k x => pushE x (vAt G k)) t.F = ps at *
      generalize eachE (fun k x => pushE x (vAt G k)) 0 t.F = er at *
      generalize eachL (fun k x => pushP x (vAt G k)) 0 t.F = cl at *
      unfold Tab.V at ct ce cr ⊢
      unfold EachR at ce
      unfold OwnD at co cu
      unfold SeqR at cr
      obtain ⟨TA, Tn, Tc, ty, CA, Cn, Cc, F, EA, En, Ec, es⟩ := t
      simp only at *
      clear hW0 hsz h hs k0 k1 k2 k3 hT hlen hGl hb0 zz hR hG hk1 hk2 hix hpi
      refine (callsIn_wide (n := 6)).1 ?_
      refine callsIn_of_wp_marks Try.func16 rfl trivial ?_ rfl
      simp only [Try.ntmps16, List.size_toArray, List.length_cons, List.length_nil, Nat.reduceAdd, Nat.reduceSub, Array.replicate_succ, Array.replicate_zero, List.push_toArray, List.append_toArray, List.nil_append, List.cons_append]
      refine wpIn_wide.2 ?_
      go_upto_region 1 with fail
      rw [← HW.out]
      go_wp2_with (first
        | (go_at_call 64; ((with_reducible refine (cp _).mono ?_); rintro en w2 ⟨rfl, hb2⟩; have hb3 := hb2.alloc hb2.size (.cells #[.int .i64 ip] 3); have hki := Blk.new w2 3 #[.int .i64 ip]; obtain ⟨z0, z1, z2, z3, zb⟩ := HZ.out _ hb3; obtain ⟨⟨z0, y1, y2⟩, _⟩ := blk_cells3 z0; clear z1 z2 z3))
        | (go_at_call 34; ((with_reducible refine (ct _ hb3).mono ?_); rintro en w4 ⟨rfl, hb4⟩; have hb5 := hb3.trans (hb4.mono hb3.size)))
        | (go_at_call 65; ((with_reducible refine (ck _).mono ?_); rintro en w6 ⟨rfl, hb6⟩; have hb7 := hb5.trans (hb6.mono hb5.size); obtain ⟨u0, u1, u2, u3, ub⟩ := HZ.out _ hb7; obtain ⟨⟨q0, q1, q2⟩, _⟩ := blk_cells3 u0; obtain ⟨l0, _⟩ := blk_cell1 u1; clear u0 u1 u2 u3 ub))
        | (go_at_call 66; ((with_reducible refine (cr _ hb7).mono ?_); rintro en w8 ⟨bt, rfl, hst, hb8⟩))
        | fail)
      have hb9 := hb7.trans (hb8.mono hb7.size)
      have hki8 := blk_below (blk_below (blk_below hki hb4) hb6) hb8
      have hi8 : w2.heap.size < w8.heap.size := hki8.lt
      have hW2 : W0.heap.size ≤ w2.heap.size := hb2.size
      clear hb3 hb4 hb5 hb6 hb7 hb8 hki z0 y1 y2 zb q0 q1 q2 l0 ct ck cp cr
      generalize w2.heap.size = bi at *
      clear hb2
      refine wpIn_wide (n := 6) |>.1 ?_
      refine wpIn_rangeFunc_ownG (w0 := w8) rfl (by omega) (gf := 111) (lb := #[.pointer (some ⟨bt, 0, none⟩)]) rfl trivial (enters_of Try.func111 (by kernel_rfl) rfl)
        (hst (6 - 1) (by omega)) belowK_t (belowK_b (by have := hb9.size; have := hB.size; omega)) (Below.refl _ _) (fun _ => rfl)
        (fun pre W => (∀ x ∈ pre, x.1.2 ≠ ip) ∧ Below W0.heap.size W0 W ∧ Below w8.heap.size w8 W)
        (fun c pre W => c = .ret ∧ (∃ x ∈ pre, x.1.2 = ip) ∧ Blk W (w.heap.size + 2) 25 #[.slice none 0 0, .slice none 0 0, .slice none 0 0] ∧ Blk W (w.heap.size + 3) 32 #[.int .i64 5] ∧ Below w.heap.size w W)
        (OwnFrom.and (ownFrom_pure _ _) (OwnFrom.and (ownFrom_below (Nat.le_refl _) (by have := hb9.size; omega)) (ownFrom_below (Nat.le_refl _) (Nat.le_refl _))))
        (fun c => OwnFrom.and (ownFrom_pure _ _) (OwnFrom.and (ownFrom_pure _ _) (OwnFrom.and (ownFrom_blk (by have := hb9.size; have := HS.out; omega) _ _) (OwnFrom.and (ownFrom_blk (by have := hb9.size; have := HS.out; omega) _ _) (ownFrom_below (Nat.le_refl _) (by have := hb9.size; have := hB.size; omega))))))
        ⟨by simp, hb9, Below.refl _ _⟩ ?a1 ?assign ?body ?done ?stop
      case assign =>
        intro l x W K hK
        unfold encR
        gi_wp2
        exact hK
      case body =>
        rintro l pre x W ⟨hne, hb, hb8⟩ hlt3
        have hki := hki8.below hb8 hi8
        obtain ⟨ci, _⟩ := blk_cell1 hki
        obtain ⟨u0, u1, u2, u3, ub⟩ := HZ.out _ hb
        obtain ⟨⟨q0, q1, q2⟩, qf⟩ := blk_cells3 u2
        obtain ⟨p0, pf⟩ := blk_cell1 u3
        have qf0 := qf 0
        have qf1 := qf 1
        have qf2 := qf 2
        have U2 := Lib.hid u2
        have U3 := Lib.hid u3
        have HNE := Lib.hid hne
        clear u0 u1 u2 u3 qf hne hki
        cases hx : (x.1.2 == ip)
        · have hx2 : x.1.2 ≠ ip := by simpa using hx
          have HX := Lib.hid hx2
          clear hx2
          gi_wp2
          exact ⟨KeepsFrom.refl _ _, Below.refl _ _, fun y hy => by rcases List.mem_append.1 hy with hy | hy; exact HNE.out y hy; rw [List.mem_singleton] at hy; subst hy; exact HX.out, hb, hb8⟩
        · have hx2 : x.1.2 = ip := by simpa using hx
          have HX := Lib.hid hx2
          clear hx2
          gi_wp2
          refine ⟨?_, rfl, ⟨x, by simp, HX.out⟩, ?_, ?_, ?_⟩
          · exact ((((KeepsOthers.setCell _ _ _).trans (KeepsOthers.setCell _ _ _)).trans (KeepsOthers.setCell _ _ _)).trans (KeepsOthers.setCell _ _ _)).from _
          · exact (((U2.out.set_ 0 _).set_ 1 _).set_ 2 _).far (by simp) _
          · exact (((U3.out.far (by simp) _).far (by simp) _).far (by simp) _).set_ 0 _
          · exact Below.setCell (below_set3 ub (by omega)) (by show w.heap.size ≤ w.heap.size + 3; omega) _
      case stop =>
        rintro D c pre W hD hpre ⟨rfl, hex, hk2, hk3, hbw⟩ hK
        have hhas : hasI es ip = true := HRH.out.1 (by obtain ⟨x, hx, he⟩ := hex; exact ⟨x, hpre.subset hx, he⟩)
        have HPO := Lib.hid (HP5.out hhas)
        have hk2' := blk_put hK (.deferred none) hk2
        have hk3' := blk_put hK (.deferred none) hk3
        obtain ⟨⟨q0, q1, q2⟩, _⟩ := blk_cells3 hk2'
        obtain ⟨p0, _⟩ := blk_cell1 hk3'
        clear hk2 hk3 hk2' hk3' hhas
        refine wpIn_wide.2 ?_
        go_wp2
        refine ⟨by simp, .inl ⟨_, _, rfl, run_takeDeferred hK, ?_⟩⟩
        refine ⟨.tuple #[.agg #[.slice none 0 0, .slice none 0 0, .slice none 0 0], .int .i64 5], by simp [results, Try.f16, go_sem, q0, q1, q2, p0], ?_⟩
        show POST _ _
        rw [HPO.out]
        exact setR_nil 5 (hbw.trans (belowK_b (w := w) (Nat.le_refl _) W D _ _ (by have := hb9.size; have := hB.size; omega) hK rfl rfl))
      case done =>
        rintro D ys' W hD rfl ⟨hne, hb, hb8⟩ hK
        have hhas : hasI es ip = false := by
          cases hh : hasI es ip
          · rfl
          · obtain ⟨x, hx, he⟩ := HRH.out.2 hh
            exact absurd he (hne x hx)
        have HHAS := Lib.hid hhas
        clear hne hhas hb8 HP5 HRH
        obtain ⟨u0, u1, u2, u3, ub⟩ := HZ.out _ hb
        obtain ⟨⟨q0, q1, q2⟩, _⟩ := blk_cells3 u0
        obtain ⟨l0, _⟩ := blk_cell1 u1
        have U2 := Lib.hid u2
        have U3 := Lib.hid u3
        clear u0 u1 u2 u3
        go_wp2
        go_loop [49] (fun i => ∃ k : Nat, k ≤ vn ∧ i = .int .i64 k ∧ ∀ j, j < k → ∀ x, F[j]? = some x → ((vAt G (0 + j)).n : Int) = x.W)
          (fun i => vn - (intOf i).toNat)
        case atStart => exact ⟨0, Nat.zero_le _, rfl, fun j hj => absurd hj (by omega)⟩
        case round =>
          obtain ⟨k, hk, rfl, hall⟩ := hrel
          by_cases hlt : k < vn
          · have hkG : k < G.length := by rw [HGL.out]; exact hlt
            have e1 := rws_at hkG
            have e2 := List.getElem?_eq_getElem (l := F) (i := k) (by rw [← HK2.out]; exact hkG)
            generalize F[k]'(by rw [← HK2.out]; exact hkG) = x at e2
            obtain ⟨b, off, rfl, hbl, g⟩ := rws_cell HRV.out e1
            obtain ⟨b2, off2, rfl, hbl2, g2⟩ := cols_cells HCS.out e2
            have g1 := cell_below' ub g hbl
            obtain ⟨x0, x1, x2⟩ := g2.below ub hbl2
            have i1 : (k : Int) < (Cn : Int) := by have := HK2.out; have := HLN.out; have := HGL.out; omega
            have HALL := Lib.hid hall
            have HE2 := Lib.hid e2
            have HV0 := Lib.hid (show vAt G (0 + k) = vAt G k from by rw [Nat.zero_add])
            clear hall e2 g g2
            generalize hv : vAt G k = v at *
            have HVV := Lib.hid hv
            clear hv
            obtain ⟨xW, xR, xA, xn, xc, xl⟩ := x
            simp only at x0 x1 x2
            cases hne : ((v.n : Int) != xW)
            · have hne2 : (v.n : Int) = xW := by simpa using hne
              have HX := Lib.hid hne2
              clear hne2
              go_wp2
              go_round
              case rel =>
                refine ⟨k + 1, by omega, by go_num, fun j hj x hx => ?_⟩
                by_cases hjk : j = k
                · subst hjk
                  rw [HE2.out] at hx; injection hx with hx
                  subst hx
                  rw [HV0.out]; exact HX.out
                · exact HALL.out j (by omega) x hx
              case measure => simp [intOf]; omega
            · have hne2 : (v.n : Int) ≠ xW := by simpa using hne
              have hwid : widE G 0 F = false := by
                cases hh : widE G 0 F
                · rfl
                · have := HWE.out hh k _ HE2.out
                  rw [HV0.out] at this
                  exact absurd this hne2
              have HPO := Lib.hid (HP140.out HHAS.out hwid)
              obtain ⟨⟨r0, r1, r2⟩, rf⟩ := blk_cells3 U2.out
              obtain ⟨p0, pf⟩ := blk_cell1 U3.out
              have rf0 := rf 0
              have rf1 := rf 1
              have rf2 := rf 2
              clear rf hne2 hwid
              go_wp2
              have hK2 := ((((KeepsOthers.setCell W ⟨w.heap.size + 2, 0, none⟩ (.slice none 0 0)).trans (KeepsOthers.setCell _ ⟨w.heap.size + 2, 1, none⟩ (.slice none 0 0))).trans (KeepsOthers.setCell _ ⟨w.heap.size + 2, 2, none⟩ (.slice none 0 0))).trans (KeepsOthers.setCell _ ⟨w.heap.size + 3, 0, none⟩ (.int .i64 140))).same D _ hK rfl
              have hk2' := blk_put hK2 (.deferred none) ((((U2.out.set_ 0 (.slice none 0 0)).set_ 1 (.slice none 0 0)).set_ 2 (.slice none 0 0)).far (by simp) (.int .i64 140))
              have hk3' := blk_put hK2 (.deferred none) (((((U3.out.far (p := ⟨w.heap.size + 2, 0, none⟩) (by simp) (.slice none 0 0)).far (p := ⟨w.heap.size + 2, 1, none⟩) (by simp) (.slice none 0 0)).far (p := ⟨w.heap.size + 2, 2, none⟩) (by simp) (.slice none 0 0)).set_ 0 (.int .i64 140)))
              obtain ⟨⟨q0, q1, q2⟩, _⟩ := blk_cells3 hk2'
              obtain ⟨p0, _⟩ := blk_cell1 hk3'
              refine ⟨by simp, .inl ⟨_, _, rfl, run_takeDeferred hK2, ?_⟩⟩
              refine ⟨.tuple #[.agg #[.slice none 0 0, .slice none 0 0, .slice none 0 0], .int .i64 140], by simp [results, Try.f16, go_sem, q0, q1, q2, p0], ?_⟩
              show POST _ _
              rw [HPO.out]
              exact setR_nil 140 ((Below.setCell (below_set3 ub (by omega)) (by show w.heap.size ≤ w.heap.size + 3; omega) _).trans (belowK_b (w := w) (Nat.le_refl _) _ D _ _ (by have := hb9.size; have := hB.size; omega) hK2 rfl rfl))
          · have : k = vn := by omega
            subst this
            have hwid : widE G 0 F = true := HWA.out fun j x hx => hall j (by have := (List.getElem?_eq_some_iff.1 hx).1; have := HK2.out; have := HGL.out; omega) x hx
            have HPO := Lib.hid (HP0.out HHAS.out hwid)
            obtain ⟨he1, he2⟩ := HEP.out hwid
            subst he1
            rw [he2] at ce
            have t6 : ((En : Int) == 1048578) = false := by simp; omega
            clear hall hwid he2 HEP HP0 HP140 HWE HWA HHAS
            go_wp2_with (first
              | (go_at_call 67; ((with_reducible refine (ce _ hb).mono ?_); rintro en w5 ⟨v, F', rfl, ho3, hl3, hf3, hb3⟩; obtain ⟨Av, cv, rfl⟩ := own_slice ho3))
              | fail)
            have hb5 := hb.trans (hb3.mono hb.size)
            obtain ⟨v0, v1, v2, v3, vb⟩ := HZ.out _ hb5
            obtain ⟨⟨s0', _, s2'⟩, _⟩ := blk_cells3 v0
            have hl0 : w.heap.size < w5.heap.size := v0.lt
            have HL5 := Lib.hid v3.lt
            have hK5 : w5.heap[D]? = some (.deferred (some [])) := (hb3.block D (Array.getElem?_eq_some_iff.1 hK).1).trans hK
            have hWz : w.heap.size ≤ W.heap.size := Nat.le_trans hB.size hb.size
            have HC5 := Lib.hid (base_le ho3 hWz)
            have HF5 := Lib.hid (fun x hx => colFresh_base (hf3 x hx) hWz)
            have HL3 := Lib.hid hl3
            have HK52 := Lib.hid v2
            have HK53 := Lib.hid v3
            have HB5 := Lib.hid hb5
            have HV5 := Lib.hid vb
            have HDD := Lib.hid hK5
            have hDlt : D < w5.heap.size := (Array.getElem?_eq_some_iff.1 hK5).1
            have hDw : w8.heap.size ≤ D := hD
            clear ho3 hf3 hl3 hb3 hb5 v0 v1 v2 v3 vb hK5 hK ce q0 q1 q2 l0
            obtain ⟨i0, hi0, hz0, hz1, hz2⟩ := info_parts info_id
            refine wp_region_noPanic ?_
            refine wp_region_held_drew (S := fun w' => w'.cell? ⟨w.heap.size, 0, none⟩ = some (.slice TA Tn Tc) ∧ w'.cell? ⟨w.heap.size, 2, none⟩ = some (.slice EA En Ec)) (by kernel_rfl) ⟨s0', s2'⟩ (fun hHeld => ?_)
            refine wpAnyH_take (i := 0) (oi := _) (v := ?_) rfl (by kernel_rfl) (by kernel_rfl) (by kernel_rfl) (fun _ _ _ h => h) (Or.inl ⟨by rfl, ?_⟩) hHeld ?_
            rotate_left
            · intro w hSw; obtain ⟨s0, s2⟩ := hSw; go_simp; try with_reducible rfl
            simp only [Act.put, List.getElem_toArray, List.getElem_cons_succ, List.getElem_cons_zero, List.setIfInBounds_toArray, List.set_cons_zero, List.set_cons_succ]
            refine wpAnyH_take (i := 1) (oi := _) (v := ?_) rfl (by kernel_rfl) (by kernel_rfl) (by kernel_rfl) (fun _ _ _ h => h) (Or.inl ⟨by rfl, ?_⟩) hHeld ?_
            rotate_left
            · intro w hSw; obtain ⟨s0, s2⟩ := hSw; go_simp; try with_reducible rfl
            simp only [Act.put, List.getElem_toArray, List.getElem_cons_succ, List.getElem_cons_zero, List.setIfInBounds_toArray, List.set_cons_zero, List.set_cons_succ]
            refine wpAnyH_take (i := 3) (oi := _) (v := ?_) rfl (by kernel_rfl) (by kernel_rfl) (by kernel_rfl) (fun _ _ _ h => h) (Or.inl ⟨by rfl, ?_⟩) hHeld ?_
            rotate_left
            · intro w hSw; obtain ⟨s0, s2⟩ := hSw; go_simp; try with_reducible rfl
            simp only [Act.put, List.getElem_toArray, List.getElem_cons_succ, List.getElem_cons_zero, List.setIfInBounds_toArray, List.set_cons_zero, List.set_cons_succ]
            refine wpAnyH_take (i := 4) (oi := _) (v := ?_) rfl (by kernel_rfl) (by kernel_rfl) (by kernel_rfl) (fun _ _ _ h => h) (Or.inl ⟨by rfl, ?_⟩) hHeld ?_
            rotate_left
            · intro w hSw; obtain ⟨s0, s2⟩ := hSw; go_simp; try with_reducible rfl
            simp only [Act.put, List.getElem_toArray, List.getElem_cons_succ, List.getElem_cons_zero, List.setIfInBounds_toArray, List.set_cons_zero, List.set_cons_succ]
            refine wpAnyH_take (i := 5) (oi := _) (v := ?_) rfl (by kernel_rfl) (by kernel_rfl) (by kernel_rfl) (fun _ _ _ h => h) (Or.inl ⟨by rfl, ?_⟩) hHeld ?_
            rotate_left
            · intro w hSw; obtain ⟨s0, s2⟩ := hSw; go_simp; try with_reducible rfl
            simp only [Act.put, List.getElem_toArray, List.getElem_cons_succ, List.getElem_cons_zero, List.setIfInBounds_toArray, List.set_cons_zero, List.set_cons_succ]
            refine wpAnyH_take (i := 7) (oi := _) (v := ?_) rfl (by kernel_rfl) (by kernel_rfl) (by kernel_rfl) (fun _ _ _ h => h) (Or.inl ⟨by rfl, ?_⟩) hHeld ?_
            rotate_left
            · intro w hSw; obtain ⟨s0, s2⟩ := hSw; go_simp; try with_reducible rfl
            simp only [Act.put, List.getElem_toArray, List.getElem_cons_succ, List.getElem_cons_zero, List.setIfInBounds_toArray, List.set_cons_zero, List.set_cons_succ]
            have hbb0 : Below w5.heap.size w5 w5.drew := (Below.refl _ _).drew
            generalize hwd : w5.drew = wd at *
            clear hwd
            refine wpAnyH_ready (rs := [2, 8]) (by kernel_rfl) (by simp) (AllReadyH.cons (o := _) rfl (fun K hK => ?_) (AllReadyH.cons (o := _) rfl (fun K hK => ?_) AllReadyH.nil))
            · go_simp
              refine (cu _ (HB5.out.trans (hbb0.mono HB5.out.size))).mono ?_
              rintro en wa0 ⟨vt, rfl, hot, hs0⟩
              obtain ⟨At, ctt, rfl⟩ := own_slice hot
              have hbb1 := hbb0.trans (hs0.mono hbb0.size)
              refine hK.out _ _ ⟨cell_below' hbb1 s0' hl0, cell_below' hbb1 s2' hl0⟩ (fun hHeld => ?_)
              clear hK K
              try simp only [Act.put, List.getElem_toArray, List.getElem_cons_succ, List.getElem_cons_zero, List.setIfInBounds_toArray, List.set_cons_zero, List.set_cons_succ]
              refine wpAnyH_ready (rs := [6, 8]) (by kernel_rfl) (by simp) (AllReadyH.cons (o := _) rfl (fun K hK => ?_) (AllReadyH.cons (o := _) rfl (fun K hK => ?_) AllReadyH.nil))
              · go_simp
                refine (co _ (HB5.out.trans (hbb1.mono HB5.out.size))).mono ?_
                rintro en wa1 ⟨ve, rfl, hoe, hs1⟩
                obtain ⟨Ae, cee, rfl⟩ := own_slice hoe
                have hbb2 := hbb1.trans (hs1.mono hbb1.size)
                have hdist := own_new hot hoe
                have hot := own_below hot hs1
                refine hK.out _ _ ⟨cell_below' hbb2 s0' hl0, cell_below' hbb2 s2' hl0⟩ (fun hHeld => ?_)
                clear hK K
                try simp only [Act.put, List.getElem_toArray, List.getElem_cons_succ, List.getElem_cons_zero, List.setIfInBounds_toArray, List.set_cons_zero, List.set_cons_succ]
                refine wpAnyH_ready (rs := [8]) (by kernel_rfl) (by simp) (AllReadyH.cons (o := _) rfl (fun K hK => ?_) AllReadyH.nil)
                · go_simp
                  have hs2 : Below wa1.heap.size wa1 (wa1.alloc (.cells #[.int .u64 e] 27)) := (Below.refl _ _).alloc (Nat.le_refl _) _
                  have hkl := Blk.new wa1 27 #[.int .u64 e]
                  have hbb3 := hbb2.trans (hs2.mono hbb2.size)
                  have hot := own_below hot hs2
                  have hoe := own_below hoe hs2
                  refine hK.out _ _ ⟨cell_below' hbb3 s0' hl0, cell_below' hbb3 s2' hl0⟩ (fun hHeld => ?_)
                  clear hK K
                  obtain ⟨wl2, hwl⟩ : ∃ wl2, wl2 = wa1.alloc (.cells #[.int .u64 e] 27) := ⟨_, rfl⟩
                  generalize wa1.alloc (.cells #[.int .u64 e] 27) = wm2 at *
                  clear hwl
                  try simp only [Act.put, List.getElem_toArray, List.getElem_cons_succ, List.getElem_cons_zero, List.setIfInBounds_toArray, List.set_cons_zero, List.set_cons_succ]
                  have hrl := reads_blk hkl
                  refine wpAnyH_ready (rs := [9]) (by kernel_rfl) (by simp) (AllReadyH.cons (o := _) rfl (fun K hK => ?_) AllReadyH.nil)
                  refine step_append_any _ rfl (.tmp 86) (.tmp 88) 22 rfl w5.heap.size 27 i0 _ 1 8 Try.underlying22 hi0 hz0 hz1 hz2 rfl (by omega) _ es.length (ids es) (by rfl) (base_le hoe ?_) _ _ 1 1 [.int .u64 e] (by rfl) hrl (by simp [Value.oneCell']) ?_ ?_ hbb3.size ?_
                  · first | exact Nat.le_refl _ | exact hbb1.size | exact hbb2.size
                  · have := HLN.out; simp only [maxLen]; omega
                  · have := HLN.out; omega
                  intro v9 w9 ho9 hg9 hat9
                  have hot9 := hot.kept hg9 hdist
                  have hb9' : Below w5.heap.size w5 w9 := own_grown_below hbb3 (base_le hoe (by first | exact Nat.le_refl _ | exact hbb1.size | exact hbb2.size)) hg9
                  have hc9 := own_other (own_below HC5.out hbb3) hoe (by decide) hg9
                  have hf9 : ∀ x ∈ F', ColFresh w9 w.heap.size x := fun x hx => colFresh_grown ((HF5.out x hx).below hbb3) hoe (by decide) hg9
                  have hk92 := HK52.out.below hb9' (by have := HL5.out; omega)
                  have hk93 := HK53.out.below hb9' HL5.out
                  obtain ⟨A9, c9, rfl⟩ := own_slice ho9
                  obtain ⟨⟨q0, q1, q2⟩, qf⟩ := blk_cells3 hk92
                  obtain ⟨p0, pf⟩ := blk_cell1 hk93
                  have qf0 := qf 0
                  have qf1 := qf 1
                  have qf2 := qf 2
                  have HOT9 := Lib.hid hot9
                  have HO9 := Lib.hid ho9
                  have HC9 := Lib.hid hc9
                  have HF9 := Lib.hid hf9
                  have HK92 := Lib.hid hk92
                  have HK93 := Lib.hid hk93
                  have HG9 := Lib.hid hb9'
                  clear qf hot9 ho9 hc9 hf9 hk92 hk93 hg9 hat9 hrl
                  refine hK.out _ _ ⟨cell_below' HG9.out s0' hl0, cell_below' HG9.out s2' hl0⟩ (fun hHeld => ?_)
                  clear hK K
                  try simp only [Act.put, List.getElem_toArray, List.getElem_cons_succ, List.getElem_cons_zero, List.setIfInBounds_toArray, List.set_cons_zero, List.set_cons_succ]
                  refine wpAnyH_take (i := 10) (oi := _) (v := ?_) rfl (by kernel_rfl) (by kernel_rfl) (by kernel_rfl) (fun _ _ _ h => h) (Or.inl ⟨by rfl, ?_⟩) hHeld ?_
                  rotate_left
                  · intro w hSw; obtain ⟨s0, s2⟩ := hSw; go_simp; try with_reducible rfl
                  simp only [Act.put, List.getElem_toArray, List.getElem_cons_succ, List.getElem_cons_zero, List.setIfInBounds_toArray, List.set_cons_zero, List.set_cons_succ]
                  refine wpAnyH_ready (rs := [11]) (by kernel_rfl) (by simp) (AllReadyH.cons (o := _) rfl (fun K hK => ?_) AllReadyH.nil)
                  go_simp
                  skip
                  refine hK.out _ _ ⟨far3 _ _ _ trivial (cell_below' HG9.out s0' hl0) (by omega), far3 _ _ _ trivial (cell_below' HG9.out s2' hl0) (by omega)⟩ (fun hHeld => ?_)
                  clear hK K
                  try simp only [Act.put, List.getElem_toArray, List.getElem_cons_succ, List.getElem_cons_zero, List.setIfInBounds_toArray, List.set_cons_zero, List.set_cons_succ]
                  refine wpAnyH_ready (rs := [12]) (by kernel_rfl) (by simp) (AllReadyH.cons (o := _) rfl (fun K hK => ?_) AllReadyH.nil)
                  go_simp
                  skip
                  refine hK.out _ _ ⟨farc _ (by omega) (far3 _ _ _ trivial (cell_below' HG9.out s0' hl0) (by omega)), farc _ (by omega) (far3 _ _ _ trivial (cell_below' HG9.out s2' hl0) (by omega))⟩ (fun hHeld => ?_)
                  clear hK K
                  try simp only [Act.put, List.getElem_toArray, List.getElem_cons_succ, List.getElem_cons_zero, List.setIfInBounds_toArray, List.set_cons_zero, List.set_cons_succ]
                  refine wpAnyH_done (by kernel_rfl) (NoPanic.normal ?_) _
                  go_wp2
                  have hD9 : w9.heap[D]? = some (.deferred (some [])) := (HG9.out.block D hDlt).trans HDD.out
                  have hDF := ((((KeepsOthers.setCell w9 ⟨w.heap.size + 2, 0, none⟩ (.slice At ty.length ctt)).trans (KeepsOthers.setCell _ ⟨w.heap.size + 2, 1, none⟩ (.slice Av F'.length cv))).trans (KeepsOthers.setCell _ ⟨w.heap.size + 2, 2, none⟩ (.slice A9 (es.length + 1) c9))).trans (KeepsOthers.setCell _ ⟨w.heap.size + 3, 0, none⟩ (.int .i64 0))).same D _ hD9 rfl
                  have hk2' := blk_put hDF (.deferred none) ((((HK92.out.set_ 0 (.slice At ty.length ctt)).set_ 1 (.slice Av F'.length cv)).set_ 2 (.slice A9 (es.length + 1) c9)).far (by simp) (.int .i64 0))
                  have hk3' := blk_put hDF (.deferred none) (((((HK93.out.far (p := ⟨w.heap.size + 2, 0, none⟩) (by simp) (.slice At ty.length ctt)).far (p := ⟨w.heap.size + 2, 1, none⟩) (by simp) (.slice Av F'.length cv)).far (p := ⟨w.heap.size + 2, 2, none⟩) (by simp) (.slice A9 (es.length + 1) c9)).set_ 0 (.int .i64 0)))
                  obtain ⟨⟨q0, q1, q2⟩, _⟩ := blk_cells3 hk2'
                  obtain ⟨p0, _⟩ := blk_cell1 hk3'
                  refine ⟨by simp, .inl ⟨_, _, rfl, run_takeDeferred hDF, ?_⟩⟩
                  refine ⟨.tuple #[.agg #[.slice At ty.length ctt, .slice Av F'.length cv, .slice A9 (es.length + 1) c9], .int .i64 0], by simp [results, Try.f16, go_sem, q0, q1, q2, p0], ?_⟩
                  show POST _ _
                  rw [HPO.out]
                  have hzz : w.heap.size ≤ w5.heap.size := by omega
                  have hes9 : w9.ownsRow w5.heap.size 27 1 (.slice A9 (es ++ [e]).length c9) (es ++ [e]).length (ids (es ++ [e])) := by
                    have h9 := HO9.out
                    rw [ids_app, List.length_append]
                    exact h9
                  have hfr : TabFresh w9 w.heap.size ⟨At, ty.length, ctt, ty, Av, F'.length, cv, F', A9, (es ++ [e]).length, c9, es ++ [e]⟩ :=
                    ⟨(idFresh_own HOT9.out HTW.out).base (by first | exact hzz | exact Nat.le_trans hzz hbb0.size | exact Nat.le_trans hzz hbb1.size | exact Nat.le_trans hzz hbb2.size), HC9.out, HF9.out, (idFresh_own hes9 (fun y hy => by rcases List.mem_append.1 hy with hy | hy; exact HEW.out y hy; rw [List.mem_singleton] at hy; subst hy; exact hwe)).base hzz⟩
                  have hfr2 := (hfr.set3 HK92.out (.slice At ty.length ctt) (.slice Av F'.length cv) (.slice A9 (es.length + 1) c9)).other (w' := _) (g := w.heap.size + 3) (fun i hi => Below.heap_setCell _ ⟨w.heap.size + 3, 0, none⟩ (.int .i64 0) _ (by simpa using hi)) (by simp) (noRow_blk (((HK93.out.far (p := ⟨w.heap.size + 2, 0, none⟩) (by simp) (.slice At ty.length ctt)).far (p := ⟨w.heap.size + 2, 1, none⟩) (by simp) (.slice Av F'.length cv)).far (p := ⟨w.heap.size + 2, 2, none⟩) (by simp) (.slice A9 (es.length + 1) c9)) (by decide))
                  have hfr3 := hfr2.other (w' := _) (g := D) (fun i hi => World.putObj_heap_other hi) (grownBy_putObj' _ D (.deferred none)).size (noRow_def hDF)
                  exact ⟨_, rfl, ⟨⟨At, ty.length, ctt, ty, Av, F'.length, cv, F', A9, (es ++ [e]).length, c9, es ++ [e]⟩, by unfold Tab.V; simp only [List.length_append, List.length_cons, List.length_nil], by unfold Tab.p; simp only; rw [HL3.out], hfr3⟩,
                    (Below.setCell (below_set3 (HV5.out.trans (HG9.out.mono hzz)) (by omega)) (by show w.heap.size ≤ w.heap.size + 3; omega) _).trans (belowK_b (w := w) (Nat.le_refl _) _ D _ _ (by have := hb9.size; have := hB.size; omega) hDF rfl rfl)⟩
              · go_simp
                have hs1 : Below wa0.heap.size wa0 (wa0.alloc (.cells #[.int .u64 e] 27)) := (Below.refl _ _).alloc (Nat.le_refl _) _
                have hkl := Blk.new wa0 27 #[.int .u64 e]
                have hbb2 := hbb1.trans (hs1.mono hbb1.size)
                have hot := own_below hot hs1
                refine hK.out _ _ ⟨cell_below' hbb2 s0' hl0, cell_below' hbb2 s2' hl0⟩ (fun hHeld => ?_)
                clear hK K
                obtain ⟨wl1, hwl⟩ : ∃ wl1, wl1 = wa0.alloc (.cells #[.int .u64 e] 27) := ⟨_, rfl⟩
                generalize wa0.alloc (.cells #[.int .u64 e] 27) = wm1 at *
                clear hwl
                try simp only [Act.put, List.getElem_toArray, List.getElem_cons_succ, List.getElem_cons_zero, List.setIfInBounds_toArray, List.set_cons_zero, List.set_cons_succ]
                refine wpAnyH_ready (rs := [6]) (by kernel_rfl) (by simp) (AllReadyH.cons (o := _) rfl (fun K hK => ?_) AllReadyH.nil)
                · go_simp
                  refine (co _ (HB5.out.trans (hbb2.mono HB5.out.size))).mono ?_
                  rintro en wa2 ⟨ve, rfl, hoe, hs2⟩
                  obtain ⟨Ae, cee, rfl⟩ := own_slice hoe
                  have hbb3 := hbb2.trans (hs2.mono hbb2.size)
                  have hdist := own_new hot hoe
                  have hot := own_below hot hs2
                  have hkl := blk_below hkl hs2
                  refine hK.out _ _ ⟨cell_below' hbb3 s0' hl0, cell_below' hbb3 s2' hl0⟩ (fun hHeld => ?_)
                  clear hK K
                  try simp only [Act.put, List.getElem_toArray, List.getElem_cons_succ, List.getElem_cons_zero, List.setIfInBounds_toArray, List.set_cons_zero, List.set_cons_succ]
                  have hrl := reads_blk hkl
                  refine wpAnyH_ready (rs := [9]) (by kernel_rfl) (by simp) (AllReadyH.cons (o := _) rfl (fun K hK => ?_) AllReadyH.nil)
                  refine step_append_any _ rfl (.tmp 86) (.tmp 88) 22 rfl w5.heap.size 27 i0 _ 1 8 Try.underlying22 hi0 hz0 hz1 hz2 rfl (by omega) _ es.length (ids es) (by rfl) (base_le hoe ?_) _ _ 1 1 [.int .u64 e] (by rfl) hrl (by simp [Value.oneCell']) ?_ ?_ hbb3.size ?_
                  · first | exact Nat.le_refl _ | exact hbb1.size | exact hbb2.size
                  · have := HLN.out; simp only [maxLen]; omega
                  · have := HLN.out; omega
                  intro v9 w9 ho9 hg9 hat9
                  have hot9 := hot.kept hg9 hdist
                  have hb9' : Below w5.heap.size w5 w9 := own_grown_below hbb3 (base_le hoe (by first | exact Nat.le_refl _ | exact hbb1.size | exact hbb2.size)) hg9
                  have hc9 := own_other (own_below HC5.out hbb3) hoe (by decide) hg9
                  have hf9 : ∀ x ∈ F', ColFresh w9 w.heap.size x := fun x hx => colFresh_grown ((HF5.out x hx).below hbb3) hoe (by decide) hg9
                  have hk92 := HK52.out.below hb9' (by have := HL5.out; omega)
                  have hk93 := HK53.out.below hb9' HL5.out
                  obtain ⟨A9, c9, rfl⟩ := own_slice ho9
                  obtain ⟨⟨q0, q1, q2⟩, qf⟩ := blk_cells3 hk92
                  obtain ⟨p0, pf⟩ := blk_cell1 hk93
                  have qf0 := qf 0
                  have qf1 := qf 1
                  have qf2 := qf 2
                  have HOT9 := Lib.hid hot9
                  have HO9 := Lib.hid ho9
                  have HC9 := Lib.hid hc9
                  have HF9 := Lib.hid hf9
                  have HK92 := Lib.hid hk92
                  have HK93 := Lib.hid hk93
                  have HG9 := Lib.hid hb9'
                  clear qf hot9 ho9 hc9 hf9 hk92 hk93 hg9 hat9 hrl
                  refine hK.out _ _ ⟨cell_below' HG9.out s0' hl0, cell_below' HG9.out s2' hl0⟩ (fun hHeld => ?_)
                  clear hK K
                  try simp only [Act.put, List.getElem_toArray, List.getElem_cons_succ, List.getElem_cons_zero, List.setIfInBounds_toArray, List.set_cons_zero, List.set_cons_succ]
                  refine wpAnyH_take (i := 10) (oi := _) (v := ?_) rfl (by kernel_rfl) (by kernel_rfl) (by kernel_rfl) (fun _ _ _ h => h) (Or.inl ⟨by rfl, ?_⟩) hHeld ?_
                  rotate_left
                  · intro w hSw; obtain ⟨s0, s2⟩ := hSw; go_simp; try with_reducible rfl
                  simp only [Act.put, List.getElem_toArray, List.getElem_cons_succ, List.getElem_cons_zero, List.setIfInBounds_toArray, List.set_cons_zero, List.set_cons_succ]
                  refine wpAnyH_ready (rs := [11]) (by kernel_rfl) (by simp) (AllReadyH.cons (o := _) rfl (fun K hK => ?_) AllReadyH.nil)
                  go_simp
                  skip
                  refine hK.out _ _ ⟨far3 _ _ _ trivial (cell_below' HG9.out s0' hl0) (by omega), far3 _ _ _ trivial (cell_below' HG9.out s2' hl0) (by omega)⟩ (fun hHeld => ?_)
                  clear hK K
                  try simp only [Act.put, List.getElem_toArray, List.getElem_cons_succ, List.getElem_cons_zero, List.setIfInBounds_toArray, List.set_cons_zero, List.set_cons_succ]
                  refine wpAnyH_ready (rs := [12]) (by kernel_rfl) (by simp) (AllReadyH.cons (o := _) rfl (fun K hK => ?_) AllReadyH.nil)
                  go_simp
                  skip
                  refine hK.out _ _ ⟨farc _ (by omega) (far3 _ _ _ trivial (cell_below' HG9.out s0' hl0) (by omega)), farc _ (by omega) (far3 _ _ _ trivial (cell_below' HG9.out s2' hl0) (by omega))⟩ (fun hHeld => ?_)
                  clear hK K
                  try simp only [Act.put, List.getElem_toArray, List.getElem_cons_succ, List.getElem_cons_zero, List.setIfInBounds_toArray, List.set_cons_zero, List.set_cons_succ]
                  refine wpAnyH_done (by kernel_rfl) (NoPanic.normal ?_) _
                  go_wp2
                  have hD9 : w9.heap[D]? = some (.deferred (some [])) := (HG9.out.block D hDlt).trans HDD.out
                  have hDF := ((((KeepsOthers.setCell w9 ⟨w.heap.size + 2, 0, none⟩ (.slice At ty.length ctt)).trans (KeepsOthers.setCell _ ⟨w.heap.size + 2, 1, none⟩ (.slice Av F'.length cv))).trans (KeepsOthers.setCell _ ⟨w.heap.size + 2, 2, none⟩ (.slice A9 (es.length + 1) c9))).trans (KeepsOthers.setCell _ ⟨w.heap.size + 3, 0, none⟩ (.int .i64 0))).same D _ hD9 rfl
                  have hk2' := blk_put hDF (.deferred none) ((((HK92.out.set_ 0 (.slice At ty.length ctt)).set_ 1 (.slice Av F'.length cv)).set_ 2 (.slice A9 (es.length + 1) c9)).far (by simp) (.int .i64 0))
                  have hk3' := blk_put hDF (.deferred none) (((((HK93.out.far (p := ⟨w.heap.size + 2, 0, none⟩) (by simp) (.slice At ty.length ctt)).far (p := ⟨w.heap.size + 2, 1, none⟩) (by simp) (.slice Av F'.length cv)).far (p := ⟨w.heap.size + 2, 2, none⟩) (by simp) (.slice A9 (es.length + 1) c9)).set_ 0 (.int .i64 0)))
                  obtain ⟨⟨q0, q1, q2⟩, _⟩ := blk_cells3 hk2'
                  obtain ⟨p0, _⟩ := blk_cell1 hk3'
                  refine ⟨by simp, .inl ⟨_, _, rfl, run_takeDeferred hDF, ?_⟩⟩
                  refine ⟨.tuple #[.agg #[.slice At ty.length ctt, .slice Av F'.length cv, .slice A9 (es.length + 1) c9], .int .i64 0], by simp [results, Try.f16, go_sem, q0, q1, q2, p0], ?_⟩
                  show POST _ _
                  rw [HPO.out]
                  have hzz : w.heap.size ≤ w5.heap.size := by omega
                  have hes9 : w9.ownsRow w5.heap.size 27 1 (.slice A9 (es ++ [e]).length c9) (es ++ [e]).length (ids (es ++ [e])) := by
                    have h9 := HO9.out
                    rw [ids_app, List.length_append]
                    exact h9
                  have hfr : TabFresh w9 w.heap.size ⟨At, ty.length, ctt, ty, Av, F'.length, cv, F', A9, (es ++ [e]).length, c9, es ++ [e]⟩ :=
                    ⟨(idFresh_own HOT9.out HTW.out).base (by first | exact hzz | exact Nat.le_trans hzz hbb0.size | exact Nat.le_trans hzz hbb1.size | exact Nat.le_trans hzz hbb2.size), HC9.out, HF9.out, (idFresh_own hes9 (fun y hy => by rcases List.mem_append.1 hy with hy | hy; exact HEW.out y hy; rw [List.mem_singleton] at hy; subst hy; exact hwe)).base hzz⟩
                  have hfr2 := (hfr.set3 HK92.out (.slice At ty.length ctt) (.slice Av F'.length cv) (.slice A9 (es.length + 1) c9)).other (w' := _) (g := w.heap.size + 3) (fun i hi => Below.heap_setCell _ ⟨w.heap.size + 3, 0, none⟩ (.int .i64 0) _ (by simpa using hi)) (by simp) (noRow_blk (((HK93.out.far (p := ⟨w.heap.size + 2, 0, none⟩) (by simp) (.slice At ty.length ctt)).far (p := ⟨w.heap.size + 2, 1, none⟩) (by simp) (.slice Av F'.length cv)).far (p := ⟨w.heap.size + 2, 2, none⟩) (by simp) (.slice A9 (es.length + 1) c9)) (by decide))
                  have hfr3 := hfr2.other (w' := _) (g := D) (fun i hi => World.putObj_heap_other hi) (grownBy_putObj' _ D (.deferred none)).size (noRow_def hDF)
                  exact ⟨_, rfl, ⟨⟨At, ty.length, ctt, ty, Av, F'.length, cv, F', A9, (es ++ [e]).length, c9, es ++ [e]⟩, by unfold Tab.V; simp only [List.length_append, List.length_cons, List.length_nil], by unfold Tab.p; simp only; rw [HL3.out], hfr3⟩,
                    (Below.setCell (below_set3 (HV5.out.trans (HG9.out.mono hzz)) (by omega)) (by show w.heap.size ≤ w.heap.size + 3; omega) _).trans (belowK_b (w := w) (Nat.le_refl _) _ D _ _ (by have := hb9.size; have := hB.size; omega) hDF rfl rfl)⟩
            · go_simp
              have hs0 : Below wd.heap.size wd (wd.alloc (.cells #[.int .u64 e] 27)) := (Below.refl _ _).alloc (Nat.le_refl _) _
              have hkl := Blk.new wd 27 #[.int .u64 e]
              have hbb1 := hbb0.trans (hs0.mono hbb0.size)
              refine hK.out _ _ ⟨cell_below' hbb1 s0' hl0, cell_below' hbb1 s2' hl0⟩ (fun hHeld => ?_)
              clear hK K
              obtain ⟨wl0, hwl⟩ : ∃ wl0, wl0 = wd.alloc (.cells #[.int .u64 e] 27) := ⟨_, rfl⟩
              generalize wd.alloc (.cells #[.int .u64 e] 27) = wm0 at *
              clear hwl
              try simp only [Act.put, List.getElem_toArray, List.getElem_cons_succ, List.getElem_cons_zero, List.setIfInBounds_toArray, List.set_cons_zero, List.set_cons_succ]
              refine wpAnyH_ready (rs := [2]) (by kernel_rfl) (by simp) (AllReadyH.cons (o := _) rfl (fun K hK => ?_) AllReadyH.nil)
              · go_simp
                refine (cu _ (HB5.out.trans (hbb1.mono HB5.out.size))).mono ?_
                rintro en wa1 ⟨vt, rfl, hot, hs1⟩
                obtain ⟨At, ctt, rfl⟩ := own_slice hot
                have hbb2 := hbb1.trans (hs1.mono hbb1.size)
                have hkl := blk_below hkl hs1
                refine hK.out _ _ ⟨cell_below' hbb2 s0' hl0, cell_below' hbb2 s2' hl0⟩ (fun hHeld => ?_)
                clear hK K
                try simp only [Act.put, List.getElem_toArray, List.getElem_cons_succ, List.getElem_cons_zero, List.setIfInBounds_toArray, List.set_cons_zero, List.set_cons_succ]
                refine wpAnyH_ready (rs := [6]) (by kernel_rfl) (by simp) (AllReadyH.cons (o := _) rfl (fun K hK => ?_) AllReadyH.nil)
                · go_simp
                  refine (co _ (HB5.out.trans (hbb2.mono HB5.out.size))).mono ?_
                  rintro en wa2 ⟨ve, rfl, hoe, hs2⟩
                  obtain ⟨Ae, cee, rfl⟩ := own_slice hoe
                  have hbb3 := hbb2.trans (hs2.mono hbb2.size)
                  have hdist := own_new hot hoe
                  have hot := own_below hot hs2
                  have hkl := blk_below hkl hs2
                  refine hK.out _ _ ⟨cell_below' hbb3 s0' hl0, cell_below' hbb3 s2' hl0⟩ (fun hHeld => ?_)
                  clear hK K
                  try simp only [Act.put, List.getElem_toArray, List.getElem_cons_succ, List.getElem_cons_zero, List.setIfInBounds_toArray, List.set_cons_zero, List.set_cons_succ]
                  have hrl := reads_blk hkl
                  refine wpAnyH_ready (rs := [9]) (by kernel_rfl) (by simp) (AllReadyH.cons (o := _) rfl (fun K hK => ?_) AllReadyH.nil)
                  refine step_append_any _ rfl (.tmp 86) (.tmp 88) 22 rfl w5.heap.size 27 i0 _ 1 8 Try.underlying22 hi0 hz0 hz1 hz2 rfl (by omega) _ es.length (ids es) (by rfl) (base_le hoe ?_) _ _ 1 1 [.int .u64 e] (by rfl) hrl (by simp [Value.oneCell']) ?_ ?_ hbb3.size ?_
                  · first | exact Nat.le_refl _ | exact hbb1.size | exact hbb2.size
                  · have := HLN.out; simp only [maxLen]; omega
                  · have := HLN.out; omega
                  intro v9 w9 ho9 hg9 hat9
                  have hot9 := hot.kept hg9 hdist
                  have hb9' : Below w5.heap.size w5 w9 := own_grown_below hbb3 (base_le hoe (by first | exact Nat.le_refl _ | exact hbb1.size | exact hbb2.size)) hg9
                  have hc9 := own_other (own_below HC5.out hbb3) hoe (by decide) hg9
                  have hf9 : ∀ x ∈ F', ColFresh w9 w.heap.size x := fun x hx => colFresh_grown ((HF5.out x hx).below hbb3) hoe (by decide) hg9
                  have hk92 := HK52.out.below hb9' (by have := HL5.out; omega)
                  have hk93 := HK53.out.below hb9' HL5.out
                  obtain ⟨A9, c9, rfl⟩ := own_slice ho9
                  obtain ⟨⟨q0, q1, q2⟩, qf⟩ := blk_cells3 hk92
                  obtain ⟨p0, pf⟩ := blk_cell1 hk93
                  have qf0 := qf 0
                  have qf1 := qf 1
                  have qf2 := qf 2
                  have HOT9 := Lib.hid hot9
                  have HO9 := Lib.hid ho9
                  have HC9 := Lib.hid hc9
                  have HF9 := Lib.hid hf9
                  have HK92 := Lib.hid hk92
                  have HK93 := Lib.hid hk93
                  have HG9 := Lib.hid hb9'
                  clear qf hot9 ho9 hc9 hf9 hk92 hk93 hg9 hat9 hrl
                  refine hK.out _ _ ⟨cell_below' HG9.out s0' hl0, cell_below' HG9.out s2' hl0⟩ (fun hHeld => ?_)
                  clear hK K
                  try simp only [Act.put, List.getElem_toArray, List.getElem_cons_succ, List.getElem_cons_zero, List.setIfInBounds_toArray, List.set_cons_zero, List.set_cons_succ]
                  refine wpAnyH_take (i := 10) (oi := _) (v := ?_) rfl (by kernel_rfl) (by kernel_rfl) (by kernel_rfl) (fun _ _ _ h => h) (Or.inl ⟨by rfl, ?_⟩) hHeld ?_
                  rotate_left
                  · intro w hSw; obtain ⟨s0, s2⟩ := hSw; go_simp; try with_reducible rfl
                  simp only [Act.put, List.getElem_toArray, List.getElem_cons_succ, List.getElem_cons_zero, List.setIfInBounds_toArray, List.set_cons_zero, List.set_cons_succ]
                  refine wpAnyH_ready (rs := [11]) (by kernel_rfl) (by simp) (AllReadyH.cons (o := _) rfl (fun K hK => ?_) AllReadyH.nil)
                  go_simp
                  skip
                  refine hK.out _ _ ⟨far3 _ _ _ trivial (cell_below' HG9.out s0' hl0) (by omega), far3 _ _ _ trivial (cell_below' HG9.out s2' hl0) (by omega)⟩ (fun hHeld => ?_)
                  clear hK K
                  try simp only [Act.put, List.getElem_toArray, List.getElem_cons_succ, List.getElem_cons_zero, List.setIfInBounds_toArray, List.set_cons_zero, List.set_cons_succ]
                  refine wpAnyH_ready (rs := [12]) (by kernel_rfl) (by simp) (AllReadyH.cons (o := _) rfl (fun K hK => ?_) AllReadyH.nil)
                  go_simp
                  skip
                  refine hK.out _ _ ⟨farc _ (by omega) (far3 _ _ _ trivial (cell_below' HG9.out s0' hl0) (by omega)), farc _ (by omega) (far3 _ _ _ trivial (cell_below' HG9.out s2' hl0) (by omega))⟩ (fun hHeld => ?_)
                  clear hK K
                  try simp only [Act.put, List.getElem_toArray, List.getElem_cons_succ, List.getElem_cons_zero, List.setIfInBounds_toArray, List.set_cons_zero, List.set_cons_succ]
                  refine wpAnyH_done (by kernel_rfl) (NoPanic.normal ?_) _
                  go_wp2
                  have hD9 : w9.heap[D]? = some (.deferred (some [])) := (HG9.out.block D hDlt).trans HDD.out
                  have hDF := ((((KeepsOthers.setCell w9 ⟨w.heap.size + 2, 0, none⟩ (.slice At ty.length ctt)).trans (KeepsOthers.setCell _ ⟨w.heap.size + 2, 1, none⟩ (.slice Av F'.length cv))).trans (KeepsOthers.setCell _ ⟨w.heap.size + 2, 2, none⟩ (.slice A9 (es.length + 1) c9))).trans (KeepsOthers.setCell _ ⟨w.heap.size + 3, 0, none⟩ (.int .i64 0))).same D _ hD9 rfl
                  have hk2' := blk_put hDF (.deferred none) ((((HK92.out.set_ 0 (.slice At ty.length ctt)).set_ 1 (.slice Av F'.length cv)).set_ 2 (.slice A9 (es.length + 1) c9)).far (by simp) (.int .i64 0))
                  have hk3' := blk_put hDF (.deferred none) (((((HK93.out.far (p := ⟨w.heap.size + 2, 0, none⟩) (by simp) (.slice At ty.length ctt)).far (p := ⟨w.heap.size + 2, 1, none⟩) (by simp) (.slice Av F'.length cv)).far (p := ⟨w.heap.size + 2, 2, none⟩) (by simp) (.slice A9 (es.length + 1) c9)).set_ 0 (.int .i64 0)))
                  obtain ⟨⟨q0, q1, q2⟩, _⟩ := blk_cells3 hk2'
                  obtain ⟨p0, _⟩ := blk_cell1 hk3'
                  refine ⟨by simp, .inl ⟨_, _, rfl, run_takeDeferred hDF, ?_⟩⟩
                  refine ⟨.tuple #[.agg #[.slice At ty.length ctt, .slice Av F'.length cv, .slice A9 (es.length + 1) c9], .int .i64 0], by simp [results, Try.f16, go_sem, q0, q1, q2, p0], ?_⟩
                  show POST _ _
                  rw [HPO.out]
                  have hzz : w.heap.size ≤ w5.heap.size := by omega
                  have hes9 : w9.ownsRow w5.heap.size 27 1 (.slice A9 (es ++ [e]).length c9) (es ++ [e]).length (ids (es ++ [e])) := by
                    have h9 := HO9.out
                    rw [ids_app, List.length_append]
                    exact h9
                  have hfr : TabFresh w9 w.heap.size ⟨At, ty.length, ctt, ty, Av, F'.length, cv, F', A9, (es ++ [e]).length, c9, es ++ [e]⟩ :=
                    ⟨(idFresh_own HOT9.out HTW.out).base (by first | exact hzz | exact Nat.le_trans hzz hbb0.size | exact Nat.le_trans hzz hbb1.size | exact Nat.le_trans hzz hbb2.size), HC9.out, HF9.out, (idFresh_own hes9 (fun y hy => by rcases List.mem_append.1 hy with hy | hy; exact HEW.out y hy; rw [List.mem_singleton] at hy; subst hy; exact hwe)).base hzz⟩
                  have hfr2 := (hfr.set3 HK92.out (.slice At ty.length ctt) (.slice Av F'.length cv) (.slice A9 (es.length + 1) c9)).other (w' := _) (g := w.heap.size + 3) (fun i hi => Below.heap_setCell _ ⟨w.heap.size + 3, 0, none⟩ (.int .i64 0) _ (by simpa using hi)) (by simp) (noRow_blk (((HK93.out.far (p := ⟨w.heap.size + 2, 0, none⟩) (by simp) (.slice At ty.length ctt)).far (p := ⟨w.heap.size + 2, 1, none⟩) (by simp) (.slice Av F'.length cv)).far (p := ⟨w.heap.size + 2, 2, none⟩) (by simp) (.slice A9 (es.length + 1) c9)) (by decide))
                  have hfr3 := hfr2.other (w' := _) (g := D) (fun i hi => World.putObj_heap_other hi) (grownBy_putObj' _ D (.deferred none)).size (noRow_def hDF)
                  exact ⟨_, rfl, ⟨⟨At, ty.length, ctt, ty, Av, F'.length, cv, F', A9, (es ++ [e]).length, c9, es ++ [e]⟩, by unfold Tab.V; simp only [List.length_append, List.length_cons, List.length_nil], by unfold Tab.p; simp only; rw [HL3.out], hfr3⟩,
                    (Below.setCell (below_set3 (HV5.out.trans (HG9.out.mono hzz)) (by omega)) (by show w.heap.size ≤ w.heap.size + 3; omega) _).trans (belowK_b (w := w) (Nat.le_refl _) _ D _ _ (by have := hb9.size; have := hB.size; omega) hDF rfl rfl)⟩
    · have hE : tpuE t e G = 2 := by unfold tpuE; rw [hb0, if_pos rfl, if_neg hkd]
      have hP : tpuP t e G = noT := by unfold tpuP; rw [hE, if_neg (by decide)]
      rw [hE, hP]
      have hkb := kd_bd e
      have hways : ((kd e != 1) = true) ∨ (kd e = 1 ∧ ((vn : Int) != (t.Cn : Int)) = true) := by
        by_cases h1 : kd e = 1
        · refine .inr ⟨h1, ?_⟩
          have : G.length ≠ t.F.length := fun h2 => hkd ⟨h1, h2⟩
          simp; omega
        · exact .inl (by simpa using h1)
      clear hkd
      generalize kd e = ke at *
      generalize pa e = ip at *
      generalize pb e = ipb at *
      unfold Tab.V at ct ⊢
      obtain ⟨TA, Tn, Tc, ty, CA, Cn, Cc, F, EA, En, Ec, es⟩ := t
      simp only at *
      clear hW0 hsz h hs k0 k1 k2 k3 hT hlen hGl hb0 hE hP zz hR hG hn
      rcases hways with h1 | ⟨h1, h2⟩
      all_goals
        try subst h1
        go_enter Try.func16, Try.ntmps16
        go_upto_region 1 with fail
        rw [← HW.out]
        go_wp2_with (first
          | (go_at_call 64; ((with_reducible refine (cp _).mono ?_); rintro en w2 ⟨rfl, hb2⟩; have hb3 := hb2.alloc hb2.size (.cells #[.int .i64 ip] 3); obtain ⟨z0, z1, z2, z3, zb⟩ := HZ.out _ hb3; obtain ⟨⟨z0, y1, y2⟩, _⟩ := blk_cells3 z0; clear z1 z2 z3))
          | (go_at_call 34; ((with_reducible refine (ct _ hb3).mono ?_); rintro en w4 ⟨rfl, hb4⟩; have hb5 := hb3.trans (hb4.mono hb3.size)))
          | (go_at_call 65; ((with_reducible refine (ck _).mono ?_); rintro en w6 ⟨rfl, hb6⟩; have hb7 := hb5.trans (hb6.mono hb5.size); obtain ⟨u0, u1, u2, u3, ub⟩ := HZ.out _ hb7; obtain ⟨⟨r0, r1, r2⟩, _⟩ := blk_cells3 u0; obtain ⟨l0, _⟩ := blk_cell1 u1; obtain ⟨⟨q0, q1, q2⟩, qf⟩ := blk_cells3 u2; obtain ⟨p0, pf⟩ := blk_cell1 u3; have qf0 := qf 0; have qf1 := qf 1; have qf2 := qf 2; clear u0 u1 u2 u3 qf))
          | fail)
        refine bodyPost_ret (v := .tuple #[.agg #[.slice none 0 0, .slice none 0 0, .slice none 0 0], .int .i64 2]) (by simp [results, Try.results16, go_sem, *]) rfl ?_
        exact setR_nil 2 (Below.setCell (below_set3 ub (by omega)) (by show w.heap.size ≤ w.heap.size + 3; omega) _)
end Go.Proofs.Ytbcbknajhdaneaa
namespace Go.Proofs.Ytbcbknajhdaneaa
open Go.RowKit
set_option linter.unusedVariables false
set_option linter.unusedSimpArgs false
def rowL (F : List Col) (k : Nat) : List (List Int) := F.map fun x => chunk x.l x.W.toNat k
theorem rwFresh_grown {w w' : World} {base b n size : Nat} {x : Rw} {e : TypeId} {v : Value} {xs : List Value} (h : RwFresh w base x) (ho : w.ownsRow b e size v n xs) (hne : e ≠ 26) (hg : w.grownBy w' v.ownBlock) : RwFresh w' base x := colFresh_grown h ho hne hg
end Go.Proofs.Ytbcbknajhdaneaa
namespace Go.Proofs.Ytbcbknajhdaneaa
open Go.RowKit
set_option linter.unusedVariables false
set_option linter.unusedSimpArgs false
section
variable {P : Program} (w : World)
theorem append_types (t t2 ty e e2 : TypeId) (ht : P.underlying t = some (.slice e)) (ht2 : P.underlying t2 = some (.slice e2)) (b : Option Addr) (n c : Nat) (x : Value) : (Builtin.append_ #[t, t2] ty #[.slice b n c, x]).run P w = (Builtin.append_ #[t, t] ty #[.slice b n c, x]).run P w := by
  simp [Builtin.append_, run_underlying ht, run_underlying ht2]
theorem wp_append_two {o : Oper} {a : Act} {K : Act → World → Prop} {Q : Exit → Act → World → Prop} (s x : Operand) (t t2 e2 : TypeId)
    (ho : o.op = .call { callee := .builtin .append, args := #[s, x], argTypes := #[t, t2] }) (ht2 : P.underlying t2 = some (.slice e2))
    (base : Nat) (e : TypeId) (i : TypeInfo) (z : Value) (size bytes : Nat) (ht : P.underlying t = some (.slice e)) (hi : P.info? e = some i) (hz : i.zero = some z)
    (hsize : i.size = size) (hby : i.bytes = bytes) (hzs : z.cells.size = size) (hsz : 0 < size)
    (v : Value) (n : Nat) (xs : List Value) (hs : a.eval s = v) (hown : w.ownsRow base e size v n xs)
    (B : Nat) (A : Option Addr) (m c : Nat) (news : List Value) (hx : a.eval x = .slice A m c) (hr : Reads w B size A m news) (h1 : ∀ u ∈ news, u.oneCell' = true)
    (h63 : n + m ≤ maxLen) (hbytes : (n + m) * bytes ≤ 140737488355328) (hbase : base ≤ w.heap.size)
    (h : ∀ v' w', w'.ownsRow base e size v' (n + m) (xs ++ news) → w.grownBy w' v.ownBlock → (v'.ownBlock = v.ownBlock ∨ v'.ownBlock = some w.heap.size) → K (a.put o.dst v') w') : o.wp P a w K Q := by
  obtain ⟨v', w', hrun, h2, h3, h4⟩ := run_append_any (P := P) w base t o.type e i z size bytes ht hi hz hsize hby hzs hsz v n xs hown B A m c news hr h1 h63 hbytes hbase
  obtain ⟨Av, cv, hv⟩ : ∃ A c, v = .slice A n c := by
    rcases hown.2 with ⟨rfl, rfl⟩ | ⟨g, cap, cur, rfl, _⟩
    · exact ⟨_, _, rfl⟩
    · exact ⟨_, _, rfl⟩
  subst hv
  unfold Oper.wp execOp
  simp only [ho, resolve, invoke, builtin, Sem.run_bind, Sem.run_pure, Result.andThen_ok, List.map_toArray, List.map_cons, List.map_nil, hs, hx, append_types w t t2 o.type e e2 ht ht2, hrun]
  exact h v' w' h2 h3 h4
theorem step_append_two {ops : Array Oper} {o : Oper} {a : Act} {K : Act → World → Prop} {Q : Exit → Act → World → Prop} {E : Prop} (hgd : o.guard = none) (s x : Operand) (t t2 e2 : TypeId)
    (ho : o.op = .call { callee := .builtin .append, args := #[s, x], argTypes := #[t, t2] }) (ht2 : P.underlying t2 = some (.slice e2))
    (base : Nat) (e : TypeId) (i : TypeInfo) (z : Value) (size bytes : Nat) (ht : P.underlying t = some (.slice e)) (hi : P.info? e = some i) (hz : i.zero = some z)
    (hsize : i.size = size) (hby : i.bytes = bytes) (hzs : z.cells.size = size) (hsz : 0 < size)
    (v : Value) (n : Nat) (xs : List Value) (hs : a.eval s = v) (hown : w.ownsRow base e size v n xs)
    (B : Nat) (A : Option Addr) (m c : Nat) (news : List Value) (hx : a.eval x = .slice A m c) (hr : Reads w B size A m news) (h1 : ∀ u ∈ news, u.oneCell' = true)
    (h63 : n + m ≤ maxLen) (hbytes : (n + m) * bytes ≤ 140737488355328) (hbase : base ≤ w.heap.size)
    (h : ∀ v' w', w'.ownsRow base e size v' (n + m) (xs ++ news) → w.grownBy w' v.ownBlock → (v'.ownBlock = v.ownBlock ∨ v'.ownBlock = some w.heap.size) → K (a.put o.dst v') w') :
    if Region.wanted o (yielded ops a.tmps) = true then Oper.wp P o a w K Q else E := by
  have hw : Region.wanted o (yielded ops a.tmps) = true := by simp [Region.wanted, hgd]
  rw [if_pos hw]
  exact wp_append_two w s x t t2 e2 ho ht2 base e i z size bytes ht hi hz hsize hby hzs hsz v n xs hs hown B A m c news hx hr h1 h63 hbytes hbase h
end
/-- a row of rows of words: its slice, and what it reads -/
structure Gr where
  A : Option Addr
  n : Nat
  c : Nat
  G : List Rw
deriving Inhabited
def Gr.V (x : Gr) : Value := .slice x.A x.n x.c
def grs (L : List Gr) : List Value := L.map Gr.V
theorem grs_len (L : List Gr) : (grs L).length = L.length := by unfold grs; rw [List.length_map]
def Gr.vl (x : Gr) : List (List Int) := x.G.map Rw.l
def vls (L : List Gr) : List (List (List Int)) := L.map Gr.vl
structure GrOk (w : World) (B : Nat) (x : Gr) : Prop where
  r : Reads w B 1 x.A x.n (rws x.G)
  c : x.n ≤ x.c ∧ x.c ≤ maxLen
  g : ∀ v ∈ x.G, RwOk w B v
theorem GrOk.keep {w w' : World} {B : Nat} {x : Gr} (h : GrOk w B x) (hb : Below B w w') : GrOk w' B x := ⟨h.r.below hb, h.c, fun v hv => (h.g v hv).keep hb⟩
theorem GrOk.more {w : World} {B B' : Nat} {x : Gr} (h : GrOk w B x) (hb : B ≤ B') : GrOk w B' x := ⟨h.r.more hb, h.c, fun v hv => (h.g v hv).more hb⟩
theorem grs_cell {w : World} {B n : Nat} {A : Option Addr} {L : List Gr} (h : Reads w B 1 A n (grs L)) {k : Nat} {x : Gr} (hk : L[k]? = some x) :
    ∃ b off, A = some ⟨b, off, none⟩ ∧ b < B ∧ w.cell? ⟨b, off + k, none⟩ = some (.slice x.A x.n x.c) :=
  rws_cell (G := L.map fun g => ⟨g.A, g.n, g.c, []⟩) (x := ⟨x.A, x.n, x.c, []⟩) (by unfold rws; rw [List.map_map]; exact h) (by rw [List.getElem?_map, hk]; rfl)
/-- the words of column k, in rows of values -/
def colOf (R : List (List (List Int))) (k : Nat) : List Int := R.flatMap fun r => match r[k]? with | some v => v | none => []
theorem colOf_take {L : List Gr} {j k : Nat} {x : Gr} {v : Rw} (h : L[j]? = some x) (hv : x.G[k]? = some v) : colOf (vls (L.take (j + 1))) k = colOf (vls (L.take j)) k ++ v.l := by
  unfold vls colOf
  rw [take_snoc h, List.map_append, List.flatMap_append]
  congr 1
  simp [Gr.vl, hv]
theorem colOf_le (R : List (List (List Int))) (k j : Nat) : (colOf (R.take j) k).length ≤ (colOf R k).length := by
  have h : colOf R k = colOf (R.take j) k ++ colOf (R.drop j) k := by unfold colOf; rw [← List.flatMap_append, List.take_append_drop]
  rw [h, List.length_append]; omega
theorem vls_take (L : List Gr) (j : Nat) : vls (L.take j) = (vls L).take j := by unfold vls; rw [List.map_take]
def ofL (R : List (List (List Int))) (E : Int) : Nat → List Int → List PC
  | _, [] => []
  | k, n :: ws => (n, E, colOf R k) :: ofL R E (k + 1) ws
theorem ofL_snoc (R : List (List (List Int))) (E : Int) : ∀ (F : List Int) (b : Nat) (x : Int), ofL R E b (F ++ [x]) = ofL R E b F ++ [(x, E, colOf R (b + F.length))]
  | [], _, _ => rfl
  | y :: F, b, x => by
    show _ :: ofL R E (b + 1) (F ++ [x]) = _ :: (ofL R E (b + 1) F ++ _)
    rw [ofL_snoc R E F (b + 1) x, List.length_cons, Nat.add_right_comm, Nat.add_assoc]
theorem ofL_take (R : List (List (List Int))) (E : Int) {F : List Int} {k : Nat} {x : Int} (h : F[k]? = some x) : ofL R E 0 (F.take (k + 1)) = ofL R E 0 (F.take k) ++ [(x, E, colOf R k)] := by
  have hk := (List.getElem?_eq_some_iff.1 h).1
  rw [take_snoc h, ofL_snoc, Nat.zero_add, List.length_take, Nat.min_eq_left (by omega)]
theorem ofL_len (R : List (List (List Int))) (E : Int) : ∀ (F : List Int) (b : Nat), (ofL R E b F).length = F.length
  | [], _ => rfl
  | x :: F, b => by show (ofL R E (b + 1) F).length + 1 = F.length + 1; rw [ofL_len R E F]
theorem far1 {w : World} {g b i j : Nat} {u : Value} (a0 : Value) (hne : b ≠ g) (h : w.cell? ⟨b, i, none⟩ = some u) : (w.setCell ⟨g, j, none⟩ a0).cell? ⟨b, i, none⟩ = some u :=
  (World.cell?_setCell_other w _ _ a0 (fun ee => hne (by injection ee with e1 _ _; exact e1.symm))).trans h
theorem grown_set1 (w : World) (g i : Nat) (a : Value) : w.grownBy (w.setCell ⟨g, i, none⟩ a) (some g) := by
  refine ⟨rfl, rfl, rfl, by simp, fun k _ hk => ?_⟩
  have hne : k ≠ g := fun e => hk (by rw [e])
  rw [Below.heap_setCell _ _ _ _ (by simpa using hne)]
theorem blk_grown_own {w w' : World} {g b n size : Nat} {t e : TypeId} {cs : Array Value} {v : Value} {xs : List Value} (h : Blk w g t cs) (ho : w.ownsRow b e size v n xs) (hne : e ≠ t) (hg : w.grownBy w' v.ownBlock) : Blk w' g t cs :=
  h.grown hg fun e => own_blk_ne ho h hne e.symm
theorem colOf_word {L : List Gr} {w : World} {B : Nat} (h : ∀ g ∈ L, GrOk w B g) (k : Nat) : ∀ y ∈ colOf (vls L) k, Word y := by
  intro y hy
  unfold colOf vls at hy
  obtain ⟨r, hr, hy⟩ := List.mem_flatMap.1 hy
  obtain ⟨g, hg, rfl⟩ := List.mem_map.1 hr
  unfold Gr.vl at hy
  rw [List.getElem?_map] at hy
  cases hv : g.G[k]? with
  | none => rw [hv] at hy; simp at hy
  | some v => rw [hv] at hy; exact ((h g hg).g v (List.mem_of_getElem? hv)).2.2.2 y hy
/-- the table of the document's Of -/
def OfR (ps : List PC) (a c : Value) (w : World) (e : Ending) (w' : World) : Prop :=
  ∃ v F, e = .returned (.agg #[a, v, c]) ∧ w'.ownsRow w.heap.size 68 3 v F.length (cols F) ∧ F.map Col.p = ps ∧ (∀ x ∈ F, ColFresh w' w.heap.size x) ∧ Below w.heap.size w w'
set_option maxRecDepth 100000 in
set_option maxHeartbeats 8000000 in
theorem of_any (TA : Option Addr) (Tn Tc : Nat) (NA : Option Addr) (nn nc : Nat) (ws : List Int) (EA : Option Addr) (En Ec : Nat) (LA : Option Addr) (ln lc : Nat) (L : List Gr) (w : World)
    (hN : Reads w w.heap.size 1 NA nn (ins ws)) (hL : Reads w w.heap.size 1 LA ln (grs L)) (hG : ∀ g ∈ L, GrOk w w.heap.size g) (hk : ∀ g ∈ L, nn ≤ g.G.length) (hs : ∀ k, (colOf (vls L) k).length ≤ 8589934592) (hnn : nn ≤ 65536) (hln : ln ≤ 8589934592) (hEn : En ≤ 8589934592) :
    Calls Try.prog 47 #[.slice TA Tn Tc, .slice NA nn nc, .slice EA En Ec, .slice LA ln lc] w (OfR (ofL (vls L) (En : Int) 0 ws) (.slice TA Tn Tc) (.slice EA En Ec) w) := by
  obtain ⟨i0, hi0, hz0, hz1, hz2⟩ := info_parts info_u64
  obtain ⟨i1, hj0, hj1, hj2, hj3⟩ := info_parts info_col
  have hwl : ws.length = nn := by have := hN.1; unfold ins at this; rw [List.length_map] at this; omega
  have hLl : L.length = ln := by have := hL.1; rw [grs_len] at this; omega
  obtain ⟨W0, hW0⟩ : ∃ W0, W0 = (w.alloc (.cells #[.slice none 0 0, .slice none 0 0, .slice none 0 0] 25)).alloc (.cells #[.slice TA Tn Tc, .slice none 0 0, .slice EA En Ec] 25) := ⟨_, rfl⟩
  have hB : Below w.heap.size w W0 := by rw [hW0]; exact ((Below.refl w.heap.size w).alloc (Nat.le_refl _) _).alloc (by simp) _
  have hsz : W0.heap.size = w.heap.size + 2 := by rw [hW0]; simp
  have k0 : Blk W0 w.heap.size 25 #[.slice none 0 0, .slice none 0 0, .slice none 0 0] := by rw [hW0]; exact (Blk.new w _ _).alloc _
  have k1 : Blk W0 (w.heap.size + 1) 25 #[.slice TA Tn Tc, .slice none 0 0, .slice EA En Ec] := by
    rw [hW0]
    have h := Blk.new (w.alloc (.cells #[.slice none 0 0, .slice none 0 0, .slice none 0 0] 25)) 25 #[.slice TA Tn Tc, .slice none 0 0, .slice EA En Ec]
    rw [World.size_alloc] at h
    exact h
  have HW := Lib.hid hW0
  have HWL := Lib.hid hwl
  have HLL := Lib.hid hLl
  have HSS := Lib.hid hs
  have HKK := Lib.hid hk
  have HGG := Lib.hid hG
  have HNN := Lib.hid hN
  have HL0 := Lib.hid hL
  have HS := Lib.hid hsz
  have HB := Lib.hid hB
  have HK0 := Lib.hid k0
  have HK1 := Lib.hid k1
  clear hW0 hwl hLl hs hk hG hN hL hsz hB k0 k1
  go_enter Try.func47, Try.ntmps47
  go_upto_region 2 with fail
  rw [← HW.out]
  go_wp2_with fail
  go_loopw [20] (fun i wr => ∃ k : Nat, k ≤ nn ∧ i = .int .i64 k ∧ Below w.heap.size w wr ∧ Blk wr w.heap.size 25 #[.slice none 0 0, .slice none 0 0, .slice none 0 0] ∧
      ∃ v F, Blk wr (w.heap.size + 1) 25 #[.slice TA Tn Tc, v, .slice EA En Ec] ∧ wr.ownsRow w.heap.size 68 3 v F.length (cols F) ∧ F.map Col.p = ofL (vls L) (En : Int) 0 (ws.take k) ∧ ∀ x ∈ F, ColFresh wr w.heap.size x)
    (fun i _ => nn - (intOf i).toNat)
  case atStart => exact ⟨0, Nat.zero_le _, rfl, HB.out, HK0.out, .slice none 0 0, [], HK1.out, World.ownsRow_nil _ _ _ _, rfl, by simp⟩
  case round =>
    obtain ⟨k, hk, rfl, hb, kz, v0, F, kt, ho, hp, hfr⟩ := hrel
    obtain ⟨A0, c0, rfl⟩ := own_slice ho
    have hFl : F.length = k := by
      have h1 := congrArg List.length hp
      rw [List.length_map, ofL_len, List.length_take, HWL.out, Nat.min_eq_left hk] at h1
      exact h1
    have HB1 := Lib.hid hb
    have HKZ := Lib.hid kz
    have HKT := Lib.hid kt
    have HO := Lib.hid ho
    have HP := Lib.hid hp
    have HFR := Lib.hid hfr
    have HFL := Lib.hid hFl
    by_cases hlt : k < nn
    · have e1 := List.getElem?_eq_getElem (l := ws) (i := k) (by rw [HWL.out]; exact hlt)
      generalize ws[k]'(by rw [HWL.out]; exact hlt) = x at e1
      obtain ⟨b, off, hNA, hbl, g⟩ := ins_cell HNN.out e1
      have g0 := cell_below' hb g hbl
      have HT := Lib.hid (ofL_take (vls L) (En : Int) e1)
      have hQ : True := trivial
      subst hNA
      clear hb kz kt ho hp hfr hFl g e1
      go_wp2_with fail
      obtain ⟨wo, rfl⟩ : ∃ wo, wo = wr := ⟨_, rfl⟩
      have hk3 := Blk.new wo 68 #[.int .i64 x, .int .i64 (En : Int), .slice none 0 0]
      have hb3 := (Below.refl wo.heap.size wo).alloc (Nat.le_refl _) (.cells #[.int .i64 x, .int .i64 (En : Int), .slice none 0 0] 68)
      have HK3 := Lib.hid hk3
      have HB3 := Lib.hid hb3
      clear hk3 hb3 g0
      go_hide hQ2
      go_loopw [31] (fun i wr => ∃ j : Nat, j ≤ ln ∧ i = .int .i64 j ∧ Below wo.heap.size wo wr ∧
          ∃ va, Blk wr wo.heap.size 68 #[.int .i64 x, .int .i64 (En : Int), va] ∧ wr.ownsRow wo.heap.size 26 1 va (colOf (vls (L.take j)) k).length (ids (colOf (vls (L.take j)) k)))
        (fun i _ => ln - (intOf i).toNat)
      case atStart => exact ⟨0, Nat.zero_le _, rfl, HB3.out, .slice none 0 0, HK3.out, World.ownsRow_nil _ _ _ _⟩
      case round =>
        obtain ⟨j, hj, rfl, hbq, va, hkw, how⟩ := hrel
        obtain ⟨Aw, cw, rfl⟩ := own_slice how
        by_cases hlt2 : j < ln
        · have e2 := List.getElem?_eq_getElem (l := L) (i := j) (by rw [HLL.out]; exact hlt2)
          generalize L[j]'(by rw [HLL.out]; exact hlt2) = y at e2
          have hym := List.mem_of_getElem? e2
          have hyo := HGG.out y hym
          have hyn := HKK.out y hym
          have e3 := List.getElem?_eq_getElem (l := y.G) (i := k) (by omega)
          generalize y.G[k]'(by omega) = v at e3
          have hvm := List.mem_of_getElem? e3
          have hvo := hyo.g v hvm
          obtain ⟨b2, off2, hLA, hbl2, g2⟩ := grs_cell HL0.out e2
          obtain ⟨b3, off3, hyA, hbl3, g3⟩ := rws_cell hyo.r e3
          have hyl : k < y.n := by have := hyo.r.1; rw [rws_len] at this; have := (List.getElem?_eq_some_iff.1 e3).1; omega
          have hB1 := HB1.out
          have hB2 : Below w.heap.size w wr := hB1.trans (hbq.mono hB1.size)
          have c2 := cell_below' hB2 g2 hbl2
          have s1' := cell_below' hB2 g3 hbl3
          have s1o := cell_below' hB1 g3 hbl3
          obtain ⟨⟨s00, s01, s0'⟩, _⟩ := blk_cells3 hkw
          have HRV := Lib.hid ((hvo.keep hB2).more hB2.size).1
          have HTT := Lib.hid (colOf_take e2 e3)
          have HLN := Lib.hid (show (colOf (vls (L.take j)) k).length + v.n ≤ 8589934592 by
            have h1 := colOf_le (vls L) k (j + 1)
            rw [← vls_take, colOf_take e2 e3, List.length_append, hvo.len] at h1
            have := HSS.out k
            omega)
          have HVL := Lib.hid hvo.len
          have HOW := Lib.hid how
          have HKW := Lib.hid hkw
          have HBB := Lib.hid (show b3 < wo.heap.size by have := hB1.size; omega)
          have HBN := Lib.hid (show b3 ≠ wo.heap.size by have := hB1.size; omega)
          obtain ⟨yA, yn, yc, yG⟩ := y
          simp only at hyA hyl c2
          subst hLA hyA
          have i1 : (k : Int) < (yn : Int) := by omega
          clear hym hyo hyn hvm hvo e2 e3 g2 g3 how hkw hB1 hB2 hyl s00 s01
          go_wp2_with fail
          subst hQ2
          refine wp_region_held_drew (S := fun w' => w'.cell? ⟨b3, off3 + k, none⟩ = some (.slice v.A v.n v.c)) (by kernel_rfl) s1' (fun hHeld => ?_)
          refine wpAnyH_take (i := 0) (oi := _) (v := ?_) rfl (by kernel_rfl) (by kernel_rfl) (by kernel_rfl) (fun _ _ _ h => h) (Or.inl ⟨by rfl, ?_⟩) hHeld ?_
          rotate_left
          · intro w hSw; obtain s1 := hSw; go_simp; try with_reducible rfl
          simp only [Act.put, List.getElem_toArray, List.getElem_cons_succ, List.getElem_cons_zero, List.setIfInBounds_toArray, List.set_cons_zero, List.set_cons_succ]
          refine wpAnyH_take (i := 2) (oi := _) (v := ?_) rfl (by kernel_rfl) (by kernel_rfl) (by kernel_rfl) (fun _ _ _ h => h) (Or.inl ⟨by rfl, ?_⟩) hHeld ?_
          rotate_left
          · intro w hSw; obtain s1 := hSw; go_simp; try with_reducible rfl
          simp only [Act.put, List.getElem_toArray, List.getElem_cons_succ, List.getElem_cons_zero, List.setIfInBounds_toArray, List.set_cons_zero, List.set_cons_succ]
          refine wpAnyH_take (i := 3) (oi := _) (v := ?_) rfl (by kernel_rfl) (by kernel_rfl) (by kernel_rfl) (fun _ _ _ h => h) (Or.inl ⟨by rfl, ?_⟩) hHeld ?_
          rotate_left
          · intro w hSw; obtain s1 := hSw; go_simp; try with_reducible rfl
          simp only [Act.put, List.getElem_toArray, List.getElem_cons_succ, List.getElem_cons_zero, List.setIfInBounds_toArray, List.set_cons_zero, List.set_cons_succ]
          refine wpAnyH_take (i := 4) (oi := _) (v := ?_) rfl (by kernel_rfl) (by kernel_rfl) (by kernel_rfl) (fun _ _ _ h => h) (Or.inl ⟨by rfl, ?_⟩) hHeld ?_
          rotate_left
          · intro w hSw; obtain s1 := hSw; go_simp; try with_reducible rfl
          simp only [Act.put, List.getElem_toArray, List.getElem_cons_succ, List.getElem_cons_zero, List.setIfInBounds_toArray, List.set_cons_zero, List.set_cons_succ]
          refine wpAnyH_take (i := 5) (oi := _) (v := ?_) rfl (by kernel_rfl) (by kernel_rfl) (by kernel_rfl) (fun _ _ _ h => h) (Or.inl ⟨by rfl, ?_⟩) hHeld ?_
          rotate_left
          · intro w hSw; obtain s1 := hSw; go_simp; try with_reducible rfl
          simp only [Act.put, List.getElem_toArray, List.getElem_cons_succ, List.getElem_cons_zero, List.setIfInBounds_toArray, List.set_cons_zero, List.set_cons_succ]
          refine wpAnyH_ready (rs := [1]) (by kernel_rfl) (by simp) (AllReadyH.cons (o := _) rfl (fun K hK => ?_) AllReadyH.nil)
          go_simp
          skip
          refine hK.out _ _ hHeld (fun hHeld => ?_)
          clear hK K
          try simp only [Act.put, List.getElem_toArray, List.getElem_cons_succ, List.getElem_cons_zero, List.setIfInBounds_toArray, List.set_cons_zero, List.set_cons_succ]
          refine wpAnyH_ready (rs := [6]) (by kernel_rfl) (by simp) (AllReadyH.cons (o := _) rfl (fun K hK => ?_) AllReadyH.nil)
          refine step_append_two _ rfl (.tmp 36) (.tmp 40) 43 44 26 rfl Try.underlying44 wo.heap.size 26 i0 _ 1 8 Try.underlying43 hi0 hz0 hz1 hz2 rfl (by omega) _ (colOf (vls (L.take j)) k).length (ids (colOf (vls (L.take j)) k)) (by rfl) HOW.out _ _ v.n v.c (ids v.l) (by rfl) HRV.out (ids_one v.l) ?_ ?_ hbq.size ?_
          · have := HLN.out; simp only [maxLen]; omega
          · have := HLN.out; omega
          intro v9 w9 ho9 hg9 hat9
          have hb9 := own_grown_below (w := wr.drew) hbq.drew HOW.out hg9
          have hk9 := HKW.out.drew.grown hg9 (fun e => own_blk_ne HOW.out HKW.out (by decide) e.symm)
          obtain ⟨A9, c9, rfl⟩ := own_slice ho9
          obtain ⟨⟨q0, q1, q2⟩, qf⟩ := blk_cells3 hk9
          have qf2 := qf 2
          have HG9 := Lib.hid hb9
          have HO9 := Lib.hid ho9
          have HK9 := Lib.hid hk9
          clear qf ho9 hg9 hat9 hk9
          refine hK.out _ _ (cell_below' HG9.out s1o HBB.out) (fun hHeld => ?_)
          clear hK K
          try simp only [Act.put, List.getElem_toArray, List.getElem_cons_succ, List.getElem_cons_zero, List.setIfInBounds_toArray, List.set_cons_zero, List.set_cons_succ]
          refine wpAnyH_take (i := 7) (oi := _) (v := ?_) rfl (by kernel_rfl) (by kernel_rfl) (by kernel_rfl) (fun _ _ _ h => h) (Or.inl ⟨by rfl, ?_⟩) hHeld ?_
          rotate_left
          · intro w hSw; obtain s1 := hSw; go_simp; try with_reducible rfl
          simp only [Act.put, List.getElem_toArray, List.getElem_cons_succ, List.getElem_cons_zero, List.setIfInBounds_toArray, List.set_cons_zero, List.set_cons_succ]
          refine wpAnyH_ready (rs := [8]) (by kernel_rfl) (by simp) (AllReadyH.cons (o := _) rfl (fun K hK => ?_) AllReadyH.nil)
          go_simp
          skip
          refine hK.out _ _ (far1 _ HBN.out (cell_below' HG9.out s1o HBB.out)) (fun hHeld => ?_)
          clear hK K
          try simp only [Act.put, List.getElem_toArray, List.getElem_cons_succ, List.getElem_cons_zero, List.setIfInBounds_toArray, List.set_cons_zero, List.set_cons_succ]
          refine wpAnyH_done (by kernel_rfl) ?_ _
          go_wp2_with fail
          go_roundw
          case rel =>
            refine ⟨j + 1, by omega, by go_num, HG9.out.setCell (p := ⟨wo.heap.size, 2, none⟩) (Nat.le_refl _) _, _, HK9.out.set_ 2 _, ?_⟩
            rw [HTT.out, ids_app, List.length_append, HVL.out]
            exact HO9.out.kept (grown_set1 _ _ _ _) (.inr (own_blk_ne HO9.out HK9.out (by decide)))
          case measure => simp [intOf]; omega
        · have : j = ln := by omega
          subst this
          have HLF := Lib.hid (show L.take j = L from List.take_of_length_le (by rw [HLL.out]; exact Nat.le_refl _))
          have HKW := Lib.hid hkw
          have HOW := Lib.hid how
          have HBQ := Lib.hid hbq
          have hbt := HB1.out.trans (hbq.mono HB1.out.size)
          have kt2 := HKT.out.below hbq (by have := HB1.out.size; have := HS.out; have := HKT.out.lt; omega)
          obtain ⟨⟨z0, z1, z2⟩, zf⟩ := blk_cells3 kt2
          have zf1 := zf 1
          obtain ⟨⟨s00, s01, s02⟩, _⟩ := blk_cells3 hkw
          have HKT2 := Lib.hid kt2
          have HBT := Lib.hid hbt
          clear hkw how hbq kt2 zf hbt
          subst hQ2
          go_wp2_with (first
            | (at_builtin
               refine wpList_append_any _ rfl (.tmp 45) (.tmp 47) _ rfl w.heap.size 68 i1 _ 3 40 Try.underlying23 hj0 hj1 hj2 hj3 rfl (by omega) (.slice A0 F.length c0) F.length (cols F) rfl
                 ?_ (wr.heap.size + 1) (some ⟨wr.heap.size, 0, none⟩) 1 1 [.int .i64 x, .int .i64 (En : Int), .slice Aw (colOf (vls (L.take j)) k).length cw] rfl ?_ (by simp [Value.oneCell']) (by have := HFL.out; simp only [maxLen]; omega) (by have := HFL.out; omega) ?_ ?_
               · exact (own_below HO.out HBQ.out).alloc _
               · exact lit_reads1 _ _ _ rfl
               · have := HBT.out.size; simp; omega
               intro v1 w1 hown1 hg1 hat1
               obtain ⟨A1, c1', rfl⟩ := own_slice hown1
               have HG1 := Lib.hid hg1
               have HO1 := Lib.hid hown1
               have hk5 := blk_grown_own (HKT2.out.alloc (.cells #[.int .i64 x, .int .i64 (En : Int), .slice Aw (colOf (vls (L.take j)) k).length cw] 68)) ((own_below HO.out HBQ.out).alloc _) (by decide) HG1.out
               obtain ⟨⟨y0, y1, y2⟩, yf⟩ := blk_cells3 hk5
               have yf1 := yf 1
               have HK5 := Lib.hid hk5
               clear hg1 hown1 hat1 yf hk5)
            | fail)
          go_roundw
          case rel =>
            have hk6 := blk_grown_own ((Blk.below HKZ.out HBQ.out (by have := HB1.out.size; have := HKZ.out.lt; omega)).alloc (.cells #[.int .i64 x, .int .i64 (En : Int), .slice Aw (colOf (vls (L.take j)) k).length cw] 68)) ((own_below HO.out HBQ.out).alloc _) (by decide) HG1.out
            have hb6 : Below w.heap.size w w1 := own_grown_below (HBT.out.alloc HBT.out.size (.cells #[.int .i64 x, .int .i64 (En : Int), .slice Aw (colOf (vls (L.take j)) k).length cw] 68)) ((own_below HO.out HBQ.out).alloc _) HG1.out
            have hw6 := colOf_word HGG.out k
            rw [HLF.out] at HOW
            have hnw : ColFresh wr w.heap.size ⟨x, (En : Int), Aw, (colOf (vls L) k).length, cw, colOf (vls L) k⟩ := colFresh_base (colFresh_own x (En : Int) HOW.out hw6) HB1.out.size
            rw [HLF.out] at HG1
            have ho1 := HO1.out
            rw [HLF.out] at ho1
            have hst : ∀ z, ColFresh wr w.heap.size z → ColFresh w1 w.heap.size z := fun z hz => colFresh_grown (hz.below ((Below.refl _ wr).alloc (Nat.le_refl _) _)) ((own_below HO.out HBQ.out).alloc _) (by decide) HG1.out
            refine ⟨k + 1, by omega, by go_num, hb6.setCell (p := ⟨w.heap.size + 1, 1, none⟩) (by simp) _, hk6.far (by simp) _, _, F ++ [⟨x, (En : Int), Aw, (colOf (vls L) k).length, cw, colOf (vls L) k⟩], HK5.out.set_ 1 _, ?_, ?_, fun z hz => ?_⟩
            · rw [cols_app, List.length_append]; exact ho1.kept (grown_set1 _ _ _ _) (.inr (own_blk_ne ho1 HK5.out (by decide)))
            · rw [List.map_append, HP.out, HT.out]; rfl
            · rcases List.mem_append.1 hz with hz | hz
              · exact colFresh_cell (hst z ((HFR.out z hz).below HBQ.out)) HK5.out (by decide) _
              · rw [List.mem_singleton] at hz; subst hz
                exact colFresh_cell (hst _ hnw) HK5.out (by decide) _
          case measure => simp [intOf]; omega
    · have : k = nn := by omega
      subst this
      obtain ⟨⟨z0, z1, z2⟩, zf⟩ := blk_cells3 kz
      have zf0 := zf 0
      have zf1 := zf 1
      have zf2 := zf 2
      obtain ⟨⟨y0, y1, y2⟩, _⟩ := blk_cells3 kt
      clear hb kz kt ho hp hfr hFl zf
      go_wp2_with fail
      refine bodyPost_ret (v := .agg #[.slice TA Tn Tc, .slice A0 F.length c0, .slice EA En Ec]) (by simp [results, Try.results47, go_sem, *]) rfl ?_
      exact ⟨_, F, rfl, HO.out.kept (grown_set3 _ _ _ _ _) (.inr (own_blk_ne HO.out HKZ.out (by decide))), by rw [HP.out, List.take_of_length_le (by rw [HWL.out]; exact Nat.le_refl _)], fun x hx => fresh_set3 (HFR.out x hx) HKZ.out (by decide) _ _ _, below_set3 HB1.out (Nat.le_refl _)⟩
end Go.Proofs.Ytbcbknajhdaneaa
