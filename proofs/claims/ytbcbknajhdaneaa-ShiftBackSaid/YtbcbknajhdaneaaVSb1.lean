/- What is proved: what stands while cells of other kinds are written; shift's Move in plain words. -/
import Derived.Test.YtbcbknajhdaneaaVSa6
namespace Go.Proofs.Ytbcbknajhdaneaa
open Go.RowKit Go.Maps
set_option linter.unusedVariables false
set_option linter.unusedSimpArgs false
/-- what tables are made of stands -/
def KeepT (w w' : World) : Prop := w.heap.size ≤ w'.heap.size ∧ ∀ (g : Nat) (cs : Array Value) (t : TypeId), (t = 26 ∨ t = 27 ∨ t = 68) → Blk w g t cs → Blk w' g t cs
/-- all cells stand -/
def KeepC (w w' : World) : Prop := w.heap.size ≤ w'.heap.size ∧ ∀ (g : Nat) (cs : Array Value) (t : TypeId), Blk w g t cs → Blk w' g t cs
theorem KeepC.t {w w' : World} (h : KeepC w w') : KeepT w w' := ⟨h.1, fun g cs t _ hk => h.2 g cs t hk⟩
theorem KeepC.refl (w : World) : KeepC w w := ⟨Nat.le_refl _, fun _ _ _ h => h⟩
theorem KeepC.trans {a b c : World} (h : KeepC a b) (k : KeepC b c) : KeepC a c := ⟨Nat.le_trans h.1 k.1, fun g cs t hk => k.2 g cs t (h.2 g cs t hk)⟩
theorem KeepT.refl (w : World) : KeepT w w := (KeepC.refl w).t
theorem KeepT.trans {a b c : World} (h : KeepT a b) (k : KeepT b c) : KeepT a c := ⟨Nat.le_trans h.1 k.1, fun g cs t ht hk => k.2 g cs t ht (h.2 g cs t ht hk)⟩
theorem KeepC.below {w w' : World} (h : Below w.heap.size w w') : KeepC w w' := ⟨h.size, fun g cs t hk => blk_below hk h⟩
theorem KeepT.below {w w' : World} (h : Below w.heap.size w w') : KeepT w w' := (KeepC.below h).t
theorem KeepC.grown {w w' : World} {row : Option Nat} (hg : w.grownBy w' row) (hr : ∀ r, row = some r → ∃ o : Obj, w.heap[r]? = some o ∧ o.isCells = false) : KeepC w w' :=
  ⟨hg.size, fun g cs t hk => hk.grown hg (fun e => by
    obtain ⟨o, ho, hc⟩ := hr g e.symm
    rw [show w.heap[g]? = _ from hk] at ho
    cases ho; cases hc)⟩
theorem KeepC.put {w : World} {D : Nat} {d : Option (List Deferred)} (h : w.heap[D]? = some (.deferred d)) (o : Obj) : KeepC w (w.putObj D o) :=
  KeepC.grown (grownBy_putObj' w D o) (fun r e => by cases e; exact ⟨_, h, rfl⟩)
theorem KeepT.set {w : World} {g i : Nat} {t : TypeId} {cs : Array Value} (hk : Blk w g t cs) (ht : t ≠ 26 ∧ t ≠ 27 ∧ t ≠ 68) (v : Value) : KeepT w (w.setCell ⟨g, i, none⟩ v) :=
  ⟨by simp, fun g' cs' t' h' hk' => hk'.far (fun e => by
    subst e
    unfold Blk at hk hk'
    rw [hk] at hk'
    injection hk' with hk'
    injection hk' with _ hk'
    subst hk'
    rcases h' with rfl | rfl | rfl
    · exact ht.1 rfl
    · exact ht.2.1 rfl
    · exact ht.2.2 rfl) v⟩
section
variable {w w' : World} {base : Nat} (hk : KeepT w w')
include hk
theorem ints_keep {e : TypeId} {A : Option Addr} {n : Nat} (h : IntS w base e A n) (he : e = 26 ∨ e = 27) : IntS w' base e A n := fun h0 => by
  obtain ⟨g', cur, rfl, h1, h2, h3⟩ := h h0
  refine ⟨g', cur, rfl, h1, hk.2 g' cur e ?_ h2, h3⟩
  rcases he with rfl | rfl
  · exact .inl rfl
  · exact .inr (.inl rfl)
theorem reads_keep {e : TypeId} {A : Option Addr} {n : Nat} {l : List Int} (h : IntS w base e A n) (he : e = 26 ∨ e = 27) (hR : Reads w w.heap.size 1 A n (ids l)) : Reads w' w'.heap.size 1 A n (ids l) := by
  refine ⟨hR.1, fun h0 => ?_⟩
  obtain ⟨ad, e', h1, h2⟩ := hR.2 h0
  obtain ⟨g', cur, hA, h3, h4, h5⟩ := h h0
  have h6 := hk.2 g' cur e (by rcases he with rfl | rfl; exact .inl rfl; exact .inr (.inl rfl)) h4
  rw [e'] at hA; injection hA with hA
  refine ⟨ad, e', Nat.lt_of_lt_of_le h1 hk.1, fun j u hu => ?_⟩
  rw [← h2 j u hu]
  refine World.cell?_of_block ?_
  rw [block_of_add, hA]
  exact (show w'.heap[g']? = _ from h6).trans (show w.heap[g']? = _ from h4).symm
theorem colFresh_keep {x : Col} (h : ColFresh w base x) : ColFresh w' base x :=
  ⟨⟨reads_keep hk h.2 (.inl rfl) h.1.1, h.1.2⟩, ints_keep hk h.2 (.inl rfl)⟩
theorem rwFresh_keep {x : Rw} (h : RwFresh w base x) : RwFresh w' base x := colFresh_keep hk h
theorem idFresh_keep {A : Option Addr} {n c : Nat} {l : List Int} (h : IdFresh w base A n c l) : IdFresh w' base A n c l :=
  ⟨reads_keep hk h.2.2.2.2 (.inr rfl) h.1, h.2.1, h.2.2.1, h.2.2.2.1, ints_keep hk h.2.2.2.2 (.inr rfl)⟩
theorem ownCol_keep {n : Nat} {v : Value} {xs : List Value} (h : w.ownsRow base 68 3 v n xs) : w'.ownsRow base 68 3 v n xs := by
  rcases h.2 with h2 | ⟨g2, cap2, cur2, rfl, h7, h8, h9⟩
  · exact ⟨h.1, .inl h2⟩
  · exact ⟨h.1, .inr ⟨g2, cap2, cur2, rfl, h7, hk.2 g2 cur2 _ (.inr (.inr rfl)) h8, h9⟩⟩
theorem TabFresh.keep {t : Tab} (h : TabFresh w base t) : TabFresh w' base t :=
  ⟨idFresh_keep hk h.ty, ownCol_keep hk h.cs, fun x hx => colFresh_keep hk (h.csf x hx), idFresh_keep hk h.es⟩
end
section
variable {f to : Tab} {row : Int} {bf br bv bt gv n c base : Nat}
theorem CarI.keepC {G : List Rw} {w w' : World} (h : CarI f to row bf br bv bt gv n c base G w) (hk : KeepC w w') : CarI f to row bf br bv bt gv n c base G w' := by
  refine ⟨hk.2 _ _ _ h.kf, hk.2 _ _ _ h.kr, hk.2 _ _ _ h.kv, hk.2 _ _ _ h.kt, ?_, fun v hv => rwFresh_keep hk.t (h.fr v hv)⟩
  rcases h.own.2 with h2 | ⟨g2, cap2, cur2, h1, h7, h8, h9⟩
  · exact ⟨h.own.1, .inl h2⟩
  · exact ⟨h.own.1, .inr ⟨g2, cap2, cur2, h1, h7, hk.2 g2 cur2 _ h8, h9⟩⟩
/-- what stands behind carry -/
theorem carry_done {G : List Rw} {w w6 : World} {k : Nat} {v : Rw} (h : CarI f to row bf br bv bt gv n c base G w) (hb : base ≤ w.heap.size) (hv : RwFresh w6 base v) (h6 : Below w.heap.size w w6) :
    CarI f to row bf br bv bt gv n c base (G.set k v) (w6.setCell ⟨gv, k, none⟩ v.V) ∧ Below base w (w6.setCell ⟨gv, k, none⟩ v.V) ∧ KeepsOthers w (w6.setCell ⟨gv, k, none⟩ v.V) ∧
      (∀ (g : Nat) (t : TypeId) (cs : Array Value), 44 ≠ t → Blk w g t cs → Blk (w6.setCell ⟨gv, k, none⟩ v.V) g t cs) := by
  have hI6 := h.below h6
  have hst := hI6.own.stored k v.V
  exact ⟨hI6.set hv, (h6.mono hb).setCell (p := ⟨gv, k, none⟩) (own_base hI6.own) _, (KeepsOthers.of_grownBy (below_none h6) (fun _ _ e => by cases e)).trans (KeepsOthers.setCell _ _ _),
    fun g t cs ht hk => blk_grown_own (blk_below hk h6) hI6.own ht hst.2⟩
end
def getLi (f : Tab) (i : Nat) (row : Int) : List Int := match f.F[i]? with | some x => getL x row | none => []
section
variable {A B : Nat}
def stepV (f : Tab) (row : Int) (L : List (List Int)) (p : PIn A B) : List (List Int) := L.set p.1.2 (getLi f p.1.1 row)
def carOk (f to : Tab) (row : Int) (p : PIn A B) : Bool := match f.F[p.1.1]?, to.F[p.1.2]? with | some x, some y => carB x y row | _, _ => false
end
/-- the places that both types have -/
def bothT (f to : Tab) : List (PIn f.ty.length to.ty.length) := bothL f.ty.length to.ty.length f.ty to.ty
def zsV (to : Tab) : List (List Int) := to.F.map fun y => zerosL y.W.toNat
/-- the values that go along -/
def mvV (f to : Tab) (row : Int) : List (List Int) := (bothT f to).foldl (stepV f row) (zsV to)
def gOf (L : List (List Int)) : List Rw := L.map fun l => ⟨none, l.length, l.length, l⟩
/-- how Move goes, and what comes of it -/
def mvE (f to : Tab) (row : Int) : Int :=
  if (tabB f && tabB to) = true then
    (if row < 0 ∨ (f.es.length : Int) ≤ row then 2
     else if (bothT f to).all (carOk f to row) = true then tpuE to (idAt f.es row.toNat) (gOf (mvV f to row)) else 231)
  else 190
def mvF (f to : Tab) (row : Int) : PT := if mvE f to row = 0 then tswP f row else noT
def mvT (f to : Tab) (row : Int) : PT := if mvE f to row = 0 then tpuP to (idAt f.es row.toNat) (gOf (mvV f to row)) else noT
def mvR (f to : Tab) (row : Int) : Int := if mvE f to row = 0 then (to.es.length : Int) else 0
def mvM (f to : Tab) (row : Int) : Int := if mvE f to row = 0 then tswM f row else 0
theorem vAt_alike {G G' : List Rw} (h : G.map Rw.l = G'.map Rw.l) (h1 : ∀ v ∈ G, v.l.length = v.n) (h2 : ∀ v ∈ G', v.l.length = v.n) (k : Nat) : (vAt G k).n = (vAt G' k).n ∧ (vAt G k).l = (vAt G' k).l := by
  have e := congrArg (fun L => L[k]?) h
  simp only [List.getElem?_map] at e
  unfold vAt
  cases hx : G[k]? with
  | none =>
    rw [hx] at e
    cases hy : G'[k]? with
    | none => exact ⟨rfl, rfl⟩
    | some y => rw [hy] at e; cases e
  | some x =>
    rw [hx] at e
    cases hy : G'[k]? with
    | none => rw [hy] at e; cases e
    | some y =>
      rw [hy] at e
      injection e with e
      have a1 := h1 x (List.mem_of_getElem? hx)
      have a2 := h2 y (List.mem_of_getElem? hy)
      exact ⟨by show x.n = y.n; rw [← a1, ← a2, e], e⟩
theorem widE_alike {G G' : List Rw} (h : ∀ k, (vAt G k).n = (vAt G' k).n) : ∀ (F : List Col) (b : Nat), widE G b F = widE G' b F
  | [], _ => rfl
  | x :: F, b => by
    unfold widE
    rw [h b, widE_alike h F (b + 1)]
theorem tpu_alike {t : Tab} {e : Int} {G G' : List Rw} (h : G.map Rw.l = G'.map Rw.l) (h1 : ∀ v ∈ G, v.l.length = v.n) (h2 : ∀ v ∈ G', v.l.length = v.n) : tpuE t e G = tpuE t e G' ∧ tpuP t e G = tpuP t e G' := by
  have ha := vAt_alike h h1 h2
  have hl : G.length = G'.length := by have := congrArg List.length h; simpa using this
  have hE : tpuE t e G = tpuE t e G' := by
    unfold tpuE
    rw [hl, widE_alike (fun k => (ha k).1)]
  refine ⟨hE, ?_⟩
  unfold tpuP
  rw [hE]
  have hf : (fun (k : Nat) (x : Col) => pushP x (vAt G k)) = (fun (k : Nat) (x : Col) => pushP x (vAt G' k)) := by
    funext k x
    unfold pushP pushE
    rw [(ha k).1, (ha k).2]
  rw [hf]
theorem gOf_len (L : List (List Int)) : ∀ v ∈ gOf L, v.l.length = v.n := by
  intro v hv
  obtain ⟨l, _, rfl⟩ := List.mem_map.1 hv
  rfl
theorem gOf_l (L : List (List Int)) : (gOf L).map Rw.l = L := by
  unfold gOf
  rw [List.map_map]
  exact List.map_id' L
end Go.Proofs.Ytbcbknajhdaneaa
