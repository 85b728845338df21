/- What is proved: rows of columns, and tables; the document's Same of types. -/
import Derived.Test.YtbcbknajhdaneaaTaI
namespace Go.Proofs.Ytbcbknajhdaneaa
open Go.RowKit
set_option linter.unusedVariables false
set_option linter.unusedSimpArgs false
/-- a column: its numbers, its slice of words, and what that reads -/
structure Col where
  W : Int
  R : Int
  A : Option Addr
  n : Nat
  c : Nat
  l : List Int
deriving Inhabited
def Col.C (x : Col) : List Value := [.int .i64 x.W, .int .i64 x.R, .slice x.A x.n x.c]
def Col.V (x : Col) : Value := colV x.W x.R x.A x.n x.c
def cols (F : List Col) : List Value := F.flatMap Col.C
theorem cols_len (l : List Col) : (cols l).length = l.length * 3 := by
  induction l with
  | nil => rfl
  | cons x l ih =>
    show (x.C ++ cols l).length = _
    rw [List.length_append, ih, List.length_cons]
    show 3 + l.length * 3 = _
    omega
theorem cols_at (l : List Col) (k : Nat) (x : Col) (h : l[k]? = some x) (j : Nat) (hj : j < 3) : (cols l)[k * 3 + j]? = x.C[j]? := by
  induction l generalizing k with
  | nil => simp at h
  | cons y l ih =>
    show (y.C ++ cols l)[k * 3 + j]? = _
    cases k with
    | zero =>
      simp at h; subst h
      rw [Nat.zero_mul, Nat.zero_add, List.getElem?_append_left (by show j < 3; exact hj)]
    | succ k =>
      rw [List.getElem?_append_right (by show 3 ≤ _; omega)]
      have e : (k + 1) * 3 + j - y.C.length = k * 3 + j := by show (k + 1) * 3 + j - 3 = _; omega
      rw [e]
      exact ih k (by simpa using h)
theorem cols_one (l : List Col) : ∀ u ∈ cols l, u.oneCell' = true := by
  intro u hu
  obtain ⟨x, _, hx⟩ := List.mem_flatMap.1 hu
  simp only [Col.C, List.mem_cons, List.not_mem_nil, or_false] at hx
  rcases hx with rfl | rfl | rfl <;> rfl
/-- a column's three cells -/
def Cells3 (w : World) (b o : Nat) (x : Col) : Prop := w.cell? ⟨b, o, none⟩ = some (.int .i64 x.W) ∧ w.cell? ⟨b, o + 1, none⟩ = some (.int .i64 x.R) ∧ w.cell? ⟨b, o + 2, none⟩ = some (.slice x.A x.n x.c)
theorem Cells3.below {w w' : World} {B b o : Nat} {x : Col} (h : Cells3 w b o x) (hb : Below B w w') (hB : b < B) : Cells3 w' b o x := by
  obtain ⟨h0, h1, h2⟩ := h
  exact ⟨(hb.cell (p := ⟨b, _, none⟩) hB).trans h0, (hb.cell (p := ⟨b, _, none⟩) hB).trans h1, (hb.cell (p := ⟨b, _, none⟩) hB).trans h2⟩
theorem cols_cells {w : World} {B n : Nat} {A : Option Addr} {l : List Col} (h : Reads w B 3 A n (cols l)) {k : Nat} {x : Col} (hk : l[k]? = some x) :
    ∃ b off, A = some ⟨b, off, none⟩ ∧ b < B ∧ Cells3 w b (off + k * 3) x := by
  have hn : k < n := by
    have h1 := h.1
    rw [cols_len] at h1
    have := (List.getElem?_eq_some_iff.1 hk).1
    omega
  obtain ⟨ad, rfl, hb, hc⟩ := h.2 (by omega)
  have at_ : ∀ j, j < 3 → ∀ u, x.C[j]? = some u → w.cell? (ad.add (k * 3 + j)) = some u := fun j hj u hu => hc _ u (by rw [cols_at l k x hk j hj]; exact hu)
  obtain ⟨b, off, spot⟩ := ad
  have hspot : spot = none := by
    have h0 := hc 0 (.int .i64 (l[0]'(by have := (List.getElem?_eq_some_iff.1 hk).1; omega)).W) (by
      have := cols_at l 0 _ (List.getElem?_eq_getElem (by have := (List.getElem?_eq_some_iff.1 hk).1; omega)) 0 (by omega)
      simpa [Col.C] using this)
    simpa [Addr.add] using World.cell?_spot h0
  subst hspot
  refine ⟨b, off, rfl, hb, ?_⟩
  unfold Cells3
  simp only [add_none] at at_
  exact ⟨at_ 0 (by omega) _ rfl, at_ 1 (by omega) _ rfl, at_ 2 (by omega) _ rfl⟩
/-- what is known of a column's words -/
def ColOk (w : World) (B : Nat) (x : Col) : Prop := Reads w B 1 x.A x.n (ids x.l) ∧ x.n ≤ x.c ∧ x.c ≤ maxLen ∧ ∀ y ∈ x.l, Word y
theorem ColOk.keep {w w' : World} {B : Nat} {x : Col} (h : ColOk w B x) (hb : Below B w w') : ColOk w' B x := ⟨h.1.below hb, h.2⟩
theorem ColOk.more {w : World} {B B' : Nat} {x : Col} (h : ColOk w B x) (hb : B ≤ B') : ColOk w B' x := ⟨h.1.more hb, h.2⟩
/-- a table: three slices, and what they read -/
structure Tab where
  TA : Option Addr
  Tn : Nat
  Tc : Nat
  ty : List Int
  CA : Option Addr
  Cn : Nat
  Cc : Nat
  F : List Col
  EA : Option Addr
  En : Nat
  Ec : Nat
  es : List Int
deriving Inhabited
def Tab.V (t : Tab) : Value := .agg #[.slice t.TA t.Tn t.Tc, .slice t.CA t.Cn t.Cc, .slice t.EA t.En t.Ec]
structure TabOk (w : World) (B : Nat) (t : Tab) : Prop where
  ty : Reads w B 1 t.TA t.Tn (ids t.ty)
  tyc : t.Tn ≤ t.Tc ∧ t.Tc ≤ maxLen
  tyw : ∀ x ∈ t.ty, Word x
  cs : Reads w B 3 t.CA t.Cn (cols t.F)
  csc : t.Cn ≤ t.Cc ∧ t.Cc ≤ maxLen
  csok : ∀ x ∈ t.F, ColOk w B x
  es : Reads w B 1 t.EA t.En (ids t.es)
  esc : t.En ≤ t.Ec ∧ t.Ec ≤ maxLen
  esw : ∀ x ∈ t.es, Word x
theorem TabOk.keep {w w' : World} {B : Nat} {t : Tab} (h : TabOk w B t) (hb : Below B w w') : TabOk w' B t :=
  ⟨h.ty.below hb, h.tyc, h.tyw, h.cs.below hb, h.csc, fun x hx => (h.csok x hx).keep hb, h.es.below hb, h.esc, h.esw⟩
theorem TabOk.more {w : World} {B B' : Nat} {t : Tab} (h : TabOk w B t) (hb : B ≤ B') : TabOk w B' t :=
  ⟨h.ty.more hb, h.tyc, h.tyw, h.cs.more hb, h.csc, fun x hx => (h.csok x hx).more hb, h.es.more hb, h.esc, h.esw⟩
/-- the entities of a table: each is one, and each index is there once -/
def entOk (l : List Int) : Nat → Bool
  | 0 => true
  | k + 1 => entOk l k && (match l[k]? with | some x => !(idx x == 0) && !hasI (l.take k) (idx x) | none => true)
/-- may a table be? -/
def tabB (t : Tab) : Bool := tyR t.ty && (decide (t.F.length = t.ty.length) && (decide (t.es.length ≤ 1048578) && (t.F.all (fun c => colB c.W c.R c.n && c.R == (t.es.length : Int)) && entOk t.es t.es.length)))
set_option maxRecDepth 100000 in
set_option maxHeartbeats 2000000 in
theorem rsame_d (A : Option Addr) (n c : Nat) (l : List Int) (A2 : Option Addr) (n2 c2 : Nat) (l2 : List Int) (w : World) (hR : Reads w w.heap.size 1 A n (ids l)) (hR2 : Reads w w.heap.size 1 A2 n2 (ids l2)) (hn : n ≤ 281474976710656) (hn2 : n2 ≤ 281474976710656) :
    Calls Try.prog 76 #[.slice A n c, .slice A2 n2 c2] w fun e w' => e = .returned (.bool (l == l2)) ∧ Below w.heap.size w w' := by
  have hl : l.length = n := by have := hR.1; rw [ids_len] at this; omega
  have hl2 : l2.length = n2 := by have := hR2.1; rw [ids_len] at this; omega
  by_cases hnn : n = n2
  · subst hnn
    have d3 : ((n : Int) != (n : Int)) = false := by simp
    go_enter Try.func76, Try.ntmps76
    go_wp2_with fail
    go_loopw [13] (fun i wr => ∃ k : Nat, k ≤ n ∧ i = .int .i64 k ∧ l.take k = l2.take k ∧ Below w.heap.size w wr)
      (fun i _ => n - (intOf i).toNat)
    case atStart => exact ⟨0, Nat.zero_le _, rfl, rfl, Below.refl _ _⟩
    case round =>
      obtain ⟨k, hk, rfl, hq, hb⟩ := hrel
      by_cases hlt : k < n
      · have e1 := List.getElem?_eq_getElem (l := l) (i := k) (by omega)
        have e2 := List.getElem?_eq_getElem (l := l2) (i := k) (by omega)
        generalize l[k]'(by omega) = x at e1
        generalize l2[k]'(by omega) = y at e2
        have D1 := take_snoc e1
        have D2 := take_snoc e2
        obtain ⟨b, off, rfl, hbl, g⟩ := ids_cell hR e1
        obtain ⟨b2, off2, rfl, hbl2, g2⟩ := ids_cell hR2 e2
        have g10 := cell_below' hb g hbl
        have g20 := cell_below' hb g2 hbl2
        have i1 : (k : Int) < (n : Int) := by omega
        cases hb3 : (x == y)
        · have hf := Lib.hid (show (l == l2) = false from by
            rw [beq_eq_false_iff_ne]
            intro h
            subst h
            rw [e1] at e2
            injection e2 with e2
            subst e2
            simp at hb3)
          have hne : (x != y) = true := by simpa using hb3
          clear hq hR hR2 g g2 e1 e2 hb3 D1 D2
          go_wp2_with fail
          go_quiet (fail)
          go_wp2_with fail
          try rw [Exit.noGoto_ret]
          go_ret
          exact ⟨by rw [hf.out] <;> rfl, below_drewN' hb _⟩
        · have he : x = y := by simpa using hb3
          subst he
          have hf := Lib.hid (show l.take (k + 1) = l2.take (k + 1) from by rw [D1, D2, hq])
          clear hq hR hR2 g g2 e1 e2 hb3 D1 D2
          go_wp2_with fail
          go_quiet (fail)
          go_wp2_with fail
          go_roundw
          case rel => exact ⟨k + 1, by omega, by go_num, hf.out, below_drewN' hb _⟩
          case measure => simp [intOf]; omega
      · rw [List.take_of_length_le (by omega), List.take_of_length_le (by omega)] at hq
        have hf := Lib.hid (show (l == l2) = true from by simpa using hq)
        clear hq hR hR2
        go_wp2_with fail
        try rw [Exit.noGoto_ret]
        go_ret
        exact ⟨by rw [hf.out] <;> rfl, hb⟩
  · have hf := Lib.hid (show (l == l2) = false from by rw [beq_eq_false_iff_ne]; intro h; subst h; omega)
    have hne : ((n : Int) != (n2 : Int)) = true := by simp; omega
    clear hR hR2
    go_enter Try.func76, Try.ntmps76
    go_wp2_with fail
    go_ret
    exact ⟨by rw [hf.out] <;> rfl, Below.refl _ _⟩
end Go.Proofs.Ytbcbknajhdaneaa
