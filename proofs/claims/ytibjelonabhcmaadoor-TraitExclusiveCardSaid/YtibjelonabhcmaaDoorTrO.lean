/- What is proved: contracts of trait's all and Check. -/
import Derived.Test.YtibjelonabhcmaaDoorTrM
namespace Go.Proofs.YtibjelonabhcmaaDoor
open Go.RowKit
set_option linter.unusedVariables false
set_option linter.unusedSimpArgs false
theorem chk1_any (A : Option Addr) (n c : Nat) (l : List Rel) (k : Nat) (x : Rel) (bp : Nat) (w : World) (hE : Env w) (hbp : bp < w.heap.size) (hp : w.cell? ⟨bp, 0, none⟩ = some (.slice A n c))
    (hR : Reads w w.heap.size 6 A n (rels l)) (hn : n ≤ 65536) (hk : k < n) (hx : l[k]? = some x) :
    Calls Tryd.prog 41 #[.int .i64 (k : Int), relV x, .pointer (some ⟨bp, 0, none⟩)] w fun e w' => e = .returned (.bool (okC l k x)) ∧ Below w.heap.size w w' := by
  match k, hk, hx with
  | 0, hk, hx => exact chk1_0 A n c l x bp w hE hbp hp
  | 1, hk, hx =>
    have hy : l[0]? = some (l[0]'(by have := (List.getElem?_eq_some_iff.1 hx).1; omega)) := List.getElem?_eq_getElem _
    exact chk1_1 A n c l x bp w _ hR hn (by omega) hy hE hbp hp
  | j + 2, hk, hx =>
    have hy : l[j + 1]? = some (l[j + 1]'(by have := (List.getElem?_eq_some_iff.1 hx).1; omega)) := List.getElem?_eq_getElem _
    have := chk1_2 A n c l x bp w j _ hR hn (by omega) hy hE hbp hp
    rw [show (((j + 2 : Nat)) : Int) = (j : Int) + 2 from by omega]
    exact this
set_option maxRecDepth 100000 in
set_option maxHeartbeats 2000000 in
theorem all_any (A : Option Addr) (n c : Nat) (l : List Rel) (bp : Nat) (w : World) (hE : Env w) (hbp : bp < w.heap.size) (hp : w.cell? ⟨bp, 0, none⟩ = some (.slice A n c))
    (hR : Reads w w.heap.size 6 A n (rels l)) (hn : n ≤ 65536) :
    Calls Tryd.prog 40 #[.slice A n c, .func (.func 41) #[] #[.pointer (some ⟨bp, 0, none⟩)]] w fun e w' => e = .returned (.bool (rowC l n)) ∧ Below w.heap.size w w' := by
  have hl : l.length = n := by have := hR.1; rw [rels_len] at this; omega
  have c31 : Tryd.prog.cellsOf 31 = 6 := by kernel_rfl
  have cc := fun (k : Nat) (x : Rel) (W : World) (hb : Below w.heap.size w W) (hk : k < n) (hx : l[k]? = some x) => chk1_any A n c l k x bp W (hE.below hb) (Nat.lt_of_lt_of_le hbp hb.size) (cell_below' hb hp hbp) ((hR.below hb).more hb.size) hn hk hx
  go_enter Tryd.func40, Tryd.ntmps40
  go_wp2_with fail
  go_loopw [9] (fun i wr => ∃ k : Nat, k ≤ n ∧ i = .int .i64 k ∧ rowC l k = true ∧ Below w.heap.size w wr)
    (fun i _ => n - (intOf i).toNat)
  case atStart => exact ⟨0, Nat.zero_le _, rfl, rfl, Below.refl _ _⟩
  case round =>
    obtain ⟨k, hk, rfl, hq, hb⟩ := hrel
    by_cases hlt : k < n
    · have e1 := List.getElem?_eq_getElem (l := l) (i := k) (by omega)
      generalize l[k]'(by omega) = x at e1
      have hs := rowC_step e1
      rw [hq, Bool.true_and] at hs
      have fc := fun W hb => cc k x W hb hlt e1
      obtain ⟨b, off, rfl, hbl, g⟩ := rels_cells hR e1
      obtain ⟨g10, g11, g12, g13, g14, g15⟩ := g.below hb hbl
      have hba := hb.alloc hb.size (Obj.cells #[.int .i64 x.i, .bool x.a, .bool x.e, .int .i64 x.w, .int .i64 x.t, .int .i64 x.r] 31)
      unfold relV at fc
      cases ht : okC l k x
      · rw [ht] at fc hs
        have HQ := Lib.hid (rowC_false hs (show k + 1 ≤ n from hlt))
        clear cc hq hs e1 g hR ht hE hp
        go_wp2_with (first
          | (go_at_call 41; with_reducible refine (fc _ hba).mono ?_; rintro e w' ⟨rfl, hb1⟩)
          | fail)
        try rw [Exit.noGoto_ret]
        go_ret
        exact ⟨ret_bool HQ.out.symm, hba.trans (hb1.mono hba.size)⟩
      · rw [ht] at fc hs
        have HQ := Lib.hid hs
        clear cc hq hs e1 g hR ht hE hp
        go_wp2_with (first
          | (go_at_call 41; with_reducible refine (fc _ hba).mono ?_; rintro e w' ⟨rfl, hb1⟩)
          | fail)
        go_roundw
        case rel => exact ⟨k + 1, by omega, by go_num, HQ.out, hba.trans (hb1.mono hba.size)⟩
        case measure => simp [intOf]; omega
    · have : k = n := by omega
      subst this
      have HQ := Lib.hid hq
      clear cc hq hR hE hp
      go_wp2_with fail
      try rw [Exit.noGoto_ret]
      go_ret
      exact ⟨ret_bool HQ.out.symm, hb⟩
theorem new1 {w W0 : World} {t : TypeId} {v0 : Value} (h : W0 = w.alloc (.cells #[v0] t)) : Below w.heap.size w W0 ∧ w.heap.size < W0.heap.size ∧ W0.cell? ⟨w.heap.size, 0, none⟩ = some v0 := by
  subst h
  have b := Blk.new w t #[v0]
  exact ⟨(Below.refl _ _).alloc (Nat.le_refl _) _, b.lt, b.cell 0⟩
def chkE (l : List Rel) : Int := if right l then 0 else 230
set_option maxRecDepth 100000 in
set_option maxHeartbeats 2000000 in
theorem check_any (A : Option Addr) (n c : Nat) (l : List Rel) (w : World) (hE : Env w) (hR : Reads w w.heap.size 6 A n (rels l)) (hn : n ≤ 65536) :
    Calls Tryd.prog 10 #[.slice A n c] w fun e w' => e = .returned (.int .i64 (chkE l)) ∧ Below w.heap.size w w' := by
  have hl : l.length = n := by have := hR.1; rw [rels_len] at this; omega
  obtain ⟨W0, hW0⟩ : ∃ W0, W0 = w.alloc (.cells #[.slice A n c] 22) := ⟨_, rfl⟩
  obtain ⟨hb0, hsz, c0⟩ := new1 hW0
  have ca := all_any A n c l w.heap.size W0 (hE.below hb0) hsz c0 ((hR.below hb0).more hb0.size) hn
  have key : (n < 2 ∧ chkE l = 230) ∨ (2 ≤ n ∧ 200 < n ∧ chkE l = 230) ∨ (2 ≤ n ∧ n ≤ 200 ∧ rowC l n = false ∧ chkE l = 230) ∨ (2 ≤ n ∧ n ≤ 200 ∧ rowC l n = true ∧ chkE l = 0) := by
    unfold chkE right
    rw [hl]
    by_cases h1 : n < 2
    · left; exact ⟨h1, by rw [decide_eq_false (by omega)]; rfl⟩
    · by_cases h2 : n ≤ 200
      · rw [decide_eq_true (show 2 ≤ n ∧ n ≤ 200 by omega)]
        right; right
        cases rowC l n
        · left; exact ⟨by omega, h2, rfl, rfl⟩
        · right; exact ⟨by omega, h2, rfl, rfl⟩
      · right; left; exact ⟨by omega, by omega, by rw [decide_eq_false (by omega)]; rfl⟩
  rcases key with ⟨h1, h4⟩ | ⟨h1, h2, h4⟩ | ⟨h1, h2, h3, h4⟩ | ⟨h1, h2, h3, h4⟩
  · rw [h4]
    clear h4 ca hR hE
    have h2 : decide ((2 : Int) ≤ (n : Int)) = false := decide_eq_false (by omega)
    subst hW0
    go_enter Tryd.func10, Tryd.ntmps10
    go_wp2_with fail
    go_ret
    exact ⟨rfl, hb0⟩
  · rw [h4]
    clear h4 ca hR hE
    have h3 : (2 : Int) ≤ (n : Int) := by omega
    have h5 : decide ((n : Int) ≤ 200) = false := decide_eq_false (by omega)
    subst hW0
    go_enter Tryd.func10, Tryd.ntmps10
    go_wp2_with fail
    go_ret
    exact ⟨rfl, hb0⟩
  all_goals
    rw [h4]
    rw [h3] at ca
    clear h4 h3 hR hE
    have h3 : (2 : Int) ≤ (n : Int) := by omega
    have h5 : (n : Int) ≤ 200 := by omega
    subst hW0
    go_enter Tryd.func10, Tryd.ntmps10
    go_wp2_with (first
          | (go_at_call 40; with_reducible refine ca.mono ?_; rintro e w' ⟨rfl, hb1⟩)
          | fail)
    go_ret
    exact ⟨rfl, hb0.trans (hb1.mono hb0.size)⟩
end Go.Proofs.YtibjelonabhcmaaDoor
