/- What is proved: contracts of types' may and Check. -/
import Derived.Test.YtibjelonabhcmaaDoorTrW
namespace Go.Proofs.YtibjelonabhcmaaDoor
open Go.RowKit
set_option linter.unusedVariables false
set_option linter.unusedSimpArgs false
def tmay (a : Int) : Bool := kd a == 2 || kd a == 3
theorem tmay_any (a : Int) (h : Word a) (w : World) : Calls Tryd.prog 44 #[.int .u64 a] w fun e w' => e = .returned (.bool (tmay a)) ∧ Below w.heap.size w w' := by
  unfold tmay
  have hk := kd_bd a
  have ck := fun w => kind_any a h w
  rcases (show kd a = 0 ∨ kd a = 1 ∨ kd a = 2 ∨ kd a = 3 ∨ kd a = 4 from by omega) with k | k | k | k | k
  all_goals
    rw [k] at ck ⊢
    clear hk k
    go_enter Tryd.func44, Tryd.ntmps44
    go_wp2_with (first
      | (go_at_call 50; (with_reducible refine (ck _).mono ?_); rintro e w2 ⟨rfl, hb2⟩)
      | fail)
    go_ret
    exact ⟨rfl, hb2⟩
def idAt (l : List Int) (m : Nat) : Int := match l[m]? with | some x => x | none => 0
def tyOk (l : List Int) : Nat → Bool
  | 0 => true
  | k + 1 => tyOk l k && (match l[k]? with | some x => tmay x && (k == 0 || decide (idAt l (k - 1) < x)) | none => true)
def tyR (l : List Int) : Bool := decide (l.length ≤ 12) && tyOk l l.length
def tyE (l : List Int) : Int := if tyR l then 0 else 130
theorem tyOk_false {l : List Int} {k n : Nat} (h : tyOk l k = false) (hk : k ≤ n) : tyOk l n = false := by
  induction n with
  | zero => have : k = 0 := by omega
            subst this; exact h
  | succ n ih =>
    rcases Nat.lt_or_ge n k with h2 | h2
    · have : k = n + 1 := by omega
      subst this; exact h
    · show (tyOk l n && _) = false
      rw [ih h2]; rfl
theorem tyOk_step {l : List Int} {k : Nat} {x : Int} (h : l[k]? = some x) : tyOk l (k + 1) = (tyOk l k && (tmay x && (k == 0 || decide (idAt l (k - 1) < x)))) := by
  show (tyOk l k && _) = _
  rw [h]
theorem ids_len (l : List Int) : (ids l).length = l.length := by unfold ids; rw [List.length_map]
theorem ids_cell {w : World} {B n : Nat} {A : Option Addr} {l : List Int} (h : Reads w B 1 A n (ids l)) {k : Nat} {x : Int} (hk : l[k]? = some x) :
    ∃ b off, A = some ⟨b, off, none⟩ ∧ b < B ∧ w.cell? ⟨b, off + k, none⟩ = some (.int .u64 x) := by
  have hn : k < n := by
    have h1 := h.1
    rw [ids_len] at h1
    have := (List.getElem?_eq_some_iff.1 hk).1
    omega
  obtain ⟨ad, u, rfl, hb, hu, hc⟩ := h.at_ hn
  obtain ⟨ad', u', e, _, _, hc'⟩ := h.at_ (show 0 < n by omega)
  injection e with e
  subst e
  unfold ids at hu
  rw [List.getElem?_map, hk] at hu
  cases hu
  obtain ⟨b, off, spot⟩ := ad
  have hspot : spot = none := by simpa [Addr.add] using World.cell?_spot hc'
  subst hspot
  exact ⟨b, off, rfl, hb, by rw [add_none] at hc; exact hc⟩
set_option maxRecDepth 100000 in
set_option maxHeartbeats 4000000 in
theorem tcheck_any (A : Option Addr) (n c : Nat) (l : List Int) (w : World) (hR : Reads w w.heap.size 1 A n (ids l)) (hW : ∀ x ∈ l, Word x) (hn : n ≤ 281474976710656) :
    Calls Tryd.prog 18 #[.slice A n c] w fun e w' => e = .returned (.int .i64 (tyE l)) ∧ Below w.heap.size w w' := by
  have hl : l.length = n := by have := hR.1; rw [ids_len] at this; omega
  by_cases hn12 : n ≤ 12
  · have hdec : decide ((n : Int) ≤ 12) = true := decide_eq_true (by omega)
    have he : tyE l = if tyOk l n then 0 else 130 := by unfold tyE tyR; rw [hl, decide_eq_true hn12, Bool.true_and]
    rw [he]
    clear he
    go_enter Tryd.func18, Tryd.ntmps18
    go_wp2
    go_step3
    go_wp2
    go_step3
    go_wp2
    go_loopw [3, 11] (fun o i wr => ∃ k : Nat, k ≤ n ∧ i = .int .i64 k ∧ o = .bool true ∧ tyOk l k = true ∧ Below w.heap.size w wr)
      (fun _ i _ => n - (intOf i).toNat)
    case atStart => exact ⟨0, Nat.zero_le _, rfl, rfl, rfl, Below.refl _ _⟩
    case round =>
      obtain ⟨k, hk, rfl, rfl, hq, hb⟩ := hrel
      by_cases hlt : k < n
      · have e1 := List.getElem?_eq_getElem (l := l) (i := k) (by omega)
        generalize l[k]'(by omega) = x at e1
        have hs := tyOk_step e1
        rw [hq, Bool.true_and] at hs
        have hwx : Word x := hW x (List.mem_of_getElem? e1)
        have cm := fun w => tmay_any x hwx w
        obtain ⟨b, off, rfl, hbl, g⟩ := ids_cell hR e1
        have g1 := cell_below' hb g hbl
        have hfalse := fun h : (tmay x && (k == 0 || decide (idAt l (k - 1) < x))) = false => Lib.hid (show (if tyOk l n = true then (0 : Int) else 130) = 130 from by rw [tyOk_false (hs.trans h) (show k + 1 ≤ n from hlt)]; rfl)
        have htrue := fun h : (tmay x && (k == 0 || decide (idAt l (k - 1) < x))) = true => Lib.hid (hs.trans h)
        clear hs hq e1 g
        cases hm : tmay x
        · have hF := hfalse (by rw [hm]; rfl)
          rw [hm] at cm
          clear hfalse htrue hm hR
          go_wp2_with (first
            | (go_at_call 44; (with_reducible refine (cm _).mono ?_); rintro e w2 ⟨rfl, hb2⟩)
            | fail)
          try rw [Exit.noGoto_ret]
          go_ret
          exact ⟨ret_int hF.out.symm, hb.trans (hb2.mono hb.size)⟩
        · cases k with
          | zero =>
            have hF := htrue (by rw [hm]; rfl)
            rw [hm] at cm
            simp only [Nat.add_zero] at g1
            clear hfalse htrue hm hR
            go_wp2_with (first
            | (go_at_call 44; (with_reducible refine (cm _).mono ?_); rintro e w2 ⟨rfl, hb2⟩)
            | fail)
            go_roundw
            case rel => exact ⟨1, by omega, rfl, rfl, hF.out, hb.trans (hb2.mono hb.size)⟩
            case measure => simp [intOf]; omega
          | succ j =>
            have hy : l[j]? = some (l[j]'(by omega)) := List.getElem?_eq_getElem _
            generalize l[j]'(by omega) = y at hy
            obtain ⟨b', off', e, _, gy⟩ := ids_cell hR hy
            injection e with e; injection e with e2 e3; subst e2 e3
            have y0 := fun (W : World) (h : Below wr.heap.size wr W) => cell_below' h (cell_below' hb gy hbl) (Nat.lt_of_lt_of_le hbl hb.size)
            have hid : idAt l (j + 1 - 1) = y := by show idAt l j = y; unfold idAt; rw [hy]
            rw [hid] at hfalse htrue
            have ht4 : ((j : Int) + 1 == 0) = false := by simp; omega
            have ht6 : (j : Int) < (n : Int) := by omega
            clear hR hy gy hid
            by_cases hlt2 : y < x
            · have hF := htrue (by rw [hm, decide_eq_true hlt2, Bool.or_true]; rfl)
              rw [hm] at cm
              clear hfalse htrue hm
              go_wp2_with (first
                | (go_at_call 44; (with_reducible refine (cm _).mono ?_); rintro e w2 ⟨rfl, hb2⟩; have y1 := y0 _ hb2)
                | fail)
              go_roundw
              case rel => exact ⟨j + 1 + 1, by omega, by go_num, rfl, hF.out, hb.trans (hb2.mono hb.size)⟩
              case measure => simp [intOf]; omega
            · have hd : decide (y < x) = false := decide_eq_false hlt2
              have hF := hfalse (by rw [hm, hd]; simp)
              rw [hm] at cm
              clear hfalse htrue hm
              go_wp2_with (first
                | (go_at_call 44; (with_reducible refine (cm _).mono ?_); rintro e w2 ⟨rfl, hb2⟩; have y1 := y0 _ hb2)
                | fail)
              try rw [Exit.noGoto_ret]
              go_ret
              exact ⟨ret_int hF.out.symm, hb.trans (hb2.mono hb.size)⟩
      · have : k = n := by omega
        subst this
        have HQ := Lib.hid (show (if tyOk l k = true then (0 : Int) else 130) = 0 from by rw [hq]; rfl)
        clear hR hq
        go_wp2_with fail
        try rw [Exit.noGoto_ret]
        go_ret
        exact ⟨ret_int HQ.out.symm, hb⟩
  · have hdec : decide ((n : Int) ≤ 12) = false := decide_eq_false (by omega)
    have he : tyE l = 130 := by unfold tyE tyR; rw [hl, decide_eq_false hn12]; rfl
    rw [he]
    have e1 := List.getElem?_eq_getElem (l := l) (i := 0) (by omega)
    generalize l[0]'(by omega) = x at e1
    obtain ⟨b, off, rfl, hbl, g⟩ := ids_cell hR e1
    simp only [Nat.add_zero] at g
    have t1 : (0 : Int) < (n : Int) := by omega
    have t2 : 0 < n := by omega
    clear he hR e1
    go_enter Tryd.func18, Tryd.ntmps18
    go_wp2
    go_step3
    go_wp2
    go_step3
    go_wp2
    go_loopw [3, 11] (fun o i wr => i = .int .i64 0 ∧ o = .bool false ∧ wr = w) (fun _ i _ => n - (intOf i).toNat)
    case atStart => exact ⟨rfl, rfl, rfl⟩
    case round =>
      obtain ⟨rfl, rfl, rfl⟩ := hrel
      go_wp2_with fail
      try rw [Exit.noGoto_ret]
      go_ret
      exact ⟨rfl, Below.refl _ _⟩
end Go.Proofs.YtibjelonabhcmaaDoor
