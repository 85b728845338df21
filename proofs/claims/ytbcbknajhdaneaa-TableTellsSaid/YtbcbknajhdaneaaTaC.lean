/- What is proved: rows of words; contracts of types. may and Check. Printed by mkTa.py. -/
import Derived.Test.YtbcbknajhdaneaaProg
import Derived.Test.YtbcbknajhdaneaaTaB
import Derived.WalkKit
import Derived.WalkLawsBesides
import Derived.WalkSpells
import Derived.Deep.QuietTactic
import Derived.BigQuiet
import Derived.Deep.RegionHeld3
import Derived.Deep.RegionWith
import Derived.Deep.OwnRows
import Derived.Lib.Hide
import Derived.Lib.SliceRun
namespace Go.Proofs.Ytbcbknajhdaneaa
open Go.RowKit
set_option linter.unusedVariables false
set_option linter.unusedSimpArgs false
theorem word_wf {a : Int} (h : (Lit.int .u64 a).wf = true) : Word a := by
  have hmin : IntKind.u64.min = 0 := rfl
  have hmax : IntKind.u64.max = 18446744073709551615 := rfl
  simp only [Lit.wf, Bool.and_eq_true, decide_eq_true_eq] at h
  rw [hmin, hmax] at h
  exact h
theorem add_none (b off m : Nat) : (⟨b, off, none⟩ : Addr).add m = ⟨b, off + m, none⟩ := by
  unfold Addr.add
  split
  · rename_i h; subst h; simp
  · rfl
theorem take_snoc {α : Type} {l : List α} {k : Nat} {x : α} (h : l[k]? = some x) : l.take (k + 1) = l.take k ++ [x] := by
  obtain ⟨hk, rfl⟩ := List.getElem?_eq_some_iff.1 h
  rw [List.take_succ_eq_append_getElem hk]
theorem drop_cons {α : Type} {l : List α} {k : Nat} {x : α} (h : l[k]? = some x) : l.drop k = x :: l.drop (k + 1) := by
  obtain ⟨hk, e⟩ := List.getElem?_eq_some_iff.1 h
  rw [← List.getElem_cons_drop hk, e]
def ids (l : List Int) : List Value := l.map (Value.int .u64)
theorem ids_len (l : List Int) : (ids l).length = l.length := by unfold ids; rw [List.length_map]
theorem ids_one (l : List Int) : ∀ u ∈ ids l, u.oneCell' = true := by
  intro u hu
  obtain ⟨x, _, rfl⟩ := List.mem_map.1 hu
  rfl
theorem Reads.pre1 {w : World} {B n m : Nat} {A : Option Addr} {l : List Int} (h : Reads w B 1 A n (ids l)) (hm : m ≤ n) : Reads w B 1 A m (ids (l.take m)) := by
  have h1 := h.1
  rw [ids_len] at h1
  refine ⟨by rw [ids_len, List.length_take]; omega, fun h0 => ?_⟩
  obtain ⟨ad, e, hb, hc⟩ := h.2 (by omega)
  refine ⟨ad, e, hb, fun j u hu => hc j u ?_⟩
  unfold ids at hu ⊢
  rw [List.map_take, List.getElem?_take] at hu
  split at hu
  · exact hu
  · cases hu
theorem ids_cell {w : World} {B n : Nat} {A : Option Addr} {l : List Int} (h : Reads w B 1 A n (ids l)) {k : Nat} {x : Int} (hk : l[k]? = some x) :
    ∃ b off, A = some ⟨b, off, none⟩ ∧ b < B ∧ w.cell? ⟨b, off + k, none⟩ = some (.int .u64 x) := by
  have hn : k < n := by
    have h1 := h.1
    rw [ids_len] at h1
    have := (List.getElem?_eq_some_iff.1 hk).1
    omega
  obtain ⟨ad, u, rfl, hb, hu, hc⟩ := h.at_ hn
  obtain ⟨ad', u', e, _, _, hc'⟩ := h.at_ (show 0 < n by omega)
  injection e with e
  subst e
  unfold ids at hu
  rw [List.getElem?_map, hk] at hu
  cases hu
  obtain ⟨b, off, spot⟩ := ad
  have hspot : spot = none := by simpa [Addr.add] using World.cell?_spot hc'
  subst hspot
  exact ⟨b, off, rfl, hb, by rw [add_none] at hc; exact hc⟩
theorem own_slice {w : World} {base n : Nat} {e : TypeId} {size : Nat} {v : Value} {xs : List Value} (ho : w.ownsRow base e size v n xs) : ∃ A c, v = .slice A n c := by
  rcases ho.2 with ⟨rfl, rfl⟩ | ⟨g, cap, cur, rfl, _⟩
  · exact ⟨_, _, rfl⟩
  · exact ⟨_, _, rfl⟩
theorem own_cap {w : World} {base n : Nat} {e : TypeId} {size : Nat} {v : Value} {xs : List Value} (ho : w.ownsRow base e size v n xs) : ∃ A c, v = .slice A n c ∧ n ≤ c ∧ c ≤ 9223372036854775807 := by
  rcases ho.2 with ⟨rfl, rfl⟩ | ⟨g, cap, cur, rfl, _, _, h3, h4, _⟩
  · exact ⟨_, _, rfl, Nat.le_refl _, by omega⟩
  · exact ⟨_, _, rfl, h3, by unfold maxLen at h4; exact h4⟩
theorem base_le {w : World} {B B' n : Nat} {e : TypeId} {size : Nat} {v : Value} {xs : List Value} (h : w.ownsRow B e size v n xs) (hB : B' ≤ B) : w.ownsRow B' e size v n xs := by
  refine ⟨h.1, ?_⟩
  rcases h.2 with h2 | ⟨g, cap, cur, rfl, h1, r⟩
  · exact .inl h2
  · exact .inr ⟨g, cap, cur, rfl, by omega, r⟩
theorem own_grown_below {W w w' : World} {n : Nat} {e : TypeId} {size : Nat} {v : Value} {xs : List Value} (hb : Below W.heap.size W w) (ho : w.ownsRow W.heap.size e size v n xs) (hg : w.grownBy w' v.ownBlock) : Below W.heap.size W w' := by
  refine hb.grown hg hb.size fun k hk => ?_
  rcases ho.2 with ⟨rfl, _⟩ | ⟨g, cap, cur, rfl, h1, _⟩
  · simp [Value.ownBlock] at hk
  · simp [Value.ownBlock] at hk; omega
theorem own_below {w w' : World} {base n : Nat} {e : TypeId} {size : Nat} {v : Value} {xs : List Value} (h : w.ownsRow base e size v n xs) (hb : Below w.heap.size w w') : w'.ownsRow base e size v n xs := by
  refine ⟨h.1, ?_⟩
  rcases h.2 with h2 | ⟨g, cap, cur, rfl, h1, h2, r⟩
  · exact .inl h2
  · refine .inr ⟨g, cap, cur, rfl, h1, (hb.block g ?_).trans h2, r⟩
    rcases Nat.lt_or_ge g w.heap.size with hlt | hge
    · exact hlt
    · rw [Array.getElem?_eq_none hge] at h2; cases h2
theorem info_parts {i : Option TypeInfo} {z : Value} {a b : Nat} (h : i.map (fun i => (i.zero, i.size, i.bytes)) = some (some z, a, b)) : ∃ i0, i = some i0 ∧ i0.zero = some z ∧ i0.size = a ∧ i0.bytes = b := by
  cases i with
  | none => cases h
  | some i0 => simp at h; exact ⟨i0, rfl, h.1, h.2.1, h.2.2⟩
def tmay (a : Int) : Bool := kd a == 2 || kd a == 3
theorem tmay_any (a : Int) (h : Word a) (w : World) : Calls Try.prog 121 #[.int .u64 a] w fun e w' => e = .returned (.bool (tmay a)) ∧ Below w.heap.size w w' := by
  unfold tmay
  have hk := kd_bd a
  have ck := fun w => kind_any a h w
  rcases (show kd a = 0 ∨ kd a = 1 ∨ kd a = 2 ∨ kd a = 3 ∨ kd a = 4 from by omega) with k | k | k | k | k
  all_goals
    rw [k] at ck ⊢
    clear hk k
    go_enter Try.func121, Try.ntmps121
    go_wp2_with (first
      | (go_at_call 65; (with_reducible refine (ck _).mono ?_); rintro e w2 ⟨rfl, hb2⟩)
      | fail)
    go_ret
    exact ⟨rfl, hb2⟩
def idAt (l : List Int) (m : Nat) : Int := match l[m]? with | some x => x | none => 0
def tyOk (l : List Int) : Nat → Bool
  | 0 => true
  | k + 1 => tyOk l k && (match l[k]? with | some x => tmay x && (k == 0 || decide (idAt l (k - 1) < x)) | none => true)
def tyR (l : List Int) : Bool := decide (l.length ≤ 12) && tyOk l l.length
def tyE (l : List Int) : Int := if tyR l then 0 else 130
theorem tyOk_false {l : List Int} {k n : Nat} (h : tyOk l k = false) (hk : k ≤ n) : tyOk l n = false := by
  induction n with
  | zero => have : k = 0 := by omega
            subst this; exact h
  | succ n ih =>
    rcases Nat.lt_or_ge n k with h2 | h2
    · have : k = n + 1 := by omega
      subst this; exact h
    · show (tyOk l n && _) = false
      rw [ih h2]; rfl
theorem tyOk_step {l : List Int} {k : Nat} {x : Int} (h : l[k]? = some x) : tyOk l (k + 1) = (tyOk l k && (tmay x && (k == 0 || decide (idAt l (k - 1) < x)))) := by
  show (tyOk l k && _) = _
  rw [h]
set_option maxRecDepth 100000 in
set_option maxHeartbeats 4000000 in
theorem tcheck_any (A : Option Addr) (n c : Nat) (l : List Int) (w : World) (hR : Reads w w.heap.size 1 A n (ids l)) (hW : ∀ x ∈ l, Word x) (hn : n ≤ 281474976710656) :
    Calls Try.prog 87 #[.slice A n c] w fun e w' => e = .returned (.int .i64 (tyE l)) ∧ Below w.heap.size w w' := by
  have hl : l.length = n := by have := hR.1; rw [ids_len] at this; omega
  by_cases hn12 : n ≤ 12
  · have hdec : decide ((n : Int) ≤ 12) = true := decide_eq_true (by omega)
    have he : tyE l = if tyOk l n then 0 else 130 := by unfold tyE tyR; rw [hl, decide_eq_true hn12, Bool.true_and]
    rw [he]
    clear he
    go_enter Try.func87, Try.ntmps87
    go_wp2
    go_step3
    go_wp2
    go_step3
    go_wp2
    go_loopw [3, 11] (fun o i wr => ∃ k : Nat, k ≤ n ∧ i = .int .i64 k ∧ o = .bool true ∧ tyOk l k = true ∧ Below w.heap.size w wr)
      (fun _ i _ => n - (intOf i).toNat)
    case atStart => exact ⟨0, Nat.zero_le _, rfl, rfl, rfl, Below.refl _ _⟩
    case round =>
      obtain ⟨k, hk, rfl, rfl, hq, hb⟩ := hrel
      by_cases hlt : k < n
      · have e1 := List.getElem?_eq_getElem (l := l) (i := k) (by omega)
        generalize l[k]'(by omega) = x at e1
        have hs := tyOk_step e1
        rw [hq, Bool.true_and] at hs
        have hwx : Word x := hW x (List.mem_of_getElem? e1)
        have cm := fun w => tmay_any x hwx w
        obtain ⟨b, off, rfl, hbl, g⟩ := ids_cell hR e1
        have g1 := cell_below' hb g hbl
        have hfalse := fun h : (tmay x && (k == 0 || decide (idAt l (k - 1) < x))) = false => Lib.hid (show (if tyOk l n = true then (0 : Int) else 130) = 130 from by rw [tyOk_false (hs.trans h) (show k + 1 ≤ n from hlt)]; rfl)
        have htrue := fun h : (tmay x && (k == 0 || decide (idAt l (k - 1) < x))) = true => Lib.hid (hs.trans h)
        clear hs hq e1 g
        cases hm : tmay x
        · have hF := hfalse (by rw [hm]; rfl)
          rw [hm] at cm
          clear hfalse htrue hm hR
          go_wp2_with (first
            | (go_at_call 121; (with_reducible refine (cm _).mono ?_); rintro e w2 ⟨rfl, hb2⟩)
            | fail)
          try rw [Exit.noGoto_ret]
          go_ret
          exact ⟨ret_int hF.out.symm, hb.trans (hb2.mono hb.size)⟩
        · cases k with
          | zero =>
            have hF := htrue (by rw [hm]; rfl)
            rw [hm] at cm
            simp only [Nat.add_zero] at g1
            clear hfalse htrue hm hR
            go_wp2_with (first
            | (go_at_call 121; (with_reducible refine (cm _).mono ?_); rintro e w2 ⟨rfl, hb2⟩)
            | fail)
            go_roundw
            case rel => exact ⟨1, by omega, rfl, rfl, hF.out, hb.trans (hb2.mono hb.size)⟩
            case measure => simp [intOf]; omega
          | succ j =>
            have hy : l[j]? = some (l[j]'(by omega)) := List.getElem?_eq_getElem _
            generalize l[j]'(by omega) = y at hy
            obtain ⟨b', off', e, _, gy⟩ := ids_cell hR hy
            injection e with e; injection e with e2 e3; subst e2 e3
            have y0 := fun (W : World) (h : Below wr.heap.size wr W) => cell_below' h (cell_below' hb gy hbl) (Nat.lt_of_lt_of_le hbl hb.size)
            have hid : idAt l (j + 1 - 1) = y := by show idAt l j = y; unfold idAt; rw [hy]
            rw [hid] at hfalse htrue
            have ht4 : ((j : Int) + 1 == 0) = false := by simp; omega
            have ht6 : (j : Int) < (n : Int) := by omega
            clear hR hy gy hid
            by_cases hlt2 : y < x
            · have hF := htrue (by rw [hm, decide_eq_true hlt2, Bool.or_true]; rfl)
              rw [hm] at cm
              clear hfalse htrue hm
              go_wp2_with (first
                | (go_at_call 121; (with_reducible refine (cm _).mono ?_); rintro e w2 ⟨rfl, hb2⟩; have y1 := y0 _ hb2)
                | fail)
              go_roundw
              case rel => exact ⟨j + 1 + 1, by omega, by go_num, rfl, hF.out, hb.trans (hb2.mono hb.size)⟩
              case measure => simp [intOf]; omega
            · have hd : decide (y < x) = false := decide_eq_false hlt2
              have hF := hfalse (by rw [hm, hd]; simp)
              rw [hm] at cm
              clear hfalse htrue hm
              go_wp2_with (first
                | (go_at_call 121; (with_reducible refine (cm _).mono ?_); rintro e w2 ⟨rfl, hb2⟩; have y1 := y0 _ hb2)
                | fail)
              try rw [Exit.noGoto_ret]
              go_ret
              exact ⟨ret_int hF.out.symm, hb.trans (hb2.mono hb.size)⟩
      · have : k = n := by omega
        subst this
        have HQ := Lib.hid (show (if tyOk l k = true then (0 : Int) else 130) = 0 from by rw [hq]; rfl)
        clear hR hq
        go_wp2_with fail
        try rw [Exit.noGoto_ret]
        go_ret
        exact ⟨ret_int HQ.out.symm, hb⟩
  · have hdec : decide ((n : Int) ≤ 12) = false := decide_eq_false (by omega)
    have he : tyE l = 130 := by unfold tyE tyR; rw [hl, decide_eq_false hn12]; rfl
    rw [he]
    have e1 := List.getElem?_eq_getElem (l := l) (i := 0) (by omega)
    generalize l[0]'(by omega) = x at e1
    obtain ⟨b, off, rfl, hbl, g⟩ := ids_cell hR e1
    simp only [Nat.add_zero] at g
    have t1 : (0 : Int) < (n : Int) := by omega
    have t2 : 0 < n := by omega
    clear he hR e1
    go_enter Try.func87, Try.ntmps87
    go_wp2
    go_step3
    go_wp2
    go_step3
    go_wp2
    go_loopw [3, 11] (fun o i wr => i = .int .i64 0 ∧ o = .bool false ∧ wr = w) (fun _ i _ => n - (intOf i).toNat)
    case atStart => exact ⟨rfl, rfl, rfl⟩
    case round =>
      obtain ⟨rfl, rfl, rfl⟩ := hrel
      go_wp2_with fail
      try rw [Exit.noGoto_ret]
      go_ret
      exact ⟨rfl, Below.refl _ _⟩
end Go.Proofs.Ytbcbknajhdaneaa
