/- What is proved: the contracts of Kind, Parts and Takes of package ident. the contracts of Entity, Component, Pair, and of the reference's functions over bits. rows of words; contracts of types. may and Check. Printed by mkTa.py. contracts of slices.Clone and Equal at values, words, ids and numbers. Printed by mkTa.py. columns: contracts of column's Check and Same and of the document's Right and Same. contracts of column's Check. Printed by mkTaF.py. contracts of column's Same and of the document's. contracts of package value's Check, Same, Zero and of the document's Compare and Same. Printed by mkTaH.py. contracts of the document's May, Right, Same of types, and of its Index and Has of entities. rows of columns, and tables; the document's Same of types. the document's Right of tables. slices.EqualFunc at columns, with column.Same. table's Same. -/
import Derived.Test.YtbcbknajhdaneaaVIdB
import Derived.Test.YtbcbknajhdaneaaProg
import Derived.WalkKit
import Derived.WalkLawsBesides
import Derived.WalkSpells
import Derived.Deep.QuietTactic
import Derived.BigQuiet
import Derived.Deep.RegionHeld3
import Derived.Deep.RegionWith
import Derived.Deep.OwnRows
import Derived.Lib.Hide
import Derived.Lib.SliceRun
namespace Go.Proofs.Ytbcbknajhdaneaa
open Go.RowKit
set_option linter.unusedVariables false
set_option linter.unusedSimpArgs false
def tk (a : Int) (j : Nat) : Bool :=
  if j = 1 then ((a == hi a * 4294967296 + lo a) && inn 1 1048578 [lo a] && inn 0 7 [hi a])
  else if j = 2 then ((a == 4611686018427387904 + lo a) && inn 1 24 [lo a])
  else if j = 3 then ((a == 9223372036854775808 + hi a * 4294967296 + lo a) && inn 1 1048578 [hi a, lo a])
  else ((a == 9223372036854775808 + hi a * 4294967296 + lo a) && inn 0 1048578 [hi a, lo a])
theorem tk1 (a : Int) : tk a 1 = ((a == hi a * 4294967296 + lo a) && inn 1 1048578 [lo a] && inn 0 7 [hi a]) := rfl
theorem tk2 (a : Int) : tk a 2 = ((a == 4611686018427387904 + lo a) && inn 1 24 [lo a]) := rfl
theorem tk3 (a : Int) : tk a 3 = ((a == 9223372036854775808 + hi a * 4294967296 + lo a) && inn 1 1048578 [hi a, lo a]) := rfl
theorem tk4 (a : Int) : tk a 4 = ((a == 9223372036854775808 + hi a * 4294967296 + lo a) && inn 0 1048578 [hi a, lo a]) := rfl
def kd (a : Int) : Int := if tk a 1 then 1 else if tk a 2 then 2 else if tk a 3 then 3 else if tk a 4 then 4 else 0
def Pre (a : Int) (k : Nat) : Prop := ∀ j, 1 ≤ j → j < k → tk a j = false
theorem pre_step {a : Int} {k : Nat} (h : Pre a k) (h2 : tk a k = false) : Pre a (k + 1) := fun j h1 hj => by
  rcases Nat.lt_or_ge j k with h3 | h3
  · exact h j h1 h3
  · have : j = k := by omega
    subst this; exact h2
theorem kd_at {a : Int} {k : Nat} (h : Pre a k) (h1 : 1 ≤ k) (h4 : k ≤ 4) (h2 : tk a k = true) : kd a = k := by
  unfold kd
  rcases (show k = 1 ∨ k = 2 ∨ k = 3 ∨ k = 4 from by omega) with rfl | rfl | rfl | rfl
  · rw [if_pos h2]; rfl
  · rw [h 1 (by omega) (by omega), h2]; rfl
  · rw [h 1 (by omega) (by omega), h 2 (by omega) (by omega), h2]; rfl
  · rw [h 1 (by omega) (by omega), h 2 (by omega) (by omega), h 3 (by omega) (by omega), h2]; rfl
theorem kd_none {a : Int} (h : Pre a 5) : kd a = 0 := by
  unfold kd
  rw [h 1 (by omega) (by omega), h 2 (by omega) (by omega), h 3 (by omega) (by omega), h 4 (by omega) (by omega)]; rfl
theorem cell_below' {B : Nat} {w w' : World} {b i : Nat} {v : Value} (hb : Below B w w') (h : w.cell? ⟨b, i, none⟩ = some v) (hlt : b < B) : w'.cell? ⟨b, i, none⟩ = some v := (hb.cell (p := ⟨b, i, none⟩) hlt).trans h
theorem hbe_tr {w w1 w2 : World} (h : Below w.heap.size w w1) (h2 : Below w1.heap.size w1 w2) : Below w.heap.size w w2 := h.trans (h2.mono h.size)
set_option maxHeartbeats 4000000 in
theorem kind_any (a : Int) (h : Word a) (w : World) :
    Calls Try.prog 65 #[.int .u64 a] w fun e w' => e = .returned (.int .i64 (kd a)) ∧ Below w.heap.size w w' := by
  have hmf : ∀ (fn : Fn) (first cap : Array Value) (w : World), (Instr.makeFunc fn first cap).run Try.prog w = .ok (.func fn first cap) w := fun _ _ _ _ => rfl
  have ph := hi_bd a
  have pl := lo_bd a
  go_enter Try.func65, Try.ntmps65
  go_wp2_with (first | (go_at_call 104; refine (halves_any _ h _).mono ?_; rintro e w' ⟨rfl, rfl⟩))
  have z0 : ∀ (w : World) (o : Obj), (w.alloc o).heap.size = w.heap.size + 1 := fun w o => by simp
  obtain ⟨W0, hW0⟩ : ∃ W0, W0 = (((w.alloc (Obj.cells #[Value.int .u64 a] 27)).alloc (Obj.cells #[Value.int .i64 (hi a)] 3)).alloc (Obj.cells #[Value.int .i64 (lo a)] 3)).alloc
    (Obj.cells #[.nilFunc, .func (.func 105) #[] #[.pointer (some ⟨w.heap.size, 0, none⟩), .pointer (some ⟨w.heap.size + 1, 0, none⟩), .pointer (some ⟨w.heap.size + 1 + 1, 0, none⟩)],
      .func (.func 108) #[] #[.pointer (some ⟨w.heap.size, 0, none⟩), .pointer (some ⟨w.heap.size + 1 + 1, 0, none⟩)],
      .func (.func 109) #[] #[.pointer (some ⟨w.heap.size, 0, none⟩), .pointer (some ⟨w.heap.size + 1, 0, none⟩), .pointer (some ⟨w.heap.size + 1 + 1, 0, none⟩)],
      .func (.func 110) #[] #[.pointer (some ⟨w.heap.size, 0, none⟩), .pointer (some ⟨w.heap.size + 1, 0, none⟩), .pointer (some ⟨w.heap.size + 1 + 1, 0, none⟩)]] 142) := ⟨_, rfl⟩
  have hsz : W0.heap.size = w.heap.size + 4 := by rw [hW0]; simp
  have hb0 : Below w.heap.size w W0 := by rw [hW0]; exact ((((Below.refl _ _).alloc (by simp) _).alloc (by simp) _).alloc (by simp; omega) _).alloc (by simp; omega) _
  have c0 : W0.cell? ⟨w.heap.size, 0, none⟩ = some (.int .u64 a) := by rw [hW0]; simp [go_sem, World.cell?_alloc_past]
  have c1 : W0.cell? ⟨w.heap.size + 1, 0, none⟩ = some (.int .i64 (hi a)) := by rw [hW0]; simp [go_sem, World.cell?_alloc_past]
  have c2 : W0.cell? ⟨w.heap.size + 1 + 1, 0, none⟩ = some (.int .i64 (lo a)) := by rw [hW0]; simp [go_sem, World.cell?_alloc_past]
  have d1 : W0.cell? ⟨w.heap.size + 1 + 1 + 1, 1, none⟩ = some (.func (.func 105) #[] #[.pointer (some ⟨w.heap.size, 0, none⟩), .pointer (some ⟨w.heap.size + 1, 0, none⟩), .pointer (some ⟨w.heap.size + 1 + 1, 0, none⟩)]) := by rw [hW0]; simp [go_sem, World.cell?_alloc_past]
  have d2 : W0.cell? ⟨w.heap.size + 1 + 1 + 1, 2, none⟩ = some (.func (.func 108) #[] #[.pointer (some ⟨w.heap.size, 0, none⟩), .pointer (some ⟨w.heap.size + 1 + 1, 0, none⟩)]) := by rw [hW0]; simp [go_sem, World.cell?_alloc_past]
  have d3 : W0.cell? ⟨w.heap.size + 1 + 1 + 1, 3, none⟩ = some (.func (.func 109) #[] #[.pointer (some ⟨w.heap.size, 0, none⟩), .pointer (some ⟨w.heap.size + 1, 0, none⟩), .pointer (some ⟨w.heap.size + 1 + 1, 0, none⟩)]) := by rw [hW0]; simp [go_sem, World.cell?_alloc_past]
  have d4 : W0.cell? ⟨w.heap.size + 1 + 1 + 1, 4, none⟩ = some (.func (.func 110) #[] #[.pointer (some ⟨w.heap.size, 0, none⟩), .pointer (some ⟨w.heap.size + 1, 0, none⟩), .pointer (some ⟨w.heap.size + 1 + 1, 0, none⟩)]) := by rw [hW0]; simp [go_sem, World.cell?_alloc_past]
  rw [← hW0]
  clear hW0 z0
  go_loopw [6] (fun i wr => ∃ k : Nat, 1 ≤ k ∧ k ≤ 5 ∧ i = .int .i64 k ∧ Pre a k ∧ Below W0.heap.size W0 wr)
    (fun i _ => 5 - (intOf i).toNat)
  case atStart => exact ⟨1, by omega, by omega, rfl, fun j h1 h2 => by omega, Below.refl _ _⟩
  case round =>
    obtain ⟨k, hk1, hk5, rfl, hpre, hbw⟩ := hrel
    have hP := Lib.hid hpre
    clear hpre
    have hbe := hb0.trans (hbw.mono hb0.size)
    have hz := hbw.size
    have g0 := cell_below hbw c0 (by omega)
    have g1 := cell_below hbw c1 (by omega)
    have g2 := cell_below hbw c2 (by omega)
    rcases (show k = 1 ∨ k = 2 ∨ k = 3 ∨ k = 4 ∨ k = 5 from by omega) with rfl | rfl | rfl | rfl | rfl
    · have e1 := cell_below' (i := 1) hbw d1 (by omega)
      clear d1 d2 d3 d4 c0 c1 c2
      go_wp2_with (first | (go_at_call 105; refine (kind1_any a (hi a) (lo a) _ _ _ _ (by omega) (by omega) (by omega) g0 g1 g2 ph pl).mono ?_; rw [← tk1]; rintro e w2 ⟨rfl, hb2⟩))
      · have ht : tk a 1 = true := by assumption
        go_ret
        exact ⟨ret_int (kd_at hP.out (by omega) (by omega) ht).symm, hbe.trans (hb2.mono hbe.size)⟩
      · have ht : tk a 1 = false := by assumption
        go_roundw
        case rel => exact ⟨2, by omega, by omega, rfl, pre_step hP.out ht, hbw.trans (hb2.mono hbw.size)⟩
        case measure => simp [intOf]
    · have e1 := cell_below' (i := 2) hbw d2 (by omega)
      clear d1 d2 d3 d4 c0 c1 c2
      go_wp2_with (first | (go_at_call 108; refine (kind2_any a (lo a) _ _ _ (by omega) (by omega) g0 g2 pl).mono ?_; rw [← tk2]; rintro e w2 ⟨rfl, hb2⟩))
      · have ht : tk a 2 = true := by assumption
        go_ret
        exact ⟨ret_int (kd_at hP.out (by omega) (by omega) ht).symm, hbe.trans (hb2.mono hbe.size)⟩
      · have ht : tk a 2 = false := by assumption
        go_roundw
        case rel => exact ⟨3, by omega, by omega, rfl, pre_step hP.out ht, hbw.trans (hb2.mono hbw.size)⟩
        case measure => simp [intOf]
    · have e1 := cell_below' (i := 3) hbw d3 (by omega)
      clear d1 d2 d3 d4 c0 c1 c2
      go_wp2_with (first | (go_at_call 109; refine (kind3_any a (hi a) (lo a) _ _ _ _ (by omega) (by omega) (by omega) g0 g1 g2 ph pl).mono ?_; rw [← tk3]; rintro e w2 ⟨rfl, hb2⟩))
      · have ht : tk a 3 = true := by assumption
        go_ret
        exact ⟨ret_int (kd_at hP.out (by omega) (by omega) ht).symm, hbe.trans (hb2.mono hbe.size)⟩
      · have ht : tk a 3 = false := by assumption
        go_roundw
        case rel => exact ⟨4, by omega, by omega, rfl, pre_step hP.out ht, hbw.trans (hb2.mono hbw.size)⟩
        case measure => simp [intOf]
    · have e1 := cell_below' (i := 4) hbw d4 (by omega)
      clear d1 d2 d3 d4 c0 c1 c2
      go_wp2_with (first | (go_at_call 110; refine (kind4_any a (hi a) (lo a) _ _ _ _ (by omega) (by omega) (by omega) g0 g1 g2 ph pl).mono ?_; rw [← tk4]; rintro e w2 ⟨rfl, hb2⟩))
      · have ht : tk a 4 = true := by assumption
        go_ret
        exact ⟨ret_int (kd_at hP.out (by omega) (by omega) ht).symm, hbe.trans (hb2.mono hbe.size)⟩
      · have ht : tk a 4 = false := by assumption
        go_roundw
        case rel => exact ⟨5, by omega, by omega, rfl, pre_step hP.out ht, hbw.trans (hb2.mono hbw.size)⟩
        case measure => simp [intOf]
    · clear d1 d2 d3 d4 c0 c1 c2
      go_wp2_with fail
      go_ret
      exact ⟨ret_int (kd_none hP.out).symm, hbe⟩
theorem kd_bd (a : Int) : 0 ≤ kd a ∧ kd a ≤ 4 := by unfold kd; (repeat' split) <;> omega
def pa (a : Int) : Int := if kd a = 1 ∨ kd a = 2 then lo a else if kd a = 3 ∨ kd a = 4 then hi a else 0
def pb (a : Int) : Int := if kd a = 1 ∨ kd a = 2 then hi a else if kd a = 3 ∨ kd a = 4 then lo a else 0
theorem parts_any (a : Int) (h : Word a) (w : World) :
    Calls Try.prog 64 #[.int .u64 a] w fun e w' => e = .returned (.tuple #[.int .i64 (pa a), .int .i64 (pb a)]) ∧ Below w.heap.size w w' := by
  have hd := kd_bd a
  rcases (show kd a = 0 ∨ kd a = 1 ∨ kd a = 2 ∨ kd a = 3 ∨ kd a = 4 from by omega) with k | k | k | k | k
  all_goals
    have e1 := Lib.hid (show pa a = _ from rfl)
    unfold pa pb
    rw [k]
    clear hd e1
    go_enter Try.func64, Try.ntmps64
    go_wp2_with (first | (go_at_call 104; refine (halves_any _ h _).mono ?_; rintro e w' ⟨rfl, rfl⟩) | (go_at_call 65; refine (kind_any _ h _).mono ?_; rintro e w2 ⟨rfl, hb2⟩))
    go_ret2
    exact ⟨by simp, hb2⟩
end Go.Proofs.Ytbcbknajhdaneaa
namespace Go.Proofs.Ytbcbknajhdaneaa
open Go.RowKit
set_option linter.unusedVariables false
set_option linter.unusedSimpArgs false
theorem made_any (m s f : Int) (hm : Mark m) (hs : Part s) (hf : Part f) (w : World) :
    Calls Try.prog 30 #[.int .u64 m, .int .i64 s, .int .i64 f] w fun e w' => e = .returned (.int .u64 (m + s * 4294967296 + f)) ∧ w = w' := by
  obtain ⟨s0, s1⟩ := hs
  obtain ⟨f0, f1⟩ := hf
  have hmb : 0 ≤ m ∧ m ≤ 9223372036854775808 := by rcases hm with rfl | rfl | rfl <;> omega
  clear hm
  obtain ⟨m0, m1⟩ := hmb
  go_enter Try.func30, Try.ntmps30
  go_wp2
  go_ret
  exact ⟨rfl, rfl⟩
end Go.Proofs.Ytbcbknajhdaneaa
namespace Go.Proofs.Ytbcbknajhdaneaa
open Go.RowKit
set_option linter.unusedVariables false
set_option linter.unusedSimpArgs false
theorem add_none (b off m : Nat) : (⟨b, off, none⟩ : Addr).add m = ⟨b, off + m, none⟩ := by
  unfold Addr.add
  split
  · rename_i h; subst h; simp
  · rfl
theorem take_snoc {α : Type} {l : List α} {k : Nat} {x : α} (h : l[k]? = some x) : l.take (k + 1) = l.take k ++ [x] := by
  obtain ⟨hk, rfl⟩ := List.getElem?_eq_some_iff.1 h
  rw [List.take_succ_eq_append_getElem hk]
theorem drop_cons {α : Type} {l : List α} {k : Nat} {x : α} (h : l[k]? = some x) : l.drop k = x :: l.drop (k + 1) := by
  obtain ⟨hk, e⟩ := List.getElem?_eq_some_iff.1 h
  rw [← List.getElem_cons_drop hk, e]
def ids (l : List Int) : List Value := l.map (Value.int .u64)
theorem ids_len (l : List Int) : (ids l).length = l.length := by unfold ids; rw [List.length_map]
theorem ids_one (l : List Int) : ∀ u ∈ ids l, u.oneCell' = true := by
  intro u hu
  obtain ⟨x, _, rfl⟩ := List.mem_map.1 hu
  rfl
theorem Reads.pre1 {w : World} {B n m : Nat} {A : Option Addr} {l : List Int} (h : Reads w B 1 A n (ids l)) (hm : m ≤ n) : Reads w B 1 A m (ids (l.take m)) := by
  have h1 := h.1
  rw [ids_len] at h1
  refine ⟨by rw [ids_len, List.length_take]; omega, fun h0 => ?_⟩
  obtain ⟨ad, e, hb, hc⟩ := h.2 (by omega)
  refine ⟨ad, e, hb, fun j u hu => hc j u ?_⟩
  unfold ids at hu ⊢
  rw [List.map_take, List.getElem?_take] at hu
  split at hu
  · exact hu
  · cases hu
theorem ids_cell {w : World} {B n : Nat} {A : Option Addr} {l : List Int} (h : Reads w B 1 A n (ids l)) {k : Nat} {x : Int} (hk : l[k]? = some x) :
    ∃ b off, A = some ⟨b, off, none⟩ ∧ b < B ∧ w.cell? ⟨b, off + k, none⟩ = some (.int .u64 x) := by
  have hn : k < n := by
    have h1 := h.1
    rw [ids_len] at h1
    have := (List.getElem?_eq_some_iff.1 hk).1
    omega
  obtain ⟨ad, u, rfl, hb, hu, hc⟩ := h.at_ hn
  obtain ⟨ad', u', e, _, _, hc'⟩ := h.at_ (show 0 < n by omega)
  injection e with e
  subst e
  unfold ids at hu
  rw [List.getElem?_map, hk] at hu
  cases hu
  obtain ⟨b, off, spot⟩ := ad
  have hspot : spot = none := by simpa [Addr.add] using World.cell?_spot hc'
  subst hspot
  exact ⟨b, off, rfl, hb, by rw [add_none] at hc; exact hc⟩
theorem own_slice {w : World} {base n : Nat} {e : TypeId} {size : Nat} {v : Value} {xs : List Value} (ho : w.ownsRow base e size v n xs) : ∃ A c, v = .slice A n c := by
  rcases ho.2 with ⟨rfl, rfl⟩ | ⟨g, cap, cur, rfl, _⟩
  · exact ⟨_, _, rfl⟩
  · exact ⟨_, _, rfl⟩
theorem own_cap {w : World} {base n : Nat} {e : TypeId} {size : Nat} {v : Value} {xs : List Value} (ho : w.ownsRow base e size v n xs) : ∃ A c, v = .slice A n c ∧ n ≤ c ∧ c ≤ 9223372036854775807 := by
  rcases ho.2 with ⟨rfl, rfl⟩ | ⟨g, cap, cur, rfl, _, _, h3, h4, _⟩
  · exact ⟨_, _, rfl, Nat.le_refl _, by omega⟩
  · exact ⟨_, _, rfl, h3, by unfold maxLen at h4; exact h4⟩
theorem base_le {w : World} {B B' n : Nat} {e : TypeId} {size : Nat} {v : Value} {xs : List Value} (h : w.ownsRow B e size v n xs) (hB : B' ≤ B) : w.ownsRow B' e size v n xs := by
  refine ⟨h.1, ?_⟩
  rcases h.2 with h2 | ⟨g, cap, cur, rfl, h1, r⟩
  · exact .inl h2
  · exact .inr ⟨g, cap, cur, rfl, by omega, r⟩
theorem own_grown_below {W w w' : World} {n : Nat} {e : TypeId} {size : Nat} {v : Value} {xs : List Value} (hb : Below W.heap.size W w) (ho : w.ownsRow W.heap.size e size v n xs) (hg : w.grownBy w' v.ownBlock) : Below W.heap.size W w' := by
  refine hb.grown hg hb.size fun k hk => ?_
  rcases ho.2 with ⟨rfl, _⟩ | ⟨g, cap, cur, rfl, h1, _⟩
  · simp [Value.ownBlock] at hk
  · simp [Value.ownBlock] at hk; omega
theorem own_below {w w' : World} {base n : Nat} {e : TypeId} {size : Nat} {v : Value} {xs : List Value} (h : w.ownsRow base e size v n xs) (hb : Below w.heap.size w w') : w'.ownsRow base e size v n xs := by
  refine ⟨h.1, ?_⟩
  rcases h.2 with h2 | ⟨g, cap, cur, rfl, h1, h2, r⟩
  · exact .inl h2
  · refine .inr ⟨g, cap, cur, rfl, h1, (hb.block g ?_).trans h2, r⟩
    rcases Nat.lt_or_ge g w.heap.size with hlt | hge
    · exact hlt
    · rw [Array.getElem?_eq_none hge] at h2; cases h2
theorem info_parts {i : Option TypeInfo} {z : Value} {a b : Nat} (h : i.map (fun i => (i.zero, i.size, i.bytes)) = some (some z, a, b)) : ∃ i0, i = some i0 ∧ i0.zero = some z ∧ i0.size = a ∧ i0.bytes = b := by
  cases i with
  | none => cases h
  | some i0 => simp at h; exact ⟨i0, rfl, h.1, h.2.1, h.2.2⟩
def tmay (a : Int) : Bool := kd a == 2 || kd a == 3
theorem tmay_any (a : Int) (h : Word a) (w : World) : Calls Try.prog 121 #[.int .u64 a] w fun e w' => e = .returned (.bool (tmay a)) ∧ Below w.heap.size w w' := by
  unfold tmay
  have hk := kd_bd a
  have ck := fun w => kind_any a h w
  rcases (show kd a = 0 ∨ kd a = 1 ∨ kd a = 2 ∨ kd a = 3 ∨ kd a = 4 from by omega) with k | k | k | k | k
  all_goals
    rw [k] at ck ⊢
    clear hk k
    go_enter Try.func121, Try.ntmps121
    go_wp2_with (first
      | (go_at_call 65; (with_reducible refine (ck _).mono ?_); rintro e w2 ⟨rfl, hb2⟩)
      | fail)
    go_ret
    exact ⟨rfl, hb2⟩
def idAt (l : List Int) (m : Nat) : Int := match l[m]? with | some x => x | none => 0
def tyOk (l : List Int) : Nat → Bool
  | 0 => true
  | k + 1 => tyOk l k && (match l[k]? with | some x => tmay x && (k == 0 || decide (idAt l (k - 1) < x)) | none => true)
def tyR (l : List Int) : Bool := decide (l.length ≤ 12) && tyOk l l.length
def tyE (l : List Int) : Int := if tyR l then 0 else 130
theorem tyOk_false {l : List Int} {k n : Nat} (h : tyOk l k = false) (hk : k ≤ n) : tyOk l n = false := by
  induction n with
  | zero => have : k = 0 := by omega
            subst this; exact h
  | succ n ih =>
    rcases Nat.lt_or_ge n k with h2 | h2
    · have : k = n + 1 := by omega
      subst this; exact h
    · show (tyOk l n && _) = false
      rw [ih h2]; rfl
theorem tyOk_step {l : List Int} {k : Nat} {x : Int} (h : l[k]? = some x) : tyOk l (k + 1) = (tyOk l k && (tmay x && (k == 0 || decide (idAt l (k - 1) < x)))) := by
  show (tyOk l k && _) = _
  rw [h]
set_option maxRecDepth 100000 in
set_option maxHeartbeats 4000000 in
theorem tcheck_any (A : Option Addr) (n c : Nat) (l : List Int) (w : World) (hR : Reads w w.heap.size 1 A n (ids l)) (hW : ∀ x ∈ l, Word x) (hn : n ≤ 281474976710656) :
    Calls Try.prog 87 #[.slice A n c] w fun e w' => e = .returned (.int .i64 (tyE l)) ∧ Below w.heap.size w w' := by
  have hl : l.length = n := by have := hR.1; rw [ids_len] at this; omega
  by_cases hn12 : n ≤ 12
  · have hdec : decide ((n : Int) ≤ 12) = true := decide_eq_true (by omega)
    have he : tyE l = if tyOk l n then 0 else 130 := by unfold tyE tyR; rw [hl, decide_eq_true hn12, Bool.true_and]
    rw [he]
    clear he
    go_enter Try.func87, Try.ntmps87
    go_wp2
    go_step3
    go_wp2
    go_step3
    go_wp2
    go_loopw [3, 11] (fun o i wr => ∃ k : Nat, k ≤ n ∧ i = .int .i64 k ∧ o = .bool true ∧ tyOk l k = true ∧ Below w.heap.size w wr)
      (fun _ i _ => n - (intOf i).toNat)
    case atStart => exact ⟨0, Nat.zero_le _, rfl, rfl, rfl, Below.refl _ _⟩
    case round =>
      obtain ⟨k, hk, rfl, rfl, hq, hb⟩ := hrel
      by_cases hlt : k < n
      · have e1 := List.getElem?_eq_getElem (l := l) (i := k) (by omega)
        generalize l[k]'(by omega) = x at e1
        have hs := tyOk_step e1
        rw [hq, Bool.true_and] at hs
        have hwx : Word x := hW x (List.mem_of_getElem? e1)
        have cm := fun w => tmay_any x hwx w
        obtain ⟨b, off, rfl, hbl, g⟩ := ids_cell hR e1
        have g1 := cell_below' hb g hbl
        have hfalse := fun h : (tmay x && (k == 0 || decide (idAt l (k - 1) < x))) = false => Lib.hid (show (if tyOk l n = true then (0 : Int) else 130) = 130 from by rw [tyOk_false (hs.trans h) (show k + 1 ≤ n from hlt)]; rfl)
        have htrue := fun h : (tmay x && (k == 0 || decide (idAt l (k - 1) < x))) = true => Lib.hid (hs.trans h)
        clear hs hq e1 g
        cases hm : tmay x
        · have hF := hfalse (by rw [hm]; rfl)
          rw [hm] at cm
          clear hfalse htrue hm hR
          go_wp2_with (first
            | (go_at_call 121; (with_reducible refine (cm _).mono ?_); rintro e w2 ⟨rfl, hb2⟩)
            | fail)
          try rw [Exit.noGoto_ret]
          go_ret
          exact ⟨ret_int hF.out.symm, hb.trans (hb2.mono hb.size)⟩
        · cases k with
          | zero =>
            have hF := htrue (by rw [hm]; rfl)
            rw [hm] at cm
            simp only [Nat.add_zero] at g1
            clear hfalse htrue hm hR
            go_wp2_with (first
            | (go_at_call 121; (with_reducible refine (cm _).mono ?_); rintro e w2 ⟨rfl, hb2⟩)
            | fail)
            go_roundw
            case rel => exact ⟨1, by omega, rfl, rfl, hF.out, hb.trans (hb2.mono hb.size)⟩
            case measure => simp [intOf]; omega
          | succ j =>
            have hy : l[j]? = some (l[j]'(by omega)) := List.getElem?_eq_getElem _
            generalize l[j]'(by omega) = y at hy
            obtain ⟨b', off', e, _, gy⟩ := ids_cell hR hy
            injection e with e; injection e with e2 e3; subst e2 e3
            have y0 := fun (W : World) (h : Below wr.heap.size wr W) => cell_below' h (cell_below' hb gy hbl) (Nat.lt_of_lt_of_le hbl hb.size)
            have hid : idAt l (j + 1 - 1) = y := by show idAt l j = y; unfold idAt; rw [hy]
            rw [hid] at hfalse htrue
            have ht4 : ((j : Int) + 1 == 0) = false := by simp; omega
            have ht6 : (j : Int) < (n : Int) := by omega
            clear hR hy gy hid
            by_cases hlt2 : y < x
            · have hF := htrue (by rw [hm, decide_eq_true hlt2, Bool.or_true]; rfl)
              rw [hm] at cm
              clear hfalse htrue hm
              go_wp2_with (first
                | (go_at_call 121; (with_reducible refine (cm _).mono ?_); rintro e w2 ⟨rfl, hb2⟩; have y1 := y0 _ hb2)
                | fail)
              go_roundw
              case rel => exact ⟨j + 1 + 1, by omega, by go_num, rfl, hF.out, hb.trans (hb2.mono hb.size)⟩
              case measure => simp [intOf]; omega
            · have hd : decide (y < x) = false := decide_eq_false hlt2
              have hF := hfalse (by rw [hm, hd]; simp)
              rw [hm] at cm
              clear hfalse htrue hm
              go_wp2_with (first
                | (go_at_call 121; (with_reducible refine (cm _).mono ?_); rintro e w2 ⟨rfl, hb2⟩; have y1 := y0 _ hb2)
                | fail)
              try rw [Exit.noGoto_ret]
              go_ret
              exact ⟨ret_int hF.out.symm, hb.trans (hb2.mono hb.size)⟩
      · have : k = n := by omega
        subst this
        have HQ := Lib.hid (show (if tyOk l k = true then (0 : Int) else 130) = 0 from by rw [hq]; rfl)
        clear hR hq
        go_wp2_with fail
        try rw [Exit.noGoto_ret]
        go_ret
        exact ⟨ret_int HQ.out.symm, hb⟩
  · have hdec : decide ((n : Int) ≤ 12) = false := decide_eq_false (by omega)
    have he : tyE l = 130 := by unfold tyE tyR; rw [hl, decide_eq_false hn12]; rfl
    rw [he]
    have e1 := List.getElem?_eq_getElem (l := l) (i := 0) (by omega)
    generalize l[0]'(by omega) = x at e1
    obtain ⟨b, off, rfl, hbl, g⟩ := ids_cell hR e1
    simp only [Nat.add_zero] at g
    have t1 : (0 : Int) < (n : Int) := by omega
    have t2 : 0 < n := by omega
    clear he hR e1
    go_enter Try.func87, Try.ntmps87
    go_wp2
    go_step3
    go_wp2
    go_step3
    go_wp2
    go_loopw [3, 11] (fun o i wr => i = .int .i64 0 ∧ o = .bool false ∧ wr = w) (fun _ i _ => n - (intOf i).toNat)
    case atStart => exact ⟨rfl, rfl, rfl⟩
    case round =>
      obtain ⟨rfl, rfl, rfl⟩ := hrel
      go_wp2_with fail
      try rw [Exit.noGoto_ret]
      go_ret
      exact ⟨rfl, Below.refl _ _⟩
end Go.Proofs.Ytbcbknajhdaneaa
namespace Go.Proofs.Ytbcbknajhdaneaa
open Go.RowKit
set_option linter.unusedVariables false
set_option linter.unusedSimpArgs false
theorem info_u64 : (Try.prog.info? 26).map (fun i => (i.zero, i.size, i.bytes)) = some (some (.int .u64 0), 1, 8) := by kernel_rfl
theorem info_id : (Try.prog.info? 27).map (fun i => (i.zero, i.size, i.bytes)) = some (some (.int .u64 0), 1, 8) := by kernel_rfl
def ins (l : List Int) : List Value := l.map (Value.int .i64)
theorem ins_len (l : List Int) : (ins l).length = l.length := by unfold ins; rw [List.length_map]
/-- a row of the call's own -/
def OwnU (l : List Int) (w : World) (e : Ending) (w' : World) : Prop := ∃ v, e = .returned v ∧ w'.ownsRow w.heap.size 26 1 v l.length (ids l) ∧ Below w.heap.size w w'
def OwnD (l : List Int) (w : World) (e : Ending) (w' : World) : Prop := ∃ v, e = .returned v ∧ w'.ownsRow w.heap.size 27 1 v l.length (ids l) ∧ Below w.heap.size w w'
set_option maxRecDepth 100000 in
set_option maxHeartbeats 1000000 in
theorem clone_u (A : Option Addr) (n c : Nat) (l : List Int) (w : World) (hR : Reads w w.heap.size 1 A n (ids l)) (hn : n ≤ 65536) :
    Calls Try.prog 63 #[.slice A n c] w (OwnU l w) := by
  have qT : ∀ (w : World) (a : Option Addr) (n c n' c' : Nat), (binOp .eql 43 (.slice a n c) (.slice none n' c')).run Try.prog w = .ok (.bool a.isNone) w := fun w a n c n' c' => Lib.run_eql_slice_nil w _ _ a n c n' c' Try.underlying43
  have hl : l.length = n := by have := hR.1; rw [ids_len] at this; omega
  obtain ⟨i0, hi0, hz0, hz1, hz2⟩ := info_parts info_u64
  have HL := Lib.hid hl
  clear hl
  cases A with
  | none =>
    have h0 : n = 0 := by
      rcases Nat.eq_zero_or_pos n with h0 | h0
      · exact h0
      · obtain ⟨ad, h, _⟩ := hR.2 h0
        cases h
    subst h0
    go_enter Try.func63, Try.ntmps63
    go_wp2
    go_ret
    have : l = [] := List.eq_nil_of_length_eq_zero HL.out
    subst this
    exact ⟨_, rfl, World.ownsRow_nil _ _ _ _, Below.refl _ _⟩
  | some a =>
    go_enter Try.func63, Try.ntmps63
    go_wp2_with (first
        | (at_builtin
           refine wpList_append_any _ rfl (.tmp 5) (.tmp 6) _ rfl w.heap.size 26 i0 _ 1 8 Try.underlying43 hi0 hz0 hz1 hz2 rfl (by omega) _ 0 [] rfl
             ?_ w.heap.size (some a) n c (ids l) rfl ?_ (ids_one l) (by simp only [maxLen]; omega) (by omega) (by simp) ?_
           · exact World.ownsRow_lit _ _ _ (Nat.le_refl _) (by simp [maxLen]) rfl
           · exact hR.alloc (Nat.le_refl _) _
           intro v1 w1 hown1 hg1 hat1))
    have hb1 := own_grown_below ((Below.refl w.heap.size w).alloc (Nat.le_refl _) _) (World.ownsRow_lit (e := 26) (size := 1) w #[] 0 (Nat.le_refl _) (by simp [maxLen]) rfl) hg1
    rw [Nat.zero_add, List.nil_append] at hown1
    have ho := hown1
    obtain ⟨A1, c1, rfl⟩ := own_slice hown1
    have HO := Lib.hid ho
    clear hown1 hg1 hat1 ho
    go_wp2
    go_ret
    exact ⟨_, rfl, by rw [HL.out]; exact HO.out, hb1⟩
set_option maxRecDepth 100000 in
set_option maxHeartbeats 1000000 in
theorem clone_d (A : Option Addr) (n c : Nat) (l : List Int) (w : World) (hR : Reads w w.heap.size 1 A n (ids l)) (hn : n ≤ 65536) :
    Calls Try.prog 62 #[.slice A n c] w (OwnD l w) := by
  have qT : ∀ (w : World) (a : Option Addr) (n c n' c' : Nat), (binOp .eql 22 (.slice a n c) (.slice none n' c')).run Try.prog w = .ok (.bool a.isNone) w := fun w a n c n' c' => Lib.run_eql_slice_nil w _ _ a n c n' c' Try.underlying22
  have hl : l.length = n := by have := hR.1; rw [ids_len] at this; omega
  obtain ⟨i0, hi0, hz0, hz1, hz2⟩ := info_parts info_id
  have HL := Lib.hid hl
  clear hl
  cases A with
  | none =>
    have h0 : n = 0 := by
      rcases Nat.eq_zero_or_pos n with h0 | h0
      · exact h0
      · obtain ⟨ad, h, _⟩ := hR.2 h0
        cases h
    subst h0
    go_enter Try.func62, Try.ntmps62
    go_wp2
    go_ret
    have : l = [] := List.eq_nil_of_length_eq_zero HL.out
    subst this
    exact ⟨_, rfl, World.ownsRow_nil _ _ _ _, Below.refl _ _⟩
  | some a =>
    go_enter Try.func62, Try.ntmps62
    go_wp2_with (first
        | (at_builtin
           refine wpList_append_any _ rfl (.tmp 5) (.tmp 6) _ rfl w.heap.size 27 i0 _ 1 8 Try.underlying22 hi0 hz0 hz1 hz2 rfl (by omega) _ 0 [] rfl
             ?_ w.heap.size (some a) n c (ids l) rfl ?_ (ids_one l) (by simp only [maxLen]; omega) (by omega) (by simp) ?_
           · exact World.ownsRow_lit _ _ _ (Nat.le_refl _) (by simp [maxLen]) rfl
           · exact hR.alloc (Nat.le_refl _) _
           intro v1 w1 hown1 hg1 hat1))
    have hb1 := own_grown_below ((Below.refl w.heap.size w).alloc (Nat.le_refl _) _) (World.ownsRow_lit (e := 27) (size := 1) w #[] 0 (Nat.le_refl _) (by simp [maxLen]) rfl) hg1
    rw [Nat.zero_add, List.nil_append] at hown1
    have ho := hown1
    obtain ⟨A1, c1, rfl⟩ := own_slice hown1
    have HO := Lib.hid ho
    clear hown1 hg1 hat1 ho
    go_wp2
    go_ret
    exact ⟨_, rfl, by rw [HL.out]; exact HO.out, hb1⟩
set_option maxRecDepth 100000 in
set_option maxHeartbeats 2000000 in
theorem equal_v (A : Option Addr) (n c : Nat) (l : List Int) (A2 : Option Addr) (n2 c2 : Nat) (l2 : List Int) (w : World) (hR : Reads w w.heap.size 1 A n (ids l)) (hR2 : Reads w w.heap.size 1 A2 n2 (ids l2)) (hn : n ≤ 281474976710656) (hn2 : n2 ≤ 281474976710656) :
    Calls Try.prog 61 #[.slice A n c, .slice A2 n2 c2] w fun e w' => e = .returned (.bool (l == l2)) ∧ Below w.heap.size w w' := by
  have hl : l.length = n := by have := hR.1; rw [ids_len] at this; omega
  have hl2 : l2.length = n2 := by have := hR2.1; rw [ids_len] at this; omega
  by_cases hnn : n = n2
  · subst hnn
    go_enter Try.func61, Try.ntmps61
    go_wp2_with fail
    go_loopw [13] (fun i wr => ∃ k : Nat, k ≤ n ∧ i = .int .i64 k ∧ l.take k = l2.take k ∧ Below w.heap.size w wr)
      (fun i _ => n - (intOf i).toNat)
    case atStart => exact ⟨0, Nat.zero_le _, rfl, rfl, Below.refl _ _⟩
    case round =>
      obtain ⟨k, hk, rfl, hq, hb⟩ := hrel
      by_cases hlt : k < n
      · have e1 := List.getElem?_eq_getElem (l := l) (i := k) (by omega)
        have e2 := List.getElem?_eq_getElem (l := l2) (i := k) (by omega)
        generalize l[k]'(by omega) = x at e1
        generalize l2[k]'(by omega) = y at e2
        have D1 := take_snoc e1
        have D2 := take_snoc e2
        obtain ⟨b, off, rfl, hbl, g⟩ := ids_cell hR e1
        obtain ⟨b2, off2, rfl, hbl2, g2⟩ := ids_cell hR2 e2
        have g10 := cell_below' hb g hbl
        have g20 := cell_below' hb g2 hbl2
        have i1 : (k : Int) < (n : Int) := by omega
        cases hb3 : (x == y)
        · have hf := Lib.hid (show (l == l2) = false from by
            rw [beq_eq_false_iff_ne]
            intro h
            subst h
            rw [e1] at e2
            injection e2 with e2
            subst e2
            simp at hb3)
          have hne : (x != y) = true := by simpa using hb3
          clear hq hR hR2 g g2 e1 e2 hb3 D1 D2
          go_wp2_with fail
          go_quiet (fail)
          go_wp2_with fail
          try rw [Exit.noGoto_ret]
          go_ret
          exact ⟨by rw [hf.out] <;> rfl, below_drewN' hb _⟩
        · have he : x = y := by simpa using hb3
          subst he
          have hf := Lib.hid (show l.take (k + 1) = l2.take (k + 1) from by rw [D1, D2, hq])
          clear hq hR hR2 g g2 e1 e2 hb3 D1 D2
          go_wp2_with fail
          go_quiet (fail)
          go_wp2_with fail
          go_roundw
          case rel => exact ⟨k + 1, by omega, by go_num, hf.out, below_drewN' hb _⟩
          case measure => simp [intOf]; omega
      · rw [List.take_of_length_le (by omega), List.take_of_length_le (by omega)] at hq
        have hf := Lib.hid (show (l == l2) = true from by simpa using hq)
        clear hq hR hR2
        go_wp2_with fail
        try rw [Exit.noGoto_ret]
        go_ret
        exact ⟨by rw [hf.out] <;> rfl, hb⟩
  · have hf := Lib.hid (show (l == l2) = false from by rw [beq_eq_false_iff_ne]; intro h; subst h; omega)
    have hne : ((n : Int) != (n2 : Int)) = true := by simp; omega
    clear hR hR2
    go_enter Try.func61, Try.ntmps61
    go_wp2_with fail
    go_ret
    exact ⟨by rw [hf.out] <;> rfl, Below.refl _ _⟩
set_option maxRecDepth 100000 in
set_option maxHeartbeats 2000000 in
theorem equal_u (A : Option Addr) (n c : Nat) (l : List Int) (A2 : Option Addr) (n2 c2 : Nat) (l2 : List Int) (w : World) (hR : Reads w w.heap.size 1 A n (ids l)) (hR2 : Reads w w.heap.size 1 A2 n2 (ids l2)) (hn : n ≤ 281474976710656) (hn2 : n2 ≤ 281474976710656) :
    Calls Try.prog 122 #[.slice A n c, .slice A2 n2 c2] w fun e w' => e = .returned (.bool (l == l2)) ∧ Below w.heap.size w w' := by
  have hl : l.length = n := by have := hR.1; rw [ids_len] at this; omega
  have hl2 : l2.length = n2 := by have := hR2.1; rw [ids_len] at this; omega
  by_cases hnn : n = n2
  · subst hnn
    go_enter Try.func122, Try.ntmps122
    go_wp2_with fail
    go_loopw [13] (fun i wr => ∃ k : Nat, k ≤ n ∧ i = .int .i64 k ∧ l.take k = l2.take k ∧ Below w.heap.size w wr)
      (fun i _ => n - (intOf i).toNat)
    case atStart => exact ⟨0, Nat.zero_le _, rfl, rfl, Below.refl _ _⟩
    case round =>
      obtain ⟨k, hk, rfl, hq, hb⟩ := hrel
      by_cases hlt : k < n
      · have e1 := List.getElem?_eq_getElem (l := l) (i := k) (by omega)
        have e2 := List.getElem?_eq_getElem (l := l2) (i := k) (by omega)
        generalize l[k]'(by omega) = x at e1
        generalize l2[k]'(by omega) = y at e2
        have D1 := take_snoc e1
        have D2 := take_snoc e2
        obtain ⟨b, off, rfl, hbl, g⟩ := ids_cell hR e1
        obtain ⟨b2, off2, rfl, hbl2, g2⟩ := ids_cell hR2 e2
        have g10 := cell_below' hb g hbl
        have g20 := cell_below' hb g2 hbl2
        have i1 : (k : Int) < (n : Int) := by omega
        cases hb3 : (x == y)
        · have hf := Lib.hid (show (l == l2) = false from by
            rw [beq_eq_false_iff_ne]
            intro h
            subst h
            rw [e1] at e2
            injection e2 with e2
            subst e2
            simp at hb3)
          have hne : (x != y) = true := by simpa using hb3
          clear hq hR hR2 g g2 e1 e2 hb3 D1 D2
          go_wp2_with fail
          go_quiet (fail)
          go_wp2_with fail
          try rw [Exit.noGoto_ret]
          go_ret
          exact ⟨by rw [hf.out] <;> rfl, below_drewN' hb _⟩
        · have he : x = y := by simpa using hb3
          subst he
          have hf := Lib.hid (show l.take (k + 1) = l2.take (k + 1) from by rw [D1, D2, hq])
          clear hq hR hR2 g g2 e1 e2 hb3 D1 D2
          go_wp2_with fail
          go_quiet (fail)
          go_wp2_with fail
          go_roundw
          case rel => exact ⟨k + 1, by omega, by go_num, hf.out, below_drewN' hb _⟩
          case measure => simp [intOf]; omega
      · rw [List.take_of_length_le (by omega), List.take_of_length_le (by omega)] at hq
        have hf := Lib.hid (show (l == l2) = true from by simpa using hq)
        clear hq hR hR2
        go_wp2_with fail
        try rw [Exit.noGoto_ret]
        go_ret
        exact ⟨by rw [hf.out] <;> rfl, hb⟩
  · have hf := Lib.hid (show (l == l2) = false from by rw [beq_eq_false_iff_ne]; intro h; subst h; omega)
    have hne : ((n : Int) != (n2 : Int)) = true := by simp; omega
    clear hR hR2
    go_enter Try.func122, Try.ntmps122
    go_wp2_with fail
    go_ret
    exact ⟨by rw [hf.out] <;> rfl, Below.refl _ _⟩
set_option maxRecDepth 100000 in
set_option maxHeartbeats 2000000 in
theorem equal_d (A : Option Addr) (n c : Nat) (l : List Int) (A2 : Option Addr) (n2 c2 : Nat) (l2 : List Int) (w : World) (hR : Reads w w.heap.size 1 A n (ids l)) (hR2 : Reads w w.heap.size 1 A2 n2 (ids l2)) (hn : n ≤ 281474976710656) (hn2 : n2 ≤ 281474976710656) :
    Calls Try.prog 41 #[.slice A n c, .slice A2 n2 c2] w fun e w' => e = .returned (.bool (l == l2)) ∧ Below w.heap.size w w' := by
  have hl : l.length = n := by have := hR.1; rw [ids_len] at this; omega
  have hl2 : l2.length = n2 := by have := hR2.1; rw [ids_len] at this; omega
  by_cases hnn : n = n2
  · subst hnn
    go_enter Try.func41, Try.ntmps41
    go_wp2_with fail
    go_loopw [13] (fun i wr => ∃ k : Nat, k ≤ n ∧ i = .int .i64 k ∧ l.take k = l2.take k ∧ Below w.heap.size w wr)
      (fun i _ => n - (intOf i).toNat)
    case atStart => exact ⟨0, Nat.zero_le _, rfl, rfl, Below.refl _ _⟩
    case round =>
      obtain ⟨k, hk, rfl, hq, hb⟩ := hrel
      by_cases hlt : k < n
      · have e1 := List.getElem?_eq_getElem (l := l) (i := k) (by omega)
        have e2 := List.getElem?_eq_getElem (l := l2) (i := k) (by omega)
        generalize l[k]'(by omega) = x at e1
        generalize l2[k]'(by omega) = y at e2
        have D1 := take_snoc e1
        have D2 := take_snoc e2
        obtain ⟨b, off, rfl, hbl, g⟩ := ids_cell hR e1
        obtain ⟨b2, off2, rfl, hbl2, g2⟩ := ids_cell hR2 e2
        have g10 := cell_below' hb g hbl
        have g20 := cell_below' hb g2 hbl2
        have i1 : (k : Int) < (n : Int) := by omega
        cases hb3 : (x == y)
        · have hf := Lib.hid (show (l == l2) = false from by
            rw [beq_eq_false_iff_ne]
            intro h
            subst h
            rw [e1] at e2
            injection e2 with e2
            subst e2
            simp at hb3)
          have hne : (x != y) = true := by simpa using hb3
          clear hq hR hR2 g g2 e1 e2 hb3 D1 D2
          go_wp2_with fail
          go_quiet (fail)
          go_wp2_with fail
          try rw [Exit.noGoto_ret]
          go_ret
          exact ⟨by rw [hf.out] <;> rfl, below_drewN' hb _⟩
        · have he : x = y := by simpa using hb3
          subst he
          have hf := Lib.hid (show l.take (k + 1) = l2.take (k + 1) from by rw [D1, D2, hq])
          clear hq hR hR2 g g2 e1 e2 hb3 D1 D2
          go_wp2_with fail
          go_quiet (fail)
          go_wp2_with fail
          go_roundw
          case rel => exact ⟨k + 1, by omega, by go_num, hf.out, below_drewN' hb _⟩
          case measure => simp [intOf]; omega
      · rw [List.take_of_length_le (by omega), List.take_of_length_le (by omega)] at hq
        have hf := Lib.hid (show (l == l2) = true from by simpa using hq)
        clear hq hR hR2
        go_wp2_with fail
        try rw [Exit.noGoto_ret]
        go_ret
        exact ⟨by rw [hf.out] <;> rfl, hb⟩
  · have hf := Lib.hid (show (l == l2) = false from by rw [beq_eq_false_iff_ne]; intro h; subst h; omega)
    have hne : ((n : Int) != (n2 : Int)) = true := by simp; omega
    clear hR hR2
    go_enter Try.func41, Try.ntmps41
    go_wp2_with fail
    go_ret
    exact ⟨by rw [hf.out] <;> rfl, Below.refl _ _⟩
end Go.Proofs.Ytbcbknajhdaneaa
namespace Go.Proofs.Ytbcbknajhdaneaa
open Go.RowKit
set_option linter.unusedVariables false
set_option linter.unusedSimpArgs false
/-- a column's cells -/
def colV (W R : Int) (A : Option Addr) (n c : Nat) : Value := .agg #[.int .i64 W, .int .i64 R, .slice A n c]
/-- may a column be? -/
def colB (W R : Int) (n : Nat) : Bool := decide (0 ≤ W ∧ W ≤ 4 ∧ 0 ≤ R ∧ R ≤ 1048578 ∧ (n : Int) = W * R)
theorem col_ways (W R : Int) (n : Nat) : (W < 0 ∧ colB W R n = false) ∨ (0 ≤ W ∧ 4 < W ∧ colB W R n = false) ∨ (0 ≤ W ∧ W ≤ 4 ∧ R < 0 ∧ colB W R n = false) ∨ (0 ≤ W ∧ W ≤ 4 ∧ 0 ≤ R ∧ 1048578 < R ∧ colB W R n = false) ∨
    (0 ≤ W ∧ W ≤ 4 ∧ 0 ≤ R ∧ R ≤ 1048578 ∧ ((n : Int) == W * R) = false ∧ colB W R n = false) ∨ (0 ≤ W ∧ W ≤ 4 ∧ 0 ≤ R ∧ R ≤ 1048578 ∧ ((n : Int) == W * R) = true ∧ colB W R n = true) := by
  unfold colB
  rcases (show W < 0 ∨ (0 ≤ W ∧ 4 < W) ∨ (0 ≤ W ∧ W ≤ 4) from by omega) with h | ⟨h, h2⟩ | ⟨h, h2⟩
  · exact .inl ⟨h, decide_eq_false (by omega)⟩
  · exact .inr (.inl ⟨h, h2, decide_eq_false (by omega)⟩)
  · rcases (show R < 0 ∨ (0 ≤ R ∧ 1048578 < R) ∨ (0 ≤ R ∧ R ≤ 1048578) from by omega) with g | ⟨g, g2⟩ | ⟨g, g2⟩
    · exact .inr (.inr (.inl ⟨h, h2, g, decide_eq_false (by omega)⟩))
    · exact .inr (.inr (.inr (.inl ⟨h, h2, g, g2, decide_eq_false (by omega)⟩)))
    · by_cases e : (n : Int) = W * R
      · exact .inr (.inr (.inr (.inr (.inr ⟨h, h2, g, g2, by simpa using e, decide_eq_true ⟨h, h2, g, g2, e⟩⟩))))
      · exact .inr (.inr (.inr (.inr (.inl ⟨h, h2, g, g2, by simpa using e, decide_eq_false (fun q => e q.2.2.2.2)⟩))))
theorem mul_small {W R : Int} (h : 0 ≤ W) (h2 : W ≤ 4) (g : 0 ≤ R) (g2 : R ≤ 1048578) : 0 ≤ W * R ∧ W * R ≤ 4194312 := by
  rcases (show W = 0 ∨ W = 1 ∨ W = 2 ∨ W = 3 ∨ W = 4 from by omega) with rfl | rfl | rfl | rfl | rfl <;> omega
end Go.Proofs.Ytbcbknajhdaneaa
namespace Go.Proofs.Ytbcbknajhdaneaa
open Go.RowKit
set_option linter.unusedVariables false
set_option linter.unusedSimpArgs false
def colE (W R : Int) (n : Nat) : Int := if colB W R n then 0 else 180
theorem new_cell (w : World) (t : TypeId) (cs : Array Value) {k : Nat} {v : Value} (h : cs[k]? = some v) : (w.alloc (.cells cs t)).cell? ⟨w.heap.size, k, none⟩ = some v := by
  rw [World.cell?_alloc_mark w cs t (0, 0) k]; exact h
set_option maxRecDepth 100000 in
theorem ix_two (a b c d : Value) (W : World) : (Instr.index 152 (.agg #[a, b, c, d]) (.int .i64 0)).run Try.prog W = .ok (.agg #[a, b]) W ∧ (Instr.index 152 (.agg #[a, b, c, d]) (.int .i64 1)).run Try.prog W = .ok (.agg #[c, d]) W := by
  have hu := run_underlying (P := Try.prog) Try.underlying152
  have hu2 := run_underlying (P := Try.prog) Try.underlying151
  have hsz : Try.prog.types[151].size = 2 := by kernel_rfl
  constructor <;> simp [Instr.index, hu, hu2, go_sem, part, sizeOf, typeInfo, hsz] <;> rfl
set_option maxRecDepth 100000 in
set_option maxHeartbeats 4000000 in
theorem ccheck_any (W R : Int) (A : Option Addr) (n c : Nat) (w : World) (hn : n ≤ maxLen) : Calls Try.prog 88 #[colV W R A n c] w fun e w' => e = .returned (.int .i64 (colE W R n)) ∧ Below w.heap.size w w' := by
  unfold maxLen at hn
  unfold colV colE
  have hB := (Below.refl w.heap.size w).alloc (Nat.le_refl _) (.cells #[.int .i64 W, .int .i64 R, .slice A n c] 68)
  have y0 := new_cell w 68 #[.int .i64 W, .int .i64 R, .slice A n c] (k := 0) rfl
  have y1 := new_cell w 68 #[.int .i64 W, .int .i64 R, .slice A n c] (k := 1) rfl
  have y2 := new_cell w 68 #[.int .i64 W, .int .i64 R, .slice A n c] (k := 2) rfl
  have ix0 := fun W0 => (ix_two (.int .i64 W) (.int .i64 4) (.int .i64 R) (.int .i64 1048578) W0).1
  have ix1 := fun W0 => (ix_two (.int .i64 W) (.int .i64 4) (.int .i64 R) (.int .i64 1048578) W0).2
  rcases col_ways W R n with ⟨h, k⟩ | ⟨h, h2, k⟩ | ⟨h, h2, g, k⟩ | ⟨h, h2, g, g2, k⟩ | ⟨h, h2, g, g2, e, k⟩ | ⟨h, h2, g, g2, e, k⟩
  case inl =>
    have t1 : decide (W < 0) = true := decide_eq_true (by omega)
    rw [k]; clear k
    go_enter Try.func88, Try.ntmps88
    go_wp2_with fail
    go_step3
    go_wp2
    go_step3
    go_wp2
    go_loopw [3, 13] (fun o i wr => (i = .int .i64 0 ∧ o = .int .i64 180) ∧ Below (w.alloc (.cells #[.int .i64 W, .int .i64 R, .slice A n c] 68)).heap.size (w.alloc (.cells #[.int .i64 W, .int .i64 R, .slice A n c] 68)) wr)
      (fun _ i _ => 3 - (intOf i).toNat)
    case atStart => exact ⟨⟨rfl, rfl⟩, Below.refl _ _⟩
    case round =>
      obtain ⟨hj, hb⟩ := hrel
      have x0 := cell_below' hb y0 (by simp)
      have x1 := cell_below' hb y1 (by simp)
      have x2 := cell_below' hb y2 (by simp)
      have z0 := fun o : Obj => cell_below' (hb.alloc hb.size o) y0 (by simp)
      have z1 := fun o : Obj => cell_below' (hb.alloc hb.size o) y1 (by simp)
      have z2 := fun o : Obj => cell_below' (hb.alloc hb.size o) y2 (by simp)
      clear y0 y1 y2
      rcases hj with ⟨rfl, rfl⟩
      · go_wp2_with fail
        try rw [Exit.noGoto_ret]
        go_ret
        exact ⟨rfl, hB.trans ((by first | exact hb | exact hb.alloc hb.size _ : Below _ _ _).mono hB.size)⟩
  case inr.inl =>
    have t1 : decide (W < 0) = false := decide_eq_false (by omega)
    have t2 : decide (4 < W) = true := decide_eq_true (by omega)
    rw [k]; clear k
    go_enter Try.func88, Try.ntmps88
    go_wp2_with fail
    go_step3
    go_wp2
    go_step3
    go_wp2
    go_loopw [3, 13] (fun o i wr => (i = .int .i64 0 ∧ o = .int .i64 180) ∧ Below (w.alloc (.cells #[.int .i64 W, .int .i64 R, .slice A n c] 68)).heap.size (w.alloc (.cells #[.int .i64 W, .int .i64 R, .slice A n c] 68)) wr)
      (fun _ i _ => 3 - (intOf i).toNat)
    case atStart => exact ⟨⟨rfl, rfl⟩, Below.refl _ _⟩
    case round =>
      obtain ⟨hj, hb⟩ := hrel
      have x0 := cell_below' hb y0 (by simp)
      have x1 := cell_below' hb y1 (by simp)
      have x2 := cell_below' hb y2 (by simp)
      have z0 := fun o : Obj => cell_below' (hb.alloc hb.size o) y0 (by simp)
      have z1 := fun o : Obj => cell_below' (hb.alloc hb.size o) y1 (by simp)
      have z2 := fun o : Obj => cell_below' (hb.alloc hb.size o) y2 (by simp)
      clear y0 y1 y2
      rcases hj with ⟨rfl, rfl⟩
      · go_wp2_with fail
        try rw [Exit.noGoto_ret]
        go_ret
        exact ⟨rfl, hB.trans ((by first | exact hb | exact hb.alloc hb.size _ : Below _ _ _).mono hB.size)⟩
  case inr.inr.inl =>
    have t1 : decide (W < 0) = false := decide_eq_false (by omega)
    have t2 : decide (4 < W) = false := decide_eq_false (by omega)
    have t3 : decide (R < 0) = true := decide_eq_true (by omega)
    rw [k]; clear k
    go_enter Try.func88, Try.ntmps88
    go_wp2_with fail
    go_step3
    go_wp2
    go_step3
    go_wp2
    go_loopw [3, 13] (fun o i wr => ((i = .int .i64 0 ∧ o = .int .i64 180) ∨ (i = .int .i64 1 ∧ o = .int .i64 180)) ∧ Below (w.alloc (.cells #[.int .i64 W, .int .i64 R, .slice A n c] 68)).heap.size (w.alloc (.cells #[.int .i64 W, .int .i64 R, .slice A n c] 68)) wr)
      (fun _ i _ => 3 - (intOf i).toNat)
    case atStart => exact ⟨.inl ⟨rfl, rfl⟩, Below.refl _ _⟩
    case round =>
      obtain ⟨hj, hb⟩ := hrel
      have x0 := cell_below' hb y0 (by simp)
      have x1 := cell_below' hb y1 (by simp)
      have x2 := cell_below' hb y2 (by simp)
      have z0 := fun o : Obj => cell_below' (hb.alloc hb.size o) y0 (by simp)
      have z1 := fun o : Obj => cell_below' (hb.alloc hb.size o) y1 (by simp)
      have z2 := fun o : Obj => cell_below' (hb.alloc hb.size o) y2 (by simp)
      clear y0 y1 y2
      rcases hj with ⟨rfl, rfl⟩ | ⟨rfl, rfl⟩
      · go_wp2_with fail
        go_roundw
        case rel => exact ⟨.inr ⟨by go_num, by trivial⟩, by first | exact hb | exact hb.alloc hb.size _⟩
        case measure => simp [intOf]
      · go_wp2_with fail
        try rw [Exit.noGoto_ret]
        go_ret
        exact ⟨rfl, hB.trans ((by first | exact hb | exact hb.alloc hb.size _ : Below _ _ _).mono hB.size)⟩
  case inr.inr.inr.inl =>
    have t1 : decide (W < 0) = false := decide_eq_false (by omega)
    have t2 : decide (4 < W) = false := decide_eq_false (by omega)
    have t3 : decide (R < 0) = false := decide_eq_false (by omega)
    have t4 : decide (1048578 < R) = true := decide_eq_true (by omega)
    rw [k]; clear k
    go_enter Try.func88, Try.ntmps88
    go_wp2_with fail
    go_step3
    go_wp2
    go_step3
    go_wp2
    go_loopw [3, 13] (fun o i wr => ((i = .int .i64 0 ∧ o = .int .i64 180) ∨ (i = .int .i64 1 ∧ o = .int .i64 180)) ∧ Below (w.alloc (.cells #[.int .i64 W, .int .i64 R, .slice A n c] 68)).heap.size (w.alloc (.cells #[.int .i64 W, .int .i64 R, .slice A n c] 68)) wr)
      (fun _ i _ => 3 - (intOf i).toNat)
    case atStart => exact ⟨.inl ⟨rfl, rfl⟩, Below.refl _ _⟩
    case round =>
      obtain ⟨hj, hb⟩ := hrel
      have x0 := cell_below' hb y0 (by simp)
      have x1 := cell_below' hb y1 (by simp)
      have x2 := cell_below' hb y2 (by simp)
      have z0 := fun o : Obj => cell_below' (hb.alloc hb.size o) y0 (by simp)
      have z1 := fun o : Obj => cell_below' (hb.alloc hb.size o) y1 (by simp)
      have z2 := fun o : Obj => cell_below' (hb.alloc hb.size o) y2 (by simp)
      clear y0 y1 y2
      rcases hj with ⟨rfl, rfl⟩ | ⟨rfl, rfl⟩
      · go_wp2_with fail
        go_roundw
        case rel => exact ⟨.inr ⟨by go_num, by trivial⟩, by first | exact hb | exact hb.alloc hb.size _⟩
        case measure => simp [intOf]
      · go_wp2_with fail
        try rw [Exit.noGoto_ret]
        go_ret
        exact ⟨rfl, hB.trans ((by first | exact hb | exact hb.alloc hb.size _ : Below _ _ _).mono hB.size)⟩
  case inr.inr.inr.inr.inl =>
    have t1 : decide (W < 0) = false := decide_eq_false (by omega)
    have t2 : decide (4 < W) = false := decide_eq_false (by omega)
    have t3 : decide (R < 0) = false := decide_eq_false (by omega)
    have t4 : decide (1048578 < R) = false := decide_eq_false (by omega)
    obtain ⟨m1, m2⟩ := mul_small h h2 g g2
    obtain ⟨q, hq⟩ : ∃ q, W * R = q := ⟨_, rfl⟩
    rw [hq] at e m1 m2
    rw [k]; clear k
    go_enter Try.func88, Try.ntmps88
    go_wp2_with fail
    go_step3
    go_wp2
    go_step3
    go_wp2
    go_loopw [3, 13] (fun o i wr => ((i = .int .i64 0 ∧ o = .int .i64 180) ∨ (i = .int .i64 1 ∧ o = .int .i64 180) ∨ (i = .int .i64 2 ∧ o = .int .i64 180)) ∧ Below (w.alloc (.cells #[.int .i64 W, .int .i64 R, .slice A n c] 68)).heap.size (w.alloc (.cells #[.int .i64 W, .int .i64 R, .slice A n c] 68)) wr)
      (fun _ i _ => 3 - (intOf i).toNat)
    case atStart => exact ⟨.inl ⟨rfl, rfl⟩, Below.refl _ _⟩
    case round =>
      obtain ⟨hj, hb⟩ := hrel
      have x0 := cell_below' hb y0 (by simp)
      have x1 := cell_below' hb y1 (by simp)
      have x2 := cell_below' hb y2 (by simp)
      have z0 := fun o : Obj => cell_below' (hb.alloc hb.size o) y0 (by simp)
      have z1 := fun o : Obj => cell_below' (hb.alloc hb.size o) y1 (by simp)
      have z2 := fun o : Obj => cell_below' (hb.alloc hb.size o) y2 (by simp)
      clear y0 y1 y2
      rcases hj with ⟨rfl, rfl⟩ | ⟨rfl, rfl⟩ | ⟨rfl, rfl⟩
      · go_wp2_with fail
        go_roundw
        case rel => exact ⟨.inr (.inl ⟨by go_num, by trivial⟩), by first | exact hb | exact hb.alloc hb.size _⟩
        case measure => simp [intOf]
      · go_wp2_with fail
        go_roundw
        case rel => exact ⟨.inr (.inr ⟨by go_num, by trivial⟩), by first | exact hb | exact hb.alloc hb.size _⟩
        case measure => simp [intOf]
      · go_wp2_with fail
        try rw [Exit.noGoto_ret]
        go_ret
        exact ⟨rfl, hB.trans ((by first | exact hb | exact hb.alloc hb.size _ : Below _ _ _).mono hB.size)⟩
  case inr.inr.inr.inr.inr =>
    have t1 : decide (W < 0) = false := decide_eq_false (by omega)
    have t2 : decide (4 < W) = false := decide_eq_false (by omega)
    have t3 : decide (R < 0) = false := decide_eq_false (by omega)
    have t4 : decide (1048578 < R) = false := decide_eq_false (by omega)
    obtain ⟨m1, m2⟩ := mul_small h h2 g g2
    obtain ⟨q, hq⟩ : ∃ q, W * R = q := ⟨_, rfl⟩
    rw [hq] at e m1 m2
    rw [k]; clear k
    go_enter Try.func88, Try.ntmps88
    go_wp2_with fail
    go_step3
    go_wp2
    go_step3
    go_wp2
    go_loopw [3, 13] (fun o i wr => ((i = .int .i64 0 ∧ o = .int .i64 180) ∨ (i = .int .i64 1 ∧ o = .int .i64 180) ∨ (i = .int .i64 2 ∧ o = .int .i64 0)) ∧ Below (w.alloc (.cells #[.int .i64 W, .int .i64 R, .slice A n c] 68)).heap.size (w.alloc (.cells #[.int .i64 W, .int .i64 R, .slice A n c] 68)) wr)
      (fun _ i _ => 3 - (intOf i).toNat)
    case atStart => exact ⟨.inl ⟨rfl, rfl⟩, Below.refl _ _⟩
    case round =>
      obtain ⟨hj, hb⟩ := hrel
      have x0 := cell_below' hb y0 (by simp)
      have x1 := cell_below' hb y1 (by simp)
      have x2 := cell_below' hb y2 (by simp)
      have z0 := fun o : Obj => cell_below' (hb.alloc hb.size o) y0 (by simp)
      have z1 := fun o : Obj => cell_below' (hb.alloc hb.size o) y1 (by simp)
      have z2 := fun o : Obj => cell_below' (hb.alloc hb.size o) y2 (by simp)
      clear y0 y1 y2
      rcases hj with ⟨rfl, rfl⟩ | ⟨rfl, rfl⟩ | ⟨rfl, rfl⟩
      · go_wp2_with fail
        go_roundw
        case rel => exact ⟨.inr (.inl ⟨by go_num, by trivial⟩), by first | exact hb | exact hb.alloc hb.size _⟩
        case measure => simp [intOf]
      · go_wp2_with fail
        go_roundw
        case rel => exact ⟨.inr (.inr ⟨by go_num, by trivial⟩), by first | exact hb | exact hb.alloc hb.size _⟩
        case measure => simp [intOf]
      · go_wp2_with fail
        try rw [Exit.noGoto_ret]
        go_ret
        exact ⟨rfl, hB.trans ((by first | exact hb | exact hb.alloc hb.size _ : Below _ _ _).mono hB.size)⟩
end Go.Proofs.Ytbcbknajhdaneaa
namespace Go.Proofs.Ytbcbknajhdaneaa
open Go.RowKit
set_option linter.unusedVariables false
set_option linter.unusedSimpArgs false
/-- are columns one? -/
def colS (W R : Int) (l : List Int) (W2 R2 : Int) (l2 : List Int) : Bool := W == W2 && (R == R2 && l == l2)
set_option maxRecDepth 100000 in
set_option maxHeartbeats 4000000 in
theorem csame_any (W R : Int) (A : Option Addr) (n c : Nat) (l : List Int) (W2 R2 : Int) (A2 : Option Addr) (n2 c2 : Nat) (l2 : List Int) (w : World) (hR : Reads w w.heap.size 1 A n (ids l)) (hR2 : Reads w w.heap.size 1 A2 n2 (ids l2)) (hn : n ≤ 281474976710656) (hn2 : n2 ≤ 281474976710656) :
    Calls Try.prog 90 #[colV W R A n c, colV W2 R2 A2 n2 c2] w fun e w' => e = .returned (.bool (colS W R l W2 R2 l2)) ∧ Below w.heap.size w w' := by
  have hB := ((Below.refl w.heap.size w).alloc (Nat.le_refl _) (.cells #[.int .i64 W, .int .i64 R, .slice A n c] 68)).alloc (by simp) (.cells #[.int .i64 W2, .int .i64 R2, .slice A2 n2 c2] 68)
  have ce := fun (W : World) (h : Below w.heap.size w W) => equal_u A n c l A2 n2 c2 l2 W ((hR.below h).more h.size) ((hR2.below h).more h.size) hn hn2
  clear hR hR2
  unfold colV colS
  cases e1 : (W == W2)
  · go_enter Try.func90, Try.ntmps90
    go_wp2_with fail
    go_ret
    exact ⟨rfl, hB⟩
  · cases e2 : (R == R2)
    · go_enter Try.func90, Try.ntmps90
      go_wp2_with fail
      go_ret
      exact ⟨rfl, hB⟩
    · generalize (l == l2) = b at ce ⊢
      go_enter Try.func90, Try.ntmps90
      go_wp2_with (first
        | (go_at_call 122; ((with_reducible refine (ce _ hB).mono ?_); rintro e w1 ⟨rfl, hb1⟩; have hB := hB.trans (hb1.mono hB.size)))
        | fail)
      go_ret
      exact ⟨by simp, hB⟩
end Go.Proofs.Ytbcbknajhdaneaa
namespace Go.Proofs.Ytbcbknajhdaneaa
open Go.RowKit
set_option linter.unusedVariables false
set_option linter.unusedSimpArgs false
theorem same_v (A : Option Addr) (n c : Nat) (l : List Int) (A2 : Option Addr) (n2 c2 : Nat) (l2 : List Int) (w : World) (hR : Reads w w.heap.size 1 A n (ids l)) (hR2 : Reads w w.heap.size 1 A2 n2 (ids l2)) (hn : n ≤ 281474976710656) (hn2 : n2 ≤ 281474976710656) :
    Calls Try.prog 35 #[.slice A n c, .slice A2 n2 c2] w fun e w' => e = .returned (.bool (l == l2)) ∧ Below w.heap.size w w' := by
  have ce := equal_v A n c l A2 n2 c2 l2 w hR hR2 hn hn2
  clear hR hR2
  generalize (l == l2) = b at ce ⊢
  go_enter Try.func35, Try.ntmps35
  go_wp2_with (first
    | (go_at_call 61; ((with_reducible refine ce.mono ?_); rintro e w1 ⟨rfl, hb⟩))
    | fail)
  go_ret
  exact ⟨rfl, hb⟩
/-- so many words that are 0 -/
def zerosL (n : Nat) : List Int := List.replicate n 0
theorem last_blk (w : World) (o : Obj) : (w.alloc o).heap[w.heap.size]? = some o := by
  show (w.heap.push o)[w.heap.size]? = some o
  simp
theorem zeros_own (w : World) (n : Nat) {cs : Array Value} (hc : cs.toList = ids (zerosL n)) (hn : n ≤ 65536) : (w.alloc (.cells cs 26)).ownsRow w.heap.size 26 1 (.slice (some ⟨w.heap.size, 0, none⟩) n n) n (ids (zerosL n)) := by
  have hl : (ids (zerosL n)).length = n := by rw [ids_len]; unfold zerosL; simp
  have hs : cs.size = n := by rw [← Array.length_toList, hc, hl]
  refine ⟨by rw [hl, Nat.mul_one], .inr ⟨w.heap.size, n, cs, rfl, Nat.le_refl _, last_blk w _, Nat.le_refl _, by simp only [maxLen]; omega, by omega, ?_⟩⟩
  rw [hc, Nat.mul_one, List.take_of_length_le (by omega)]
theorem made_zeros (n : Nat) : (madeCells #[.int .u64 0] n).toList = ids (zerosL n) := by
  apply List.ext_getElem?
  intro i
  unfold ids zerosL madeCells
  rw [List.getElem?_map, List.getElem?_replicate, Array.toList_map, List.getElem?_map]
  by_cases h : i < n
  · simp [h, Nat.mod_one]
  · simp [h]
end Go.Proofs.Ytbcbknajhdaneaa
namespace Go.Proofs.Ytbcbknajhdaneaa
open Go.RowKit
set_option linter.unusedVariables false
set_option linter.unusedSimpArgs false
/-- the index of an entity; 0 where it is none -/
def idx (a : Int) : Int := if kd a = 1 then pa a else 0
/-- has a row an index? -/
def hasI (l : List Int) (x : Int) : Bool := l.any fun a => idx a == x
end Go.Proofs.Ytbcbknajhdaneaa
namespace Go.Proofs.Ytbcbknajhdaneaa
open Go.RowKit
set_option linter.unusedVariables false
set_option linter.unusedSimpArgs false
/-- a column: its numbers, its slice of words, and what that reads -/
structure Col where
  W : Int
  R : Int
  A : Option Addr
  n : Nat
  c : Nat
  l : List Int
deriving Inhabited
def Col.C (x : Col) : List Value := [.int .i64 x.W, .int .i64 x.R, .slice x.A x.n x.c]
def Col.V (x : Col) : Value := colV x.W x.R x.A x.n x.c
def cols (F : List Col) : List Value := F.flatMap Col.C
theorem cols_len (l : List Col) : (cols l).length = l.length * 3 := by
  induction l with
  | nil => rfl
  | cons x l ih =>
    show (x.C ++ cols l).length = _
    rw [List.length_append, ih, List.length_cons]
    show 3 + l.length * 3 = _
    omega
theorem cols_at (l : List Col) (k : Nat) (x : Col) (h : l[k]? = some x) (j : Nat) (hj : j < 3) : (cols l)[k * 3 + j]? = x.C[j]? := by
  induction l generalizing k with
  | nil => simp at h
  | cons y l ih =>
    show (y.C ++ cols l)[k * 3 + j]? = _
    cases k with
    | zero =>
      simp at h; subst h
      rw [Nat.zero_mul, Nat.zero_add, List.getElem?_append_left (by show j < 3; exact hj)]
    | succ k =>
      rw [List.getElem?_append_right (by show 3 ≤ _; omega)]
      have e : (k + 1) * 3 + j - y.C.length = k * 3 + j := by show (k + 1) * 3 + j - 3 = _; omega
      rw [e]
      exact ih k (by simpa using h)
theorem cols_one (l : List Col) : ∀ u ∈ cols l, u.oneCell' = true := by
  intro u hu
  obtain ⟨x, _, hx⟩ := List.mem_flatMap.1 hu
  simp only [Col.C, List.mem_cons, List.not_mem_nil, or_false] at hx
  rcases hx with rfl | rfl | rfl <;> rfl
/-- a column's three cells -/
def Cells3 (w : World) (b o : Nat) (x : Col) : Prop := w.cell? ⟨b, o, none⟩ = some (.int .i64 x.W) ∧ w.cell? ⟨b, o + 1, none⟩ = some (.int .i64 x.R) ∧ w.cell? ⟨b, o + 2, none⟩ = some (.slice x.A x.n x.c)
theorem Cells3.below {w w' : World} {B b o : Nat} {x : Col} (h : Cells3 w b o x) (hb : Below B w w') (hB : b < B) : Cells3 w' b o x := by
  obtain ⟨h0, h1, h2⟩ := h
  exact ⟨(hb.cell (p := ⟨b, _, none⟩) hB).trans h0, (hb.cell (p := ⟨b, _, none⟩) hB).trans h1, (hb.cell (p := ⟨b, _, none⟩) hB).trans h2⟩
theorem cols_cells {w : World} {B n : Nat} {A : Option Addr} {l : List Col} (h : Reads w B 3 A n (cols l)) {k : Nat} {x : Col} (hk : l[k]? = some x) :
    ∃ b off, A = some ⟨b, off, none⟩ ∧ b < B ∧ Cells3 w b (off + k * 3) x := by
  have hn : k < n := by
    have h1 := h.1
    rw [cols_len] at h1
    have := (List.getElem?_eq_some_iff.1 hk).1
    omega
  obtain ⟨ad, rfl, hb, hc⟩ := h.2 (by omega)
  have at_ : ∀ j, j < 3 → ∀ u, x.C[j]? = some u → w.cell? (ad.add (k * 3 + j)) = some u := fun j hj u hu => hc _ u (by rw [cols_at l k x hk j hj]; exact hu)
  obtain ⟨b, off, spot⟩ := ad
  have hspot : spot = none := by
    have h0 := hc 0 (.int .i64 (l[0]'(by have := (List.getElem?_eq_some_iff.1 hk).1; omega)).W) (by
      have := cols_at l 0 _ (List.getElem?_eq_getElem (by have := (List.getElem?_eq_some_iff.1 hk).1; omega)) 0 (by omega)
      simpa [Col.C] using this)
    simpa [Addr.add] using World.cell?_spot h0
  subst hspot
  refine ⟨b, off, rfl, hb, ?_⟩
  unfold Cells3
  simp only [add_none] at at_
  exact ⟨at_ 0 (by omega) _ rfl, at_ 1 (by omega) _ rfl, at_ 2 (by omega) _ rfl⟩
/-- what is known of a column's words -/
def ColOk (w : World) (B : Nat) (x : Col) : Prop := Reads w B 1 x.A x.n (ids x.l) ∧ x.n ≤ x.c ∧ x.c ≤ maxLen ∧ ∀ y ∈ x.l, Word y
theorem ColOk.keep {w w' : World} {B : Nat} {x : Col} (h : ColOk w B x) (hb : Below B w w') : ColOk w' B x := ⟨h.1.below hb, h.2⟩
theorem ColOk.more {w : World} {B B' : Nat} {x : Col} (h : ColOk w B x) (hb : B ≤ B') : ColOk w B' x := ⟨h.1.more hb, h.2⟩
/-- a table: three slices, and what they read -/
structure Tab where
  TA : Option Addr
  Tn : Nat
  Tc : Nat
  ty : List Int
  CA : Option Addr
  Cn : Nat
  Cc : Nat
  F : List Col
  EA : Option Addr
  En : Nat
  Ec : Nat
  es : List Int
deriving Inhabited
def Tab.V (t : Tab) : Value := .agg #[.slice t.TA t.Tn t.Tc, .slice t.CA t.Cn t.Cc, .slice t.EA t.En t.Ec]
structure TabOk (w : World) (B : Nat) (t : Tab) : Prop where
  ty : Reads w B 1 t.TA t.Tn (ids t.ty)
  tyc : t.Tn ≤ t.Tc ∧ t.Tc ≤ maxLen
  tyw : ∀ x ∈ t.ty, Word x
  cs : Reads w B 3 t.CA t.Cn (cols t.F)
  csc : t.Cn ≤ t.Cc ∧ t.Cc ≤ maxLen
  csok : ∀ x ∈ t.F, ColOk w B x
  es : Reads w B 1 t.EA t.En (ids t.es)
  esc : t.En ≤ t.Ec ∧ t.Ec ≤ maxLen
  esw : ∀ x ∈ t.es, Word x
theorem TabOk.keep {w w' : World} {B : Nat} {t : Tab} (h : TabOk w B t) (hb : Below B w w') : TabOk w' B t :=
  ⟨h.ty.below hb, h.tyc, h.tyw, h.cs.below hb, h.csc, fun x hx => (h.csok x hx).keep hb, h.es.below hb, h.esc, h.esw⟩
theorem TabOk.more {w : World} {B B' : Nat} {t : Tab} (h : TabOk w B t) (hb : B ≤ B') : TabOk w B' t :=
  ⟨h.ty.more hb, h.tyc, h.tyw, h.cs.more hb, h.csc, fun x hx => (h.csok x hx).more hb, h.es.more hb, h.esc, h.esw⟩
/-- the entities of a table: each is one, and each index is there once -/
def entOk (l : List Int) : Nat → Bool
  | 0 => true
  | k + 1 => entOk l k && (match l[k]? with | some x => !(idx x == 0) && !hasI (l.take k) (idx x) | none => true)
/-- may a table be? -/
def tabB (t : Tab) : Bool := tyR t.ty && (decide (t.F.length = t.ty.length) && (decide (t.es.length ≤ 1048578) && (t.F.all (fun c => colB c.W c.R c.n && c.R == (t.es.length : Int)) && entOk t.es t.es.length)))
end Go.Proofs.Ytbcbknajhdaneaa
namespace Go.Proofs.Ytbcbknajhdaneaa
open Go.RowKit
set_option linter.unusedVariables false
set_option linter.unusedSimpArgs false
theorem entOk_step {l : List Int} {k : Nat} {x : Int} (h : l[k]? = some x) : entOk l (k + 1) = (entOk l k && (!(idx x == 0) && !hasI (l.take k) (idx x))) := by
  show (entOk l k && _) = _
  rw [h]
/-- a column within a table of so many rows -/
def colT (x : Col) (m : Nat) : Bool := colB x.W x.R x.n && x.R == (m : Int)
theorem tabB_eq (t : Tab) : tabB t = (tyR t.ty && (decide (t.F.length = t.ty.length) && (decide (t.es.length ≤ 1048578) && (t.F.all (fun c => colT c t.es.length) && entOk t.es t.es.length)))) := rfl
theorem TabOk.len {w : World} {B : Nat} {t : Tab} (h : TabOk w B t) : t.ty.length = t.Tn ∧ t.F.length = t.Cn ∧ t.es.length = t.En := by
  have h1 := h.ty.1
  have h2 := h.cs.1
  have h3 := h.es.1
  rw [ids_len] at h1 h3
  rw [cols_len] at h2
  omega
end Go.Proofs.Ytbcbknajhdaneaa
namespace Go.Proofs.Ytbcbknajhdaneaa
open Go.RowKit
set_option linter.unusedVariables false
set_option linter.unusedSimpArgs false
def colQ (x y : Col) : Bool := colS x.W x.R x.l y.W y.R y.l
def colsQ : List Col → List Col → Bool
  | [], [] => true
  | x :: l, y :: m => colQ x y && colsQ l m
  | _, _ => false
theorem colsQ_len : ∀ (l m : List Col), l.length ≠ m.length → colsQ l m = false
  | [], [], h => absurd rfl h
  | [], y :: m, _ => rfl
  | x :: l, [], _ => rfl
  | x :: l, y :: m, h => by
    show (colQ x y && colsQ l m) = false
    rw [colsQ_len l m (fun e => h (by simp [e])), Bool.and_false]
set_option maxRecDepth 100000 in
set_option maxHeartbeats 4000000 in
theorem ceqf_any (A : Option Addr) (n c : Nat) (F : List Col) (A2 : Option Addr) (n2 c2 : Nat) (G : List Col) (w : World) (hR : Reads w w.heap.size 3 A n (cols F)) (hR2 : Reads w w.heap.size 3 A2 n2 (cols G))
    (hF : ∀ x ∈ F, ColOk w w.heap.size x ∧ x.n ≤ 281474976710656) (hG : ∀ x ∈ G, ColOk w w.heap.size x ∧ x.n ≤ 281474976710656) (hn : n ≤ 281474976710656) (hn2 : n2 ≤ 281474976710656) :
    Calls Try.prog 89 #[.slice A n c, .slice A2 n2 c2, .func (.func 90) #[] #[]] w fun e w' => e = .returned (.bool (colsQ F G)) ∧ Below w.heap.size w w' := by
  have hl : F.length = n := by have := hR.1; rw [cols_len] at this; omega
  have hl2 : G.length = n2 := by have := hR2.1; rw [cols_len] at this; omega
  by_cases hnn : n = n2
  · subst hnn
    have d3 : ((n : Int) != (n : Int)) = false := by simp
    go_enter Try.func89, Try.ntmps89
    go_wp2_with fail
    go_loopw [17] (fun i wr => ∃ k : Nat, k ≤ n ∧ i = .int .i64 k ∧ colsQ F G = colsQ (F.drop k) (G.drop k) ∧ Below w.heap.size w wr)
      (fun i _ => n - (intOf i).toNat)
    case atStart => exact ⟨0, Nat.zero_le _, rfl, rfl, Below.refl _ _⟩
    case round =>
      obtain ⟨k, hk, rfl, hq, hb⟩ := hrel
      by_cases hlt : k < n
      · have e1 := List.getElem?_eq_getElem (l := F) (i := k) (by omega)
        have e2 := List.getElem?_eq_getElem (l := G) (i := k) (by omega)
        generalize F[k]'(by omega) = x at e1
        generalize G[k]'(by omega) = y at e2
        rw [drop_cons e1, drop_cons e2] at hq
        obtain ⟨b, off, rfl, hbl, g⟩ := cols_cells hR e1
        obtain ⟨b2, off2, rfl, hbl2, f⟩ := cols_cells hR2 e2
        obtain ⟨g0, g1, g2⟩ := g.below hb hbl
        obtain ⟨f0, f1, f2⟩ := f.below hb hbl2
        obtain ⟨f0', f1', f2'⟩ := f.below (hb.alloc hb.size (.cells #[.int .i64 x.W, .int .i64 x.R, .slice x.A x.n x.c] 68)) hbl2
        obtain ⟨hx, hxn⟩ := hF x (List.mem_of_getElem? e1)
        obtain ⟨hy, hyn⟩ := hG y (List.mem_of_getElem? e2)
        have cq := fun (W : World) (h : Below w.heap.size w W) => csame_any x.W x.R x.A x.n x.c x.l y.W y.R y.A y.n y.c y.l W ((hx.1.below h).more h.size) ((hy.1.below h).more h.size) hxn hyn
        have hs := (show colsQ F G = (colQ x y && colsQ (F.drop (k + 1)) (G.drop (k + 1))) from hq)
        unfold colQ at hs
        unfold colV at cq
        generalize colS x.W x.R x.l y.W y.R y.l = bq at cq hs
        obtain ⟨xW, xR, xA, xn, xc, xl⟩ := x
        obtain ⟨yW, yR, yA, yn, yc, yl⟩ := y
        simp only at g0 g1 g2 f0 f1 f2 f0' f1' f2' cq
        have HS := Lib.hid hs
        clear hq hs hR hR2 g f e1 e2 hx hy hxn hyn hF hG
        cases bq
        · go_wp2_with (first
                | (go_at_call 90; ((with_reducible refine (cq _ ((hb.alloc hb.size (.cells #[.int .i64 xW, .int .i64 xR, .slice xA xn xc] 68)).alloc (Nat.le_trans hb.size (by simp)) (.cells #[.int .i64 yW, .int .i64 yR, .slice yA yn yc] 68))).mono ?_); rintro e w2 ⟨rfl, hb2⟩; have hb3 := ((hb.alloc hb.size (.cells #[.int .i64 xW, .int .i64 xR, .slice xA xn xc] 68)).alloc (Nat.le_trans hb.size (by simp)) (.cells #[.int .i64 yW, .int .i64 yR, .slice yA yn yc] 68)).trans (hb2.mono (Nat.le_trans hb.size (by simp; omega)))))
                | fail)
          try rw [Exit.noGoto_ret]
          go_ret
          exact ⟨by rw [HS.out]; rfl, hb3⟩
        · go_wp2_with (first
                | (go_at_call 90; ((with_reducible refine (cq _ ((hb.alloc hb.size (.cells #[.int .i64 xW, .int .i64 xR, .slice xA xn xc] 68)).alloc (Nat.le_trans hb.size (by simp)) (.cells #[.int .i64 yW, .int .i64 yR, .slice yA yn yc] 68))).mono ?_); rintro e w2 ⟨rfl, hb2⟩; have hb3 := ((hb.alloc hb.size (.cells #[.int .i64 xW, .int .i64 xR, .slice xA xn xc] 68)).alloc (Nat.le_trans hb.size (by simp)) (.cells #[.int .i64 yW, .int .i64 yR, .slice yA yn yc] 68)).trans (hb2.mono (Nat.le_trans hb.size (by simp; omega)))))
                | fail)
          go_roundw
          case rel => exact ⟨k + 1, by omega, by go_num, by rw [HS.out, Bool.true_and], hb3⟩
          case measure => simp [intOf]; omega
      · rw [List.drop_of_length_le (by omega), List.drop_of_length_le (by omega)] at hq
        have hf := Lib.hid (hq.trans rfl)
        clear hq hR hR2 hF hG
        go_wp2_with fail
        try rw [Exit.noGoto_ret]
        go_ret
        exact ⟨by rw [hf.out] <;> rfl, hb⟩
  · have hf := Lib.hid (colsQ_len F G (by omega))
    have hne : ((n : Int) != (n2 : Int)) = true := by simp; omega
    clear hR hR2 hF hG hnn
    go_enter Try.func89, Try.ntmps89
    go_wp2_with fail
    go_ret
    exact ⟨by rw [hf.out] <;> rfl, Below.refl _ _⟩
end Go.Proofs.Ytbcbknajhdaneaa
namespace Go.Proofs.Ytbcbknajhdaneaa
open Go.RowKit
set_option linter.unusedVariables false
set_option linter.unusedSimpArgs false
/-- are tables one? -/
def tabQ (a b : Tab) : Bool := a.ty == b.ty && (colsQ a.F b.F && a.es == b.es)
/-- lengths that a walk can bear -/
def TabSm (t : Tab) : Prop := t.Tn ≤ 281474976710656 ∧ t.Cn ≤ 281474976710656 ∧ t.En ≤ 281474976710656 ∧ ∀ x ∈ t.F, x.n ≤ 281474976710656
set_option maxRecDepth 100000 in
set_option maxHeartbeats 4000000 in
theorem tsame_any (a b : Tab) (w : World) (ha : TabOk w w.heap.size a) (hb : TabOk w w.heap.size b) (sa : TabSm a) (sb : TabSm b) :
    Calls Try.prog 36 #[a.V, b.V] w fun e w' => e = .returned (.bool (tabQ a b)) ∧ Below w.heap.size w w' := by
  have c1 := fun (W : World) (h : Below w.heap.size w W) => equal_d a.TA a.Tn a.Tc a.ty b.TA b.Tn b.Tc b.ty W ((ha.ty.below h).more h.size) ((hb.ty.below h).more h.size) sa.1 sb.1
  have c3 := fun (W : World) (h : Below w.heap.size w W) => equal_d a.EA a.En a.Ec a.es b.EA b.En b.Ec b.es W ((ha.es.below h).more h.size) ((hb.es.below h).more h.size) sa.2.2.1 sb.2.2.1
  have c2 := fun (W : World) (h : Below w.heap.size w W) => ceqf_any a.CA a.Cn a.Cc a.F b.CA b.Cn b.Cc b.F W ((ha.cs.below h).more h.size) ((hb.cs.below h).more h.size) (fun x hx => ⟨((ha.csok x hx).keep h).more h.size, sa.2.2.2 x hx⟩) (fun x hx => ⟨((hb.csok x hx).keep h).more h.size, sb.2.2.2 x hx⟩) sa.2.1 sb.2.1
  unfold tabQ Tab.V
  generalize (a.ty == b.ty) = b1 at c1 ⊢
  generalize colsQ a.F b.F = b2 at c2 ⊢
  generalize (a.es == b.es) = b3 at c3 ⊢
  obtain ⟨TA, Tn, Tc, ty, CA, Cn, Cc, F, EA, En, Ec, es⟩ := a
  obtain ⟨TA', Tn', Tc', ty', CA', Cn', Cc', F', EA', En', Ec', es'⟩ := b
  simp only at c1 c2 c3 ⊢
  have hB := ((Below.refl w.heap.size w).alloc (Nat.le_refl _) (.cells #[.slice TA Tn Tc, .slice CA Cn Cc, .slice EA En Ec] 25)).alloc (by simp) (.cells #[.slice TA' Tn' Tc', .slice CA' Cn' Cc', .slice EA' En' Ec'] 25)
  have x1 := new_cell w 25 #[.slice TA Tn Tc, .slice CA Cn Cc, .slice EA En Ec] (k := 1) rfl
  have x2 := new_cell w 25 #[.slice TA Tn Tc, .slice CA Cn Cc, .slice EA En Ec] (k := 2) rfl
  have y1 := new_cell (w.alloc (.cells #[.slice TA Tn Tc, .slice CA Cn Cc, .slice EA En Ec] 25)) 25 #[.slice TA' Tn' Tc', .slice CA' Cn' Cc', .slice EA' En' Ec'] (k := 1) rfl
  have y2 := new_cell (w.alloc (.cells #[.slice TA Tn Tc, .slice CA Cn Cc, .slice EA En Ec] 25)) 25 #[.slice TA' Tn' Tc', .slice CA' Cn' Cc', .slice EA' En' Ec'] (k := 2) rfl
  obtain ⟨W0, hW0⟩ : ∃ W0, (w.alloc (.cells #[.slice TA Tn Tc, .slice CA Cn Cc, .slice EA En Ec] 25)).alloc (.cells #[.slice TA' Tn' Tc', .slice CA' Cn' Cc', .slice EA' En' Ec'] 25) = W0 := ⟨_, rfl⟩
  have z1 := (World.cell?_alloc_lt (w.alloc (.cells #[.slice TA Tn Tc, .slice CA Cn Cc, .slice EA En Ec] 25)) (.cells #[.slice TA' Tn' Tc', .slice CA' Cn' Cc', .slice EA' En' Ec'] 25) ⟨w.heap.size, 1, none⟩ (by simp)).trans x1
  have z2 := (World.cell?_alloc_lt (w.alloc (.cells #[.slice TA Tn Tc, .slice CA Cn Cc, .slice EA En Ec] 25)) (.cells #[.slice TA' Tn' Tc', .slice CA' Cn' Cc', .slice EA' En' Ec'] 25) ⟨w.heap.size, 2, none⟩ (by simp)).trans x2
  have hsz : W0.heap.size = w.heap.size + 1 + 1 := by rw [← hW0]; simp
  have hsz1 : (w.alloc (.cells #[.slice TA Tn Tc, .slice CA Cn Cc, .slice EA En Ec] 25)).heap.size = w.heap.size + 1 := by simp
  rw [hsz1] at y1 y2
  rw [hW0] at z1 z2 y1 y2 hB
  have Z1 := fun (W : World) (h : Below W0.heap.size W0 W) => cell_below' h z1 (by omega)
  have Z2 := fun (W : World) (h : Below W0.heap.size W0 W) => cell_below' h z2 (by omega)
  have Y1 := fun (W : World) (h : Below W0.heap.size W0 W) => cell_below' h y1 (by omega)
  have Y2 := fun (W : World) (h : Below W0.heap.size W0 W) => cell_below' h y2 (by omega)
  have h0 := Below.refl W0.heap.size W0
  clear ha hb sa sb x1 x2 y1 y2 z1 z2 hsz hsz1
  subst hW0
  cases b1
  · go_enter Try.func36, Try.ntmps36
    go_wp2_with (first
      | (go_at_call 41; ((with_reducible refine (c1 _ hB).mono ?_); rintro e w1 ⟨rfl, hb1⟩; have hB := hB.trans (hb1.mono hB.size); have h0 := h0.trans (hb1.mono h0.size); have q1 := Z1 _ h0; have q2 := Z2 _ h0; have r1 := Y1 _ h0; have r2 := Y2 _ h0))
      | fail)
    go_ret
    exact ⟨rfl, hB⟩
  · cases b2
    all_goals
      go_enter Try.func36, Try.ntmps36
      go_wp2_with (first
        | (go_at_call 41; first
           | ((with_reducible refine (c1 _ hB).mono ?_); rintro e w1 ⟨rfl, hb1⟩; have hB := hB.trans (hb1.mono hB.size); have h0 := h0.trans (hb1.mono h0.size); have q1 := Z1 _ h0; have q2 := Z2 _ h0; have r1 := Y1 _ h0; have r2 := Y2 _ h0)
           | ((with_reducible refine (c3 _ hB).mono ?_); rintro e w3 ⟨rfl, hb3⟩; have hB := hB.trans (hb3.mono hB.size)))
        | (go_at_call 89; ((with_reducible refine (c2 _ hB).mono ?_); rintro e w2 ⟨rfl, hb2⟩; have hB := hB.trans (hb2.mono hB.size); have h0 := h0.trans (hb2.mono h0.size); have q1 := Z1 _ h0; have q2 := Z2 _ h0; have r1 := Y1 _ h0; have r2 := Y2 _ h0))
        | fail)
      go_ret
      exact ⟨by simp, hB⟩
end Go.Proofs.Ytbcbknajhdaneaa
