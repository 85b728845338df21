/- What is proved: the contract of the document's Read. -/
import Derived.Test.YtdckcnikoichmaaDoorIdX
import Derived.Test.YtdckcnikoichmaaDoorIdS
namespace Go.Proofs.YtdckcnikoichmaaDoor
open Go.RowKit
set_option linter.unusedVariables false
set_option linter.unusedSimpArgs false
abbrev CutC (r : List UInt8) (d : Int) (x y : List UInt8) (o : Bool) : Prop := ∀ w, Calls Tryd.prog 41 #[.string (bs r), .int .u8 d] w fun e w' => e = .returned (.tuple #[.string ⟨x.toArray⟩, .string ⟨y.toArray⟩, .bool o]) ∧ Below w.heap.size w w'
abbrev NumC (x : List UInt8) (v : Int) : Prop := ∀ w, Calls Tryd.prog 42 #[.string ⟨x.toArray⟩] w fun e w' => e = .returned (.int .i64 v) ∧ Below w.heap.size w w'
abbrev AnyC (x : List UInt8) (v : Int) : Prop := ∀ w, Calls Tryd.prog 43 #[.string ⟨x.toArray⟩] w fun e w' => e = .returned (.int .i64 v) ∧ Below w.heap.size w w'
theorem rcut_len (r : List UInt8) (d : UInt8) : (rcut r d).1.length ≤ r.length ∧ (rcut r d).2.1.length ≤ r.length := by
  by_cases h : (rcut r d).2.2 = true
  · have e := congrArg List.length (rcut_ok r d h)
    simp at e; omega
  · unfold rcut at h ⊢
    split at h
    · rename_i hd
      rw [if_pos hd]
      unfold Lib.cut at h ⊢
      split at h
      · exact absurd rfl h
      · rename_i hh; rw [if_neg hh]; simp
    · rename_i hd; rw [if_neg hd]; simp
theorem cutC (r : List UInt8) (d : UInt8) (hr : r.length ≤ 1000) : CutC r (d.toNat : Int) (rcut r d).1 (rcut r d).2.1 (rcut r d).2.2 := fun w => by
  have := rcut_any (bs r) d w (by show (bs r).data.size ≤ _; simp [bs]; omega)
  rwa [bs_toList] at this
theorem numC (x : List UInt8) (hx : x.length ≤ 1000) : NumC x (rnum x) := fun w => by
  have := rnum_any (bs x) w (by show (bs x).data.size ≤ _; simp [bs]; omega)
  rwa [bs_toList] at this
theorem anyC (x : List UInt8) (hx : x.length ≤ 1000) : AnyC x (rany x) := fun w => by
  have := rany_any (bs x) w (by show (bs x).data.size ≤ _; simp [bs]; omega)
  rwa [bs_toList] at this
theorem isC (x lo hi : Int) : IC x lo hi (decide (lo ≤ x ∧ x ≤ hi)) := fun w => by
  have := is_any x lo hi w
  rwa [inn1] at this
abbrev RRSaid (l : List UInt8) (v : Int) (w : World) : Prop := Calls Tryd.prog 23 #[.string ⟨l.toArray⟩] w fun e w' => e = .returned (.tuple #[.int .u64 v, .bool (v != 0)]) ∧ Below w.heap.size w w' 
set_option maxRecDepth 100000 in
set_option maxHeartbeats 4000000 in
theorem rr_e (r x y : List UInt8) (a b v : Int) (o b1 b2 : Bool) (w : World) (cC : CutC r 46 x y o) (nX : NumC x a) (nY : NumC y b) (i1 : IC a 1 1048578 b1) (i2 : IC b 0 7 b2)
    (h : (o = true ∧ b1 = true ∧ b2 = true ∧ MC 0 b a v ∧ (v != 0) = true) ∨ (v = 0 ∧ (o = false ∨ (o = true ∧ b1 = false) ∨ (o = true ∧ b1 = true ∧ b2 = false)))) : RRSaid (101 :: r) v w := by
  have g0 : ∀ h, ((({ data := ((101 : UInt8) :: r).toArray } : ByteArray)[0]'h).toNat : Int) = 101 := fun _ => rfl
  have hex := ex1 101 r
  have hbe := Below.refl w.heap.size w
  rcases h with ⟨rfl, rfl, rfl, m1, hv⟩ | ⟨rfl, rfl | ⟨rfl, rfl⟩ | ⟨rfl, rfl, rfl⟩⟩
  all_goals
    go_enter Tryd.func23, Tryd.ntmps23
    go_wp2_with (first
      | (go_at_call 41; with_reducible refine (cC _).mono ?_; rintro e w' ⟨rfl, hb1⟩; have hbe := hbe_tr hbe hb1)
      | (go_at_call 42; with_reducible refine (nX _).mono ?_; rintro e w' ⟨rfl, hb1⟩; have hbe := hbe_tr hbe hb1)
      | (go_at_call 42; with_reducible refine (nY _).mono ?_; rintro e w' ⟨rfl, hb1⟩; have hbe := hbe_tr hbe hb1)
      | (go_at_call 12; with_reducible refine (i1 _).mono ?_; rintro e w' ⟨rfl, rfl⟩)
      | (go_at_call 12; with_reducible refine (i2 _).mono ?_; rintro e w' ⟨rfl, rfl⟩)
      | (go_at_call 13; with_reducible refine (m1 _).mono ?_; rintro e w' ⟨rfl, rfl⟩)
      | fail)
    go_ret2
    exact ⟨(by first | rw [hv] <;> rfl | rfl), hbe⟩
set_option maxRecDepth 100000 in
set_option maxHeartbeats 4000000 in
theorem rr_p (r x y : List UInt8) (a b v : Int) (o b1 b2 : Bool) (w : World) (cC : CutC r 58 x y o) (nX : AnyC x a) (nY : AnyC y b) (i1 : IC a 0 1048578 b1) (i2 : IC b 0 1048578 b2)
    (h : (o = true ∧ b1 = true ∧ b2 = true ∧ MC 9223372036854775808 a b v ∧ (v != 0) = true) ∨ (v = 0 ∧ (o = false ∨ (o = true ∧ b1 = false) ∨ (o = true ∧ b1 = true ∧ b2 = false)))) : RRSaid (112 :: r) v w := by
  have g0 : ∀ h, ((({ data := ((112 : UInt8) :: r).toArray } : ByteArray)[0]'h).toNat : Int) = 112 := fun _ => rfl
  have hex := ex1 112 r
  have hbe := Below.refl w.heap.size w
  rcases h with ⟨rfl, rfl, rfl, m1, hv⟩ | ⟨rfl, rfl | ⟨rfl, rfl⟩ | ⟨rfl, rfl, rfl⟩⟩
  all_goals
    go_enter Tryd.func23, Tryd.ntmps23
    go_wp2_with (first
      | (go_at_call 41; with_reducible refine (cC _).mono ?_; rintro e w' ⟨rfl, hb1⟩; have hbe := hbe_tr hbe hb1)
      | (go_at_call 43; with_reducible refine (nX _).mono ?_; rintro e w' ⟨rfl, hb1⟩; have hbe := hbe_tr hbe hb1)
      | (go_at_call 43; with_reducible refine (nY _).mono ?_; rintro e w' ⟨rfl, hb1⟩; have hbe := hbe_tr hbe hb1)
      | (go_at_call 12; with_reducible refine (i1 _).mono ?_; rintro e w' ⟨rfl, rfl⟩)
      | (go_at_call 12; with_reducible refine (i2 _).mono ?_; rintro e w' ⟨rfl, rfl⟩)
      | (go_at_call 13; with_reducible refine (m1 _).mono ?_; rintro e w' ⟨rfl, rfl⟩)
      | fail)
    go_ret2
    exact ⟨(by first | rw [hv] <;> rfl | rfl), hbe⟩
set_option maxRecDepth 100000 in
set_option maxHeartbeats 4000000 in
theorem rr_c (r : List UInt8) (a v : Int) (b1 : Bool) (w : World) (nX : ∀ w, Calls Tryd.prog 42 #[.string (bs r)] w fun e w' => e = .returned (.int .i64 a) ∧ Below w.heap.size w w') (i1 : IC a 1 24 b1)
    (h : (b1 = true ∧ MC 4611686018427387904 0 a v ∧ (v != 0) = true) ∨ (v = 0 ∧ b1 = false)) : RRSaid (99 :: r) v w := by
  have g0 : ∀ h, ((({ data := ((99 : UInt8) :: r).toArray } : ByteArray)[0]'h).toNat : Int) = 99 := fun _ => rfl
  have hex := ex1 99 r
  have hbe := Below.refl w.heap.size w
  rcases h with ⟨rfl, m1, hv⟩ | ⟨rfl, rfl⟩
  all_goals
    go_enter Tryd.func23, Tryd.ntmps23
    go_wp2_with (first
      | (go_at_call 42; with_reducible refine (nX _).mono ?_; rintro e w' ⟨rfl, hb1⟩; have hbe := hbe_tr hbe hb1)
      | (go_at_call 12; with_reducible refine (i1 _).mono ?_; rintro e w' ⟨rfl, rfl⟩)
      | (go_at_call 13; with_reducible refine (m1 _).mono ?_; rintro e w' ⟨rfl, rfl⟩)
      | fail)
    go_ret2
    exact ⟨(by first | rw [hv] <;> rfl | rfl), hbe⟩
set_option maxRecDepth 100000 in
set_option maxHeartbeats 4000000 in
theorem rr_o (c : UInt8) (r : List UInt8) (w : World) (h1 : c ≠ 101) (h2 : c ≠ 99) (h3 : c ≠ 112) : RRSaid (c :: r) 0 w := by
  have g0 : ∀ h, ((({ data := (c :: r).toArray } : ByteArray)[0]'h).toNat : Int) = (c.toNat : Int) := fun _ => rfl
  have t1 : (((c.toNat : Nat) : Int) == 101) = false := by have : c.toNat ≠ 101 := fun e => h1 (UInt8.toNat_inj.1 e); simp; omega
  have t2 : (((c.toNat : Nat) : Int) == 99) = false := by have : c.toNat ≠ 99 := fun e => h2 (UInt8.toNat_inj.1 e); simp; omega
  have t3 : (((c.toNat : Nat) : Int) == 112) = false := by have : c.toNat ≠ 112 := fun e => h3 (UInt8.toNat_inj.1 e); simp; omega
  clear h1 h2 h3
  go_enter Tryd.func23, Tryd.ntmps23
  go_wp2_with fail
  go_ret2
  exact ⟨rfl, Below.refl _ _⟩
set_option maxRecDepth 100000 in
theorem rr_n (w : World) : RRSaid [] 0 w := by
  go_enter Tryd.func23, Tryd.ntmps23
  go_wp2_with fail
  go_ret2
  exact ⟨rfl, Below.refl _ _⟩
theorem ne0 {v : Int} (h : v ≠ 0) : (v != 0) = true := by simpa using h
theorem rread_any (l : List UInt8) (w : World) (hs : l.length ≤ 100) : RRSaid l (rread l) w := by
  match l with
  | [] => exact rr_n w
  | c :: r =>
    have hr : r.length ≤ 100 := by simp at hs; omega
    by_cases h1 : c = 101
    · subst h1
      obtain ⟨l1, l2⟩ := rcut_len r 46
      refine rr_e r _ _ _ _ _ _ _ _ w (cutC r 46 (by omega)) (numC _ (by omega)) (numC _ (by omega)) (isC _ _ _) (isC _ _ _) ?_
      rw [rread_e]
      by_cases hc : (rcut r 46).2.2 = true ∧ (1 ≤ rnum (rcut r 46).1 ∧ rnum (rcut r 46).1 ≤ 1048578) ∧ (0 ≤ rnum (rcut r 46).2.1 ∧ rnum (rcut r 46).2.1 ≤ 7)
      · rw [if_pos hc]
        left
        obtain ⟨q1, q2, q3⟩ := hc
        refine ⟨q1, decide_eq_true q2, decide_eq_true q3, fun w => ?_, ne0 (by omega)⟩
        have := made_any 0 (rnum (rcut r 46).2.1) (rnum (rcut r 46).1) (.inl rfl) ⟨by omega, by omega⟩ ⟨by omega, by omega⟩ w
        rwa [Int.zero_add] at this
      · rw [if_neg hc]
        right
        refine ⟨rfl, ?_⟩
        cases q1 : (rcut r 46).2.2
        · left; rfl
        · right
          by_cases q2 : 1 ≤ rnum (rcut r 46).1 ∧ rnum (rcut r 46).1 ≤ 1048578
          · right; exact ⟨rfl, decide_eq_true q2, decide_eq_false fun q3 => hc ⟨q1, q2, q3⟩⟩
          · left; exact ⟨rfl, decide_eq_false q2⟩
    · by_cases h2 : c = 99
      · subst h2
        refine rr_c r _ _ _ w (fun w => numC r (by omega) w) (isC _ _ _) ?_
        rw [rread_c]
        by_cases hc : 1 ≤ rnum r ∧ rnum r ≤ 24
        · rw [if_pos hc]
          left
          refine ⟨decide_eq_true hc, fun w => ?_, ne0 (by omega)⟩
          have := made_any 4611686018427387904 0 (rnum r) (.inr (.inl rfl)) ⟨by omega, by omega⟩ ⟨by omega, by omega⟩ w
          rwa [show (4611686018427387904 : Int) + 0 * 4294967296 + rnum r = 4611686018427387904 + rnum r from by omega] at this
        · rw [if_neg hc]
          right; exact ⟨rfl, decide_eq_false hc⟩
      · by_cases h3 : c = 112
        · subst h3
          obtain ⟨l1, l2⟩ := rcut_len r 58
          refine rr_p r _ _ _ _ _ _ _ _ w (cutC r 58 (by omega)) (anyC _ (by omega)) (anyC _ (by omega)) (isC _ _ _) (isC _ _ _) ?_
          rw [rread_p]
          by_cases hc : (rcut r 58).2.2 = true ∧ (0 ≤ rany (rcut r 58).1 ∧ rany (rcut r 58).1 ≤ 1048578) ∧ (0 ≤ rany (rcut r 58).2.1 ∧ rany (rcut r 58).2.1 ≤ 1048578)
          · rw [if_pos hc]
            left
            obtain ⟨q1, q2, q3⟩ := hc
            refine ⟨q1, decide_eq_true q2, decide_eq_true q3, fun w => ?_, ne0 (by omega)⟩
            exact made_any 9223372036854775808 (rany (rcut r 58).1) (rany (rcut r 58).2.1) (.inr (.inr rfl)) ⟨by omega, by omega⟩ ⟨by omega, by omega⟩ w
          · rw [if_neg hc]
            right
            refine ⟨rfl, ?_⟩
            cases q1 : (rcut r 58).2.2
            · left; rfl
            · right
              by_cases q2 : 0 ≤ rany (rcut r 58).1 ∧ rany (rcut r 58).1 ≤ 1048578
              · right; exact ⟨rfl, decide_eq_true q2, decide_eq_false fun q3 => hc ⟨q1, q2, q3⟩⟩
              · left; exact ⟨rfl, decide_eq_false q2⟩
        · have e : rread (c :: r) = 0 := by
            show (if c = 101 then _ else if c = 99 then _ else if c = 112 then _ else (0 : Int)) = 0
            rw [if_neg h1, if_neg h2, if_neg h3]
          rw [e]
          exact rr_o c r w h1 h2 h3
end Go.Proofs.YtdckcnikoichmaaDoor
