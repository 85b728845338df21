/- What is proved: the walk of RealOne: for every three words the law returns true. -/
import Derived.Test.YtkhkjenmajenjaaWalkF
import Derived.Test.YtkhkjenmajenjaaLaws
namespace Go.Proofs.Ytkhkjenmajenjaa
open Go.RowKit
set_option linter.unusedVariables false
def i64s (l : List Int) : List Value := l.map (Value.int .i64)
theorem i64s_get {l : List Int} {k : Nat} {u : Value} (h : (i64s l)[k]? = some u) : ∃ x, l[k]? = some x ∧ u = .int .i64 x := by
  unfold i64s at h
  rw [List.getElem?_map] at h
  cases e : l[k]? with
  | none => rw [e] at h; cases h
  | some x => rw [e] at h; simp at h; exact ⟨x, rfl, h.symm⟩
theorem reads_lits (w : World) (l : List Value) (t : TypeId) (B n : Nat) (hn : n = l.length) (hB : w.heap.size + 1 ≤ B) : Reads (w.alloc (.cells l.toArray t)) B 1 (some ⟨w.heap.size, 0, none⟩) n l :=
  ⟨by omega, fun _ => ⟨_, rfl, by show w.heap.size < B; omega, fun j u hu => by
    have e : (⟨w.heap.size, 0, none⟩ : Addr).add j = ⟨w.heap.size, j, none⟩ := by
      unfold Addr.add; split
      · subst_vars; rfl
      · simp
    rw [e]
    have h := cell_of_row (w.alloc (.cells l.toArray t)) w.heap.size j l.toArray t (0, 0) (heap_alloc_new w _)
    rw [h]; simpa using hu⟩⟩
def ck (L M E : Bool) (k : Nat) : Int := if k = 0 then 0 else if k = 1 then L.toInt else if k = 2 then L.toInt + M.toInt else cnt L M E
theorem ck_bd (L M E : Bool) (k : Nat) : 0 ≤ ck L M E k ∧ ck L M E k ≤ 3 := by
  unfold ck cnt; cases L <;> cases M <;> cases E <;> simp [Bool.toInt] <;> (repeat' split) <;> omega
theorem ck_step (L M E b : Bool) (k : Nat) (h : (k = 0 ∧ b = L) ∨ (k = 1 ∧ b = M) ∨ (k = 2 ∧ b = E)) : ck L M E (k + 1) = ck L M E k + b.toInt := by
  rcases h with ⟨rfl, rfl⟩ | ⟨rfl, rfl⟩ | ⟨rfl, rfl⟩ <;> simp [ck, cnt]
theorem tst_k (a b v : Int) (k : Nat) (hv : ([1, 2, 3] : List Int)[k]? = some v) : (k = 0 ∧ tst v a b = tst 1 a b) ∨ (k = 1 ∧ tst v a b = tst 2 a b) ∨ (k = 2 ∧ tst v a b = tst 3 a b) := by
  match k, hv with
  | 0, hv => simp at hv; subst hv; simp
  | 1, hv => simp at hv; subst hv; simp
  | 2, hv => simp at hv; subst hv; simp
theorem v_bd (v : Int) (k : Nat) (hv : ([1, 2, 3] : List Int)[k]? = some v) : 1 ≤ v ∧ v ≤ 3 := by
  match k, hv with
  | 0, hv => simp at hv; subst hv; simp
  | 1, hv => simp at hv; subst hv; simp
  | 2, hv => simp at hv; subst hv; simp
theorem one_cases (a b c : Int) (ha : Word a) (hb : Word b) (hc : Word c) :
    (kc a b = -1 ∧ kc b a = 1 ∧ (a == b) = false ∧ tst 2 a b = false ∧ 0 < kc b c) ∨ (kc a b = -1 ∧ kc b a = 1 ∧ (a == b) = false ∧ tst 2 a b = false ∧ kc b c ≤ 0 ∧ kc a c ≤ 0) ∨
    (kc a b = 0 ∧ kc b a = 0 ∧ (a == b) = true ∧ tst 1 a b = false ∧ 0 < kc b c) ∨ (kc a b = 0 ∧ kc b a = 0 ∧ (a == b) = true ∧ tst 1 a b = false ∧ kc b c ≤ 0 ∧ kc a c ≤ 0) ∨
    (kc a b = 1 ∧ kc b a = -1 ∧ (a == b) = false ∧ tst 1 a b = false) := by
  have hi := key_inj a b ha hb
  have h1 := kc_not_gt a b ha hb
  have h2 := kc_not_lt a b ha hb
  have e1 : (a == b) = decide (a = b) := rfl
  rw [e1]
  rcases kc_cases a b with ⟨p, q⟩ | ⟨p, q⟩ | ⟨p, q⟩ <;> rcases kc_cases b a with ⟨p2, q2⟩ | ⟨p2, q2⟩ | ⟨p2, q2⟩ <;> rcases kc_cases b c with ⟨p3, q3⟩ | ⟨p3, q3⟩ | ⟨p3, q3⟩ <;> rcases kc_cases a c with ⟨p4, q4⟩ | ⟨p4, q4⟩ | ⟨p4, q4⟩ <;> first | (exfalso; omega) | skip
  all_goals (rw [p, p2, p3, p4]; simp; first | exact ⟨fun e => by have := hi.2 e; omega, h1 (by omega)⟩ | exact ⟨hi.1 (by omega), h2 (by omega)⟩ | exact ⟨fun e => by have := hi.2 e; omega, h2 (by omega)⟩)
theorem one_nums (a b : Int) (ha : Word a) (hb : Word b) :
    ((cls a != 4) = true ∧ (cls b != 4) = true ∧ ck (tst 1 a b) (tst 2 a b) (tst 3 a b) 3 = 1) ∨ ((cls a != 4) = true ∧ (cls b != 4) = false ∧ ck (tst 1 a b) (tst 2 a b) (tst 3 a b) 3 = 0) ∨ ((cls a != 4) = false ∧ ck (tst 1 a b) (tst 2 a b) (tst 3 a b) 3 = 0) := by
  have e : ck (tst 1 a b) (tst 2 a b) (tst 3 a b) 3 = cnt (tst 1 a b) (tst 2 a b) (tst 3 a b) := rfl
  rw [e]
  by_cases na : cls a = 4
  · exact .inr (.inr ⟨by simp [na], one_nan a b ha hb (.inl na)⟩)
  · by_cases nb : cls b = 4
    · exact .inr (.inl ⟨by simp [na], by simp [nb], one_nan a b ha hb (.inr nb)⟩)
    · exact .inl ⟨by simp [na], by simp [nb], one_num a b ha hb na nb⟩
set_option maxHeartbeats 4000000 in
theorem realOne_any (a b c : Int) (ha : Word a) (hb : Word b) (hc : Word c) (w : World) :
    Calls Try.prog 3 #[.int .u64 a, .int .u64 b, .int .u64 c] w fun e w' => e = .returned (.bool true) ∧ Below w.heap.size w w' := by
  go_enter Try.func3, Try.ntmps3
  go_wp2_with fail
  refine (wakes_any _).mono ?_
  rintro e w1 ⟨rfl, hb1⟩
  go_wp2_with fail
  have hR := reads_lits w1 (i64s [1, 2, 3]) 3 (w1.heap.size + 1) 3 rfl (Nat.le_refl _)
  change Reads (w1.alloc (Obj.cells #[.int .i64 1, .int .i64 2, .int .i64 3] 3)) _ _ _ _ _ at hR
  have hbb := hb1.alloc hb1.size (Obj.cells #[.int .i64 1, .int .i64 2, .int .i64 3] 3)
  have hs : w1.heap.size + 1 = (w1.alloc (Obj.cells #[.int .i64 1, .int .i64 2, .int .i64 3] 3)).heap.size := by simp
  rw [hs] at hR
  clear hs
  generalize w1.alloc (Obj.cells #[.int .i64 1, .int .i64 2, .int .i64 3] 3) = W0 at *
  generalize hA : (some ({ block := w1.heap.size, off := 0 } : Addr)) = A at *
  clear hA
  clear hb1
  go_loopw [7, 18] (fun m i wr => ∃ k : Nat, k ≤ 3 ∧ i = .int .i64 k ∧ m = .int .i64 (ck (tst 1 a b) (tst 2 a b) (tst 3 a b) k) ∧ Below W0.heap.size W0 wr)
    (fun _ i _ => 3 - (intOf i).toNat)
  case atStart => exact ⟨0, Nat.zero_le _, rfl, rfl, Below.refl _ _⟩
  case round =>
    obtain ⟨k, hk, rfl, rfl, hbw⟩ := hrel
    obtain ⟨m0, m1⟩ := ck_bd (tst 1 a b) (tst 2 a b) (tst 3 a b) k
    by_cases hlt : k < 3
    · obtain ⟨ad, u, rfl, hbl, hu, hcell⟩ := (hR.below hbw).at_ hlt
      obtain ⟨v, hv, rfl⟩ := i64s_get hu
      have hst := Lib.hid (ck_step _ _ _ _ k (tst_k a b v k hv))
      obtain ⟨v0, v1⟩ := v_bd v k hv
      clear hu hv hR
      go_wp2_with (first
        | (go_at_call 9; refine (test_any _ _ _ (by omega) (by omega) _).mono ?_; rintro e w2 ⟨rfl, hb2⟩; have hbw2 := hbw.trans (hb2.mono hbw.size)))
      · have ht : tst v a b = true := by assumption
        go_roundw
        case rel => exact ⟨k + 1, by omega, by go_num, by rw [hst.out, ht]; rfl, hbw2⟩
        case measure => simp [intOf]; omega
      · have ht : tst v a b = false := by assumption
        go_roundw
        case rel => exact ⟨k + 1, by omega, by go_num, by rw [hst.out, ht]; simp, hbw2⟩
        case measure => simp [intOf]; omega
    · have hk3 : k = 3 := by omega
      subst hk3
      have hbe := hbb.trans (hbw.mono hbb.size)
      clear hR hk hlt m0 m1 hbb hbw
      have hsw := tst_swap a b ha hb
      rcases one_cases a b c ha hb hc with ⟨x0, x1, x2, x3, y0⟩ | ⟨x0, x1, x2, x3, y0, z0⟩ | ⟨x0, x1, x2, x3, y0⟩ | ⟨x0, x1, x2, x3, y0, z0⟩ | ⟨x0, x1, x2, x3⟩ <;> rcases one_nums a b ha hb with ⟨na, nb, hm⟩ | ⟨na, nb, hm⟩ | ⟨na, hm⟩ <;> rw [hm] <;> clear hm
      all_goals
        go_wp2_with (first
          | (go_at_call 10; refine (class_any _ (by assumption) _).mono ?_; rintro e w' ⟨rfl, rfl⟩)
          | (go_at_call 11; refine (compare_any _ _ (by assumption) (by assumption) _).mono ?_; rintro e w' ⟨rfl, rfl⟩)
          | (go_at_call 9; refine (test_any _ _ _ (by decide) (by decide) _).mono ?_; rintro e w2 ⟨rfl, hb2⟩; have hbe := hbe.trans (hb2.mono hbe.size); clear hb2))

      all_goals (go_ret; exact ⟨ret_bool (by simp [*]), hbe⟩)
end Go.Proofs.Ytkhkjenmajenjaa
