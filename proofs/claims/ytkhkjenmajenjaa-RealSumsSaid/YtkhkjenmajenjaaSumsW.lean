/- What is proved: the walk of RealSums: for every row of words and every word the law returns true. -/
import Derived.Test.YtkhkjenmajenjaaSumsP
namespace Go.Proofs.Ytkhkjenmajenjaa
open Go.RowKit
set_option linter.unusedVariables false
theorem alone_nan (x : Int) (h : Word x) (h4 : cls x = 4) : sumOut [x] = 9221120237041090560 := by
  unfold sumOut fsum
  simp only [List.foldl_cons, List.foldl_nil]
  rw [fadd_nan _ _ (cls_Nan x h h4)]
theorem alone_num (x : Int) (h : Word x) (h4 : cls x ≠ 4) : tst 3 (sumOut [x]) x = true := by
  have hw := cls_nan x h
  have h3 := cls_inf x h
  obtain ⟨x0, x1⟩ := id h
  by_cases hi : cls x = 3
  · have hx : ∃ s, x = infw s := by
      rcases h3.1 hi with e | e
      · exact ⟨false, e⟩
      · exact ⟨true, e⟩
    obtain ⟨s, rfl⟩ := hx
    have e : sumOut [infw s] = infw s := by cases s <;> decide +kernel
    rw [e, tst_eq _ _ h h h4 h4]; simp
  · have hm : x.toNat % 9223372036854775808 < 9218868437227405312 := by omega
    obtain ⟨r, hr, hr1, hr2, hr3⟩ := add_zero_fin x.toNat (by omega) hm
    have e : sumOut [x] = r := by
      unfold sumOut fsum
      simp only [List.foldl_cons, List.foldl_nil]
      have : fadd (some 0) x = some r := hr
      rw [this]
    have wr : Word (r : Int) := ⟨by omega, by omega⟩
    have c4 : cls (r : Int) ≠ 4 := fun e => by have := (cls_nan _ wr).1 e; omega
    rw [e, tst_eq _ _ wr h c4 h4, decide_eq_true_iff, ← rank_eq _ wr, ← rank_eq _ h]
    exact hr3
def hasNan (l : List Int) : Bool := l.any fun x => cls x == 4
def hasIt (l : List Int) (v : Int) : Bool := l.any fun x => x == v
theorem sum_hasNan (l : List Int) (hw : Words l) (h : hasNan l = true) : fsum l = none := by
  unfold hasNan at h
  rw [List.any_eq_true] at h
  obtain ⟨x, hx, h4⟩ := h
  exact fold_nan l hw x hx (beq_iff_eq.1 h4) _
theorem sum_both (l : List Int) (hw : Words l) (h1 : hasIt l 9218868437227405312 = true) (h2 : hasIt l 18442240474082181120 = true) : fsum l = none := by
  unfold hasIt at h1 h2
  rw [List.any_eq_true] at h1 h2
  obtain ⟨x, hx, e1⟩ := h1
  obtain ⟨y, hy, e2⟩ := h2
  have e1 := beq_iff_eq.1 e1; have e2 := beq_iff_eq.1 e2
  subst e1 e2
  exact fold_both l hw hx hy _
theorem sum_cases (l : List Int) (s : Nat) (h : Fl (fsum l) s) :
    (fsum l = none ∧ (FloatKind.f64.format.order s s != some .eq) = true ∧ sumOut l = 9221120237041090560) ∨ ((FloatKind.f64.format.order s s != some .eq) = false ∧ (fsum l).isSome = true ∧ sumOut l = s ∧ (sumOut l == 9221120237041090560) = false) := by
  rcases h with ⟨h1, h2⟩ | ⟨h1, h2⟩
  · refine .inr ⟨by rw [order_self h2]; rfl, by rw [h1]; rfl, by unfold sumOut; rw [h1], ?_⟩
    have e : sumOut l = s := by unfold sumOut; rw [h1]
    rw [e, beq_eq_false_iff_ne]
    intro e2
    apply h2
    unfold Nan
    omega
  · exact .inl ⟨h1, by rw [order_nan h2]; rfl, by unfold sumOut; rw [h1]⟩
theorem fisnan_any (s : Nat) (w : World) : Calls Try.prog 25 #[.float .f64 s] w fun e w' => e = .returned (.bool (FloatKind.f64.format.order s s != some .eq)) ∧ w = w' := by
  go_enter Try.func25, Try.ntmps25
  go_wp2
  go_ret
  exact ⟨rfl, rfl⟩
theorem clos_any (x : Int) (h : Word x) (w : World) : Calls Try.prog 28 #[.int .u64 x] w fun e w' => e = .returned (.bool (cls x == 4)) ∧ w = w' := by
  go_enter Try.func28, Try.ntmps28
  go_wp2_with (first | (go_at_call 10; refine (class_any _ (by assumption) _).mono ?_; rintro e w' ⟨rfl, rfl⟩))
  go_ret
  exact ⟨rfl, rfl⟩
theorem take_all {l : List Int} {k n : Nat} (hl : l.length = n) (h : ¬ k < n) (hk : k ≤ n) : l.take k = l := List.take_of_length_le (by omega)
theorem hasNan_take (l : List Int) (k : Nat) (x : Int) (h : l[k]? = some x) : hasNan (l.take (k + 1)) = (hasNan (l.take k) || cls x == 4) := by
  obtain ⟨hk, rfl⟩ := List.getElem?_eq_some_iff.1 h
  unfold hasNan
  rw [List.take_succ_eq_append_getElem hk, List.any_append]
  simp
theorem hasIt_take (l : List Int) (v : Int) (k : Nat) (x : Int) (h : l[k]? = some x) : hasIt (l.take (k + 1)) v = (hasIt (l.take k) v || x == v) := by
  obtain ⟨hk, rfl⟩ := List.getElem?_eq_some_iff.1 h
  unfold hasIt
  rw [List.take_succ_eq_append_getElem hk, List.any_append]
  simp
theorem any_take {p : Int → Bool} {l : List Int} {k : Nat} {x : Int} (h : l[k]? = some x) (hp : p x = true) : l.any p = true :=
  List.any_eq_true.2 ⟨x, List.mem_of_getElem? h, hp⟩
def Found (b : Bool) (r : Int) : Prop := (b = true ∧ 0 ≤ r ∧ r ≤ 281474976710656) ∨ (b = false ∧ r = -1)
def FoundR (b : Bool) (w : World) (e : Ending) (w' : World) : Prop := ∃ r, e = .returned (.int .i64 r) ∧ Found b r ∧ w = w'
set_option maxHeartbeats 2000000 in
theorem indexFunc_any (A : Option Addr) (n c : Nat) (l : List Int) (w : World) (hR : Reads w w.heap.size 1 A n (u64s l)) (hn : n ≤ 281474976710656) (hw : Words l) :
    Calls Try.prog 42 #[.slice A n c, .func (.func 28) #[] #[]] w (FoundR (hasNan l) w) := by
  have hln : l.length = n := by have := hR.1; rw [length_u64s] at this; omega
  go_enter Try.func42, Try.ntmps42
  go_wp2_with fail
  go_loop [8] (fun i => ∃ k : Nat, k ≤ n ∧ i = .int .i64 k ∧ hasNan (l.take k) = false)
    (fun i => n - (intOf i).toNat)
  case atStart => exact ⟨0, Nat.zero_le _, rfl, rfl⟩
  case round =>
    obtain ⟨k, hk, rfl, hf⟩ := hrel
    by_cases hlt : k < n
    · obtain ⟨ad, u, hA, hbl, hu, hcell⟩ := hR.at_ hlt
      obtain ⟨v, hv, rfl⟩ := u64s_get hu
      have hvw := words_get hw hv
      have HF := Lib.hid (hasNan_take l k v hv)
      have HV := Lib.hid hv
      have Hf := Lib.hid hf
      clear hu hv hf hR
      subst hA
      go_wp2_with (first | (go_at_call 28; refine (clos_any _ (by assumption) _).mono ?_; rintro e w' ⟨rfl, rfl⟩))
      · have h4 : (cls v == 4) = true := by assumption
        go_ret
        exact ⟨_, rfl, .inl ⟨any_take HV.out h4, by omega, by omega⟩, rfl⟩
      · have h4 : (cls v == 4) = false := by assumption
        go_round
        case rel => exact ⟨k + 1, by omega, by go_num, by rw [HF.out, Hf.out, h4]; rfl⟩
        case measure => simp [intOf]; omega
    · rw [take_all hln hlt hk] at hf
      clear hR
      have Hf := Lib.hid hf
      clear hf
      go_wp2_with fail
      go_ret
      exact ⟨_, rfl, .inr ⟨Hf.out, rfl⟩, rfl⟩
set_option maxHeartbeats 2000000 in
theorem index_any (A : Option Addr) (n c : Nat) (l : List Int) (x : Int) (w : World) (hR : Reads w w.heap.size 1 A n (u64s l)) (hn : n ≤ 281474976710656) :
    Calls Try.prog 43 #[.slice A n c, .int .u64 x] w (FoundR (hasIt l x) w) := by
  have hln : l.length = n := by have := hR.1; rw [length_u64s] at this; omega
  go_enter Try.func43, Try.ntmps43
  go_wp2_with fail
  go_loop [8] (fun i => ∃ k : Nat, k ≤ n ∧ i = .int .i64 k ∧ hasIt (l.take k) x = false)
    (fun i => n - (intOf i).toNat)
  case atStart => exact ⟨0, Nat.zero_le _, rfl, rfl⟩
  case round =>
    obtain ⟨k, hk, rfl, hf⟩ := hrel
    by_cases hlt : k < n
    · obtain ⟨ad, u, hA, hbl, hu, hcell⟩ := hR.at_ hlt
      obtain ⟨v, hv, rfl⟩ := u64s_get hu
      have HF := Lib.hid (hasIt_take l x k v hv)
      have HV := Lib.hid hv
      have Hf := Lib.hid hf
      clear hu hv hf hR
      subst hA
      by_cases hx : x = v
      · have hx' : (x == v) = true := beq_iff_eq.2 hx
        have hx2 : (v == x) = true := beq_iff_eq.2 hx.symm
        have HX := Lib.hid hx2
        clear hx hx2
        go_wp2_with fail
        go_ret
        exact ⟨_, rfl, .inl ⟨any_take HV.out HX.out, by omega, by omega⟩, rfl⟩
      · have hx' : (x == v) = false := beq_eq_false_iff_ne.2 hx
        have hx2 : (v == x) = false := beq_eq_false_iff_ne.2 (fun e => hx e.symm)
        have HX := Lib.hid hx2
        clear hx hx2
        go_wp2_with fail
        go_round
        case rel => exact ⟨k + 1, by omega, by go_num, by rw [HF.out, Hf.out, HX.out]; rfl⟩
        case measure => simp [intOf]; omega
    · rw [take_all hln hlt hk] at hf
      clear hR
      have Hf := Lib.hid hf
      clear hf
      go_wp2_with fail
      go_ret
      exact ⟨_, rfl, .inr ⟨Hf.out, rfl⟩, rfl⟩
theorem containsFunc_any (A : Option Addr) (n c : Nat) (l : List Int) (w : World) (hR : Reads w w.heap.size 1 A n (u64s l)) (hn : n ≤ 281474976710656) (hw : Words l) :
    Calls Try.prog 27 #[.slice A n c, .func (.func 28) #[] #[]] w fun e w' => e = .returned (.bool (hasNan l)) ∧ w = w' := by
  go_enter Try.func27, Try.ntmps27
  go_wp2_with fail
  refine (indexFunc_any A n c l w hR hn hw).mono ?_
  rintro e w' ⟨r, rfl, hf, rfl⟩
  clear hR
  rcases hf with ⟨h1, h2, h3⟩ | ⟨h1, rfl⟩
  · go_wp2_with fail
    go_ret
    exact ⟨ret_bool (by simp [*]), rfl⟩
  · go_wp2_with fail
    go_ret
    exact ⟨ret_bool (by simp [*]), rfl⟩
theorem contains_any (A : Option Addr) (n c : Nat) (l : List Int) (x : Int) (w : World) (hR : Reads w w.heap.size 1 A n (u64s l)) (hn : n ≤ 281474976710656) :
    Calls Try.prog 29 #[.slice A n c, .int .u64 x] w fun e w' => e = .returned (.bool (hasIt l x)) ∧ w = w' := by
  go_enter Try.func29, Try.ntmps29
  go_wp2_with fail
  refine (index_any A n c l x w hR hn).mono ?_
  rintro e w' ⟨r, rfl, hf, rfl⟩
  clear hR
  rcases hf with ⟨h1, h2, h3⟩ | ⟨h1, rfl⟩
  · go_wp2_with fail
    go_ret
    exact ⟨ret_bool (by simp [*]), rfl⟩
  · go_wp2_with fail
    go_ret
    exact ⟨ret_bool (by simp [*]), rfl⟩
end Go.Proofs.Ytkhkjenmajenjaa
