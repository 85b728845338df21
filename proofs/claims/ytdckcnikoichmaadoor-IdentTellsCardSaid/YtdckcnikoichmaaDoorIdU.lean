/- What is proved: contracts of the document's Digits, one and Text. -/
import Derived.Test.YtdckcnikoichmaaDoorIdT
namespace Go.Proofs.YtdckcnikoichmaaDoor
open Go.RowKit
set_option linter.unusedVariables false
set_option linter.unusedSimpArgs false
theorem add_none (b off m : Nat) : (⟨b, off, none⟩ : Addr).add m = ⟨b, off + m, none⟩ := by
  unfold Addr.add
  split
  · rename_i h; subst h; simp
  · rfl
theorem app_mk (x : List UInt8) (d : UInt8) : (⟨(x ++ [d]).toArray⟩ : ByteArray) = ⟨x.toArray⟩ ++ ⟨#[d]⟩ := by
  have e : (⟨#[d]⟩ : ByteArray) = ⟨[d].toArray⟩ := rfl
  rw [e, ByteArray.mk_append_mk]
theorem one_new (w : World) (t : TypeId) (x : Value) : (w.alloc (.cells #[x] t)).cell? ⟨w.heap.size, 0, none⟩ = some x := by
  have e : (w.alloc (.cells #[x] t)).heap[w.heap.size]? = some (.cells #[x] t) := by
    show (w.heap.push _)[w.heap.size]? = _
    exact Array.getElem?_push_size
  unfold World.cell?; simp only [e]; rfl
theorem conv1 (w : World) (b : UInt8) (v : Int) (hv : v = (b.toNat : Int)) :
    (convert 64 9 (.slice (some ⟨w.heap.size, 0, none⟩) 1 1)).run Tryd.prog (w.alloc (.cells #[.int .u8 v] 5)) = .ok (.string ⟨#[b]⟩) (w.alloc (.cells #[.int .u8 v] 5)) := by
  subst hv
  refine run_convert_bytes_back _ _ _ 5 ⟨w.heap.size, 0, none⟩ 1 [b] Tryd.underlying64 Tryd.underlying5 Tryd.underlying9 (fun j hj => ?_)
  have hj0 : j = 0 := by simpa using hj
  subst hj0
  show (w.alloc _).cell? ((⟨w.heap.size, 0, none⟩ : Addr).add 0) = _
  rw [add_none]
  exact one_new w _ _
set_option maxRecDepth 100000 in
set_option maxHeartbeats 2000000 in
theorem rdigits_any : ∀ (u : Nat) (w : World), u < 1073741824 →
    Calls Tryd.prog 34 #[.int .i64 (u : Int)] w fun e w' => e = .returned (.string ⟨(Lib.decDigits u).toArray⟩) ∧ Below w.heap.size w w' := by
  intro u
  induction u using Nat.strongRecOn with
  | _ u ih =>
    intro w hu
    have ht : (u : Int).tmod 10 = ((u % 10 : Nat) : Int) := by rw [Int.tmod_eq_emod_of_nonneg (by omega)]; omega
    have hcv := conv1 w (UInt8.ofNat (48 + u % 10)) (48 + (u : Int) % 10) (by rw [dig_toNat _ (by omega)]; omega)
    have hbe := (Below.refl w.heap.size w).alloc (Nat.le_refl _) (.cells #[.int .u8 (48 + (u : Int) % 10)] 5)
    by_cases h : u < 10
    · have hd := Lib.hid (show Lib.decDigits u = [UInt8.ofNat (48 + u % 10)] from by rw [Lib.decDigits, dif_pos h, Nat.mod_eq_of_lt h])
      clear ih
      generalize UInt8.ofNat (48 + u % 10) = b8 at *
      go_enter Tryd.func34, Tryd.ntmps34
      go_wp2_with fail
      go_ret
      exact ⟨by rw [hd.out] <;> rfl, hbe⟩
    · have hd := Lib.hid (show Lib.decDigits u = Lib.decDigits (u / 10) ++ [UInt8.ofNat (48 + u % 10)] from by rw [Lib.decDigits, dif_neg h])
      have hl := digits_len (u / 10) (by omega)
      have ih' : ∀ w, Calls Tryd.prog 34 #[.int .i64 ((u : Int) / 10)] w fun e w' => e = .returned (.string ⟨(Lib.decDigits (u / 10)).toArray⟩) ∧ Below w.heap.size w w' := fun w => ih (u / 10) (by omega) w (by omega)
      clear ih
      generalize Lib.decDigits (u / 10) = D at *
      generalize UInt8.ofNat (48 + u % 10) = b8 at *
      go_enter Tryd.func34, Tryd.ntmps34
      go_wp2_with fail
      refine (ih' _).mono ?_
      rintro e w' ⟨rfl, hb1⟩
      have hbe := hbe_tr hbe hb1
      go_wp2_with fail
      go_ret
      exact ⟨by rw [hd.out, app_mk] <;> rfl, hbe⟩
theorem rdig_int (n : Int) (h0 : 0 ≤ n) (h1 : n ≤ 1073741823) (w : World) :
    Calls Tryd.prog 34 #[.int .i64 n] w fun e w' => e = .returned (.string ⟨(Lib.itoa n).toArray⟩) ∧ Below w.heap.size w w' := by
  have := rdigits_any n.toNat w (by omega)
  rw [itoa_nat n h0]
  rwa [show ((n.toNat : Nat) : Int) = n from by omega] at this
theorem rone_any (n : Int) (h0 : 0 ≤ n) (h1 : n ≤ 1073741823) (w : World) :
    Calls Tryd.prog 35 #[.int .i64 n] w fun e w' => e = .returned (.string ⟨(oneT n).toArray⟩) ∧ Below w.heap.size w w' := by
  have hD := fun w => rdig_int n h0 h1 w
  by_cases k : n = 0
  · have e : oneT n = [42] := by unfold oneT; rw [if_pos k]
    rw [e]
    subst k
    go_enter Tryd.func35, Tryd.ntmps35
    go_wp2_with fail
    go_ret
    exact ⟨rfl, Below.refl _ _⟩
  · have e : oneT n = Lib.itoa n := by unfold oneT; rw [if_neg k]
    rw [e]
    have hk : (n == 0) = false := by simpa using k
    go_enter Tryd.func35, Tryd.ntmps35
    go_wp2_with fail
    refine (hD _).mono ?_
    rintro e w' ⟨rfl, hb1⟩
    go_wp2_with fail
    go_ret
    exact ⟨rfl, hb1⟩
theorem ret_s1 {a b : ByteArray} (h : a = b) : Ending.returned (.string a) = .returned (.string b) := by rw [h]
theorem cat2 (c : UInt8) (x : List UInt8) : (⟨#[c]⟩ : ByteArray) ++ ⟨x.toArray⟩ = ⟨([c] ++ x).toArray⟩ := by
  have e1 : (⟨#[c]⟩ : ByteArray) = ⟨[c].toArray⟩ := rfl
  rw [e1, ByteArray.mk_append_mk]
set_option maxHeartbeats 2000000 in
theorem rtext_any (a : Int) (h : Word a) (hk : kd a ≠ 0) (w : World) :
    Calls Tryd.prog 19 #[.int .u64 a] w fun e w' => e = .returned (.string ⟨(txt a).toArray⟩) ∧ Below w.heap.size w w' := by
  have hd := kd_bd a
  obtain ⟨b0, b1, b2, b3⟩ := pab_bd a
  have hpa := pa_bd a
  have hpb := pb_bd a
  have hbe := Below.refl w.heap.size w
  have hl1 := Lib.itoa_length_le (pa a) hpa.1 hpa.2
  have hl2 := Lib.itoa_length_le (pb a) hpb.1 hpb.2
  have hl3 := oneT_len (pa a) hpa
  have hl4 := oneT_len (pb a) hpb
  have d1 := fun w => rdig_int (pa a) b0 b1 w
  have d2 := fun w => rdig_int (pb a) b2 b3 w
  have o1 := fun w => rone_any (pa a) b0 b1 w
  have o2 := fun w => rone_any (pb a) b2 b3 w
  have cP := fun w => rparts_any a h w
  have cK := fun w => rkind_any a h w
  rcases (show kd a = 1 ∨ kd a = 2 ∨ kd a = 3 ∨ kd a = 4 from by omega) with k | k | k | k
  · have e : txt a = [101] ++ Lib.itoa (pa a) ++ [46] ++ Lib.itoa (pb a) := by unfold txt; rw [if_pos k]
    rw [e]; clear e hpa hpb hl3 hl4
    rw [k] at cK
    clear k hd hk h
    generalize Lib.itoa (pa a) = A1 at *
    generalize Lib.itoa (pb a) = A2 at *
    generalize pa a = x1 at *
    generalize pb a = x2 at *
    go_enter Tryd.func19, Tryd.ntmps19
    go_wp2_with (first
      | (go_at_call 15; with_reducible refine (cP _).mono ?_; rintro e w' ⟨rfl, rfl⟩)
      | (go_at_call 17; with_reducible refine (cK _).mono ?_; rintro e w' ⟨rfl, rfl⟩)
      | (go_at_call 34; with_reducible refine (d1 _).mono ?_; rintro e w' ⟨rfl, hb1⟩; have hbe := hbe_tr hbe hb1)
      | (go_at_call 34; with_reducible refine (d2 _).mono ?_; rintro e w' ⟨rfl, hb1⟩; have hbe := hbe_tr hbe hb1)
      | fail)
    go_ret
    exact ⟨ret_s1 (cat4 _ _ _ _), hbe⟩
  · have e : txt a = [99] ++ Lib.itoa (pa a) := by unfold txt; rw [if_neg (by omega), if_pos k]
    rw [e]; clear e hpa hpb hl3 hl4
    rw [k] at cK
    clear k hd hk h
    generalize Lib.itoa (pa a) = A1 at *
    generalize pa a = x1 at *
    go_enter Tryd.func19, Tryd.ntmps19
    go_wp2_with (first
      | (go_at_call 15; with_reducible refine (cP _).mono ?_; rintro e w' ⟨rfl, rfl⟩)
      | (go_at_call 17; with_reducible refine (cK _).mono ?_; rintro e w' ⟨rfl, rfl⟩)
      | (go_at_call 34; with_reducible refine (d1 _).mono ?_; rintro e w' ⟨rfl, hb1⟩; have hbe := hbe_tr hbe hb1)
      | fail)
    go_ret
    exact ⟨ret_s1 (cat2 _ _), hbe⟩
  all_goals
    have e : txt a = [112] ++ oneT (pa a) ++ [58] ++ oneT (pb a) := by unfold txt; rw [if_neg (by omega), if_neg (by omega), if_pos (by omega)]
    rw [e]; clear e hpa hpb hl1 hl2
    rw [k] at cK
    clear k hd hk h
    generalize oneT (pa a) = A1 at *
    generalize oneT (pb a) = A2 at *
    generalize pa a = x1 at *
    generalize pb a = x2 at *
    go_enter Tryd.func19, Tryd.ntmps19
    go_wp2_with (first
      | (go_at_call 15; with_reducible refine (cP _).mono ?_; rintro e w' ⟨rfl, rfl⟩)
      | (go_at_call 17; with_reducible refine (cK _).mono ?_; rintro e w' ⟨rfl, rfl⟩)
      | (go_at_call 35; with_reducible refine (o1 _).mono ?_; rintro e w' ⟨rfl, hb1⟩; have hbe := hbe_tr hbe hb1)
      | (go_at_call 35; with_reducible refine (o2 _).mono ?_; rintro e w' ⟨rfl, hb1⟩; have hbe := hbe_tr hbe hb1)
      | fail)
    go_ret
    exact ⟨ret_s1 (cat4 _ _ _ _), hbe⟩
end Go.Proofs.YtdckcnikoichmaaDoor
