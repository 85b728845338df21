/- What is proved: the walk of the law IdentTells. -/
import Derived.Test.YtdckcnikoichmaaDoorIdY
import Derived.Test.YtdckcnikoichmaaDoorIdP
namespace Go.Proofs.YtdckcnikoichmaaDoor
open Go.RowKit
set_option linter.unusedVariables false
set_option linter.unusedSimpArgs false
def u64s (l : List Int) : List Value := l.map (Value.int .u64)
def strs (l : List ByteArray) : List Value := l.map Value.string
theorem u64s_get {l : List Int} {k : Nat} {u : Value} (h : (u64s l)[k]? = some u) : ∃ x, l[k]? = some x ∧ u = .int .u64 x := by
  unfold u64s at h
  rw [List.getElem?_map] at h
  cases e : l[k]? with
  | none => rw [e] at h; cases h
  | some x => rw [e] at h; simp at h; exact ⟨x, rfl, h.symm⟩
theorem strs_get {l : List ByteArray} {k : Nat} {u : Value} (h : (strs l)[k]? = some u) : ∃ x, l[k]? = some x ∧ u = .string x := by
  unfold strs at h
  rw [List.getElem?_map] at h
  cases e : l[k]? with
  | none => rw [e] at h; cases h
  | some x => rw [e] at h; simp at h; exact ⟨x, rfl, h.symm⟩
set_option maxRecDepth 100000 in
set_option maxHeartbeats 8000000 in
theorem tells_walk (A : Option Addr) (n c : Nat) (l : List Int) (A2 : Option Addr) (n2 c2 : Nat) (ts : List ByteArray) (hnc : n ≤ c) (hc : c * 8 ≤ 140737488351232) (hn2 : n2 ≤ 9223372036854775807) (hwf : ∀ x ∈ l, Word x) (hsz : ∀ s ∈ ts, s.size ≤ 9223372036854775807)
    (w : World) (hE : Env w) (hR : Reads w w.heap.size 1 A n (u64s l)) (hR2 : Reads w w.heap.size 1 A2 n2 (strs ts)) :
    Calls Tryd.prog 4 #[.slice A n c, .slice A2 n2 c2] w fun e w' => e = .returned (.bool true) ∧ Below w.heap.size w w' := by
  have hbe := Below.refl w.heap.size w
  obtain ⟨m, hm, hmn, hm12⟩ : ∃ m : Nat, min (n : Int) 12 = (m : Int) ∧ m ≤ n ∧ m ≤ 12 := ⟨min n 12, by omega, by omega, by omega⟩
  have hmc : (m : Int) ≤ (c : Int) := by omega
  go_enter Tryd.func4, Tryd.ntmps4
  go_wp2_with (first
    | (go_at_call 8; refine (wakes_any _ (hE.below hbe)).mono ?_; rintro e w' ⟨rfl, hb1⟩; have hbe := hbe_tr hbe hb1)
    | fail)
  go_loopw [31] (fun i wr => ∃ k : Nat, k ≤ m ∧ i = .int .i64 k ∧ Below w.heap.size w wr)
    (fun i _ => m - (intOf i).toNat)
  case atStart => exact ⟨0, Nat.zero_le _, rfl, hbe⟩
  case round =>
    obtain ⟨k, hk, rfl, hb⟩ := hrel
    by_cases hlt : k < m
    · obtain ⟨ad, u, hA, hbl, hu, hcell⟩ := (hR.below hb).at_ (show k < n by omega)
      obtain ⟨v, hv, rfl⟩ := u64s_get hu
      have hvw := hwf v (List.mem_of_getElem? hv)
      subst hA
      have cP := fun w => parts_any v hvw w
      have rP := fun w => rparts_any v hvw w
      have cK := fun w => kind_any v hvw w
      have rK := fun w => rkind_any v hvw w
      have cT := fun w hE => text_any v hvw w hE
      have hkd := kd_bd v
      clear hu hv hbe
      by_cases k0 : kd v = 0
      · rw [k0] at cK rK
        rw [show txE v = 110 from by unfold txE; rw [if_pos k0], show txt v = [] from by unfold txt; rw [k0]; rfl] at cT
        have rT : True := trivial
        clear hkd k0
        go_wp2_with (first
          | (go_at_call 14; with_reducible refine (cP _).mono ?_; rintro e w' ⟨rfl, hb1⟩; have hb := hbe_tr hb hb1)
          | (go_at_call 15; with_reducible refine (rP _).mono ?_; rintro e w' ⟨rfl, rfl⟩)
          | (go_at_call 16; with_reducible refine (cT _ (hE.below hb)).mono ?_; rintro e w' ⟨rfl, hb1⟩; have hb := hbe_tr hb hb1)
          | (go_at_call 17; with_reducible refine (rK _).mono ?_; rintro e w' ⟨rfl, rfl⟩)
          | (go_at_call 18; with_reducible refine (cK _).mono ?_; rintro e w' ⟨rfl, hb1⟩; have hb := hbe_tr hb hb1)
          | (go_at_call 19; with_reducible refine (rT _).mono ?_; rintro e w' ⟨rfl, hb1⟩; have hb := hbe_tr hb hb1)
          | fail)
        go_hide hQ
        go_loopw [97] (fun i wr => ∃ k2 : Nat, k2 ≤ m ∧ i = .int .i64 k2 ∧ Below w.heap.size w wr)
          (fun i _ => m - (intOf i).toNat)
        case atStart => exact ⟨0, Nat.zero_le _, rfl, hb⟩
        case round =>
          obtain ⟨k2, hk2, rfl, hb2⟩ := hrel
          by_cases hlt2 : k2 < m
          · obtain ⟨ad2, u2, hA2, hbl2, hu2, hcell2⟩ := (hR.below hb2).at_ (show k2 < n by omega)
            obtain ⟨v2, hv2, rfl⟩ := u64s_get hu2
            have hvw2 := hwf v2 (List.mem_of_getElem? hv2)
            simp only [Option.some.injEq] at hA2
            subst hA2
            have t1 := fun w => takes_any v2 v hvw2 hvw w
            have t2 := fun w => rtakes_any v2 v hvw2 hvw w
            generalize takes v2 v = bt at t1 t2
            clear hu2 hv2 hvw2
            cases bt
            all_goals
              go_wp2_with (first
                | (go_at_call 20; with_reducible refine (t1 _).mono ?_; rintro e w' ⟨rfl, hb1⟩; have hb2 := hbe_tr hb2 hb1)
                | (go_at_call 21; with_reducible refine (t2 _).mono ?_; rintro e w' ⟨rfl, rfl⟩)
                | fail)
              go_roundw
              case rel => exact ⟨k2 + 1, by omega, by go_num, hb2⟩
              case measure => simp [intOf]; omega
          · go_wp2_with fail
            subst hQ
            go_wp2_with fail
            go_roundw
            case rel => exact ⟨k + 1, by omega, by go_num, hb2⟩
            case measure => simp [intOf]; omega

      · have rT := fun w => rtext_any v hvw k0 w
        rw [show txE v = 0 from by unfold txE; rw [if_neg k0]] at cT
        have q1 : decide (0 < kd v) = true := decide_eq_true (by omega)
        have q2 : (kd v == 0) = false := by simpa using k0
        have q3 : (txt v == txt v) = true := by simp
        clear hkd k0
        generalize kd v = kv at *
        generalize txt v = tv at *
        go_wp2_with (first
          | (go_at_call 14; with_reducible refine (cP _).mono ?_; rintro e w' ⟨rfl, hb1⟩; have hb := hbe_tr hb hb1)
          | (go_at_call 15; with_reducible refine (rP _).mono ?_; rintro e w' ⟨rfl, rfl⟩)
          | (go_at_call 16; with_reducible refine (cT _ (hE.below hb)).mono ?_; rintro e w' ⟨rfl, hb1⟩; have hb := hbe_tr hb hb1)
          | (go_at_call 17; with_reducible refine (rK _).mono ?_; rintro e w' ⟨rfl, rfl⟩)
          | (go_at_call 18; with_reducible refine (cK _).mono ?_; rintro e w' ⟨rfl, hb1⟩; have hb := hbe_tr hb hb1)
          | (go_at_call 19; with_reducible refine (rT _).mono ?_; rintro e w' ⟨rfl, hb1⟩; have hb := hbe_tr hb hb1)
          | fail)
        go_hide hQ
        go_loopw [97] (fun i wr => ∃ k2 : Nat, k2 ≤ m ∧ i = .int .i64 k2 ∧ Below w.heap.size w wr)
          (fun i _ => m - (intOf i).toNat)
        case atStart => exact ⟨0, Nat.zero_le _, rfl, hb⟩
        case round =>
          obtain ⟨k2, hk2, rfl, hb2⟩ := hrel
          by_cases hlt2 : k2 < m
          · obtain ⟨ad2, u2, hA2, hbl2, hu2, hcell2⟩ := (hR.below hb2).at_ (show k2 < n by omega)
            obtain ⟨v2, hv2, rfl⟩ := u64s_get hu2
            have hvw2 := hwf v2 (List.mem_of_getElem? hv2)
            simp only [Option.some.injEq] at hA2
            subst hA2
            have t1 := fun w => takes_any v2 v hvw2 hvw w
            have t2 := fun w => rtakes_any v2 v hvw2 hvw w
            generalize takes v2 v = bt at t1 t2
            clear hu2 hv2 hvw2
            cases bt
            all_goals
              go_wp2_with (first
                | (go_at_call 20; with_reducible refine (t1 _).mono ?_; rintro e w' ⟨rfl, hb1⟩; have hb2 := hbe_tr hb2 hb1)
                | (go_at_call 21; with_reducible refine (t2 _).mono ?_; rintro e w' ⟨rfl, rfl⟩)
                | fail)
              go_roundw
              case rel => exact ⟨k2 + 1, by omega, by go_num, hb2⟩
              case measure => simp [intOf]; omega
          · go_wp2_with fail
            subst hQ
            go_wp2_with fail
            go_roundw
            case rel => exact ⟨k + 1, by omega, by go_num, hb2⟩
            case measure => simp [intOf]; omega

    · clear hbe
      go_wp2_with fail
      go_loopw [112] (fun i wr => ∃ k : Nat, k ≤ n2 ∧ k ≤ 20 ∧ i = .int .i64 k ∧ Below w.heap.size w wr)
        (fun i _ => n2 - (intOf i).toNat)
      case atStart => exact ⟨0, Nat.zero_le _, by omega, rfl, hb⟩
      case round =>
        obtain ⟨k3, hk3, hk20, rfl, hb3⟩ := hrel
        by_cases hlt3 : k3 < n2
        · obtain ⟨ad, u, hA, hbl, hu, hcell⟩ := (hR2.below hb3).at_ hlt3
          obtain ⟨s, hs, rfl⟩ := strs_get hu
          have hss := hsz s (List.mem_of_getElem? hs)
          subst hA
          clear hu hs
          by_cases h20 : k3 = 20
          · have e20 : ((k3 : Int) == 20) = true := by simp; omega
            clear h20 hk20
            go_wp2_with fail
            try rw [Exit.noGoto_ret]
            go_ret
            exact ⟨rfl, hb3⟩
          · have e20 : ((k3 : Int) == 20) = false := by simp; omega
            have hC := Lib.hid (cut_min s)
            have hl : (s.data.toList.take 60).length ≤ 100 := by rw [List.length_take]; omega
            have rL : RC (s.data.toList.take 60) (rdV (s.data.toList.take 60)) (rdE (s.data.toList.take 60)) := fun w hE => read_any _ w hE hl
            have rR := fun w => rread_any (s.data.toList.take 60) w hl
            have hq := rread_eq (s.data.toList.take 60)
            clear hl
            generalize s.data.toList.take 60 = l3 at *
            rcases hq with ⟨q1, q2, q3⟩ | ⟨q1, q2, q3⟩
            · have q4 : (rread l3 != 0) = true := by simpa using q3
              rw [← q1, q2] at rL
              unfold RRSaid at rR
              rw [q4] at rR
              clear q1 q2 q3 q4
              generalize rread l3 = v3 at *
              go_wp2_with (first
                | (go_at_call 22; rw [hC.out]; with_reducible refine (rL _ (hE.below hb3)).mono ?_; rintro e w' ⟨rfl, hb1⟩; have hb3 := hbe_tr hb3 hb1)
                | (go_at_call 23; with_reducible refine (rR _).mono ?_; rintro e w' ⟨rfl, hb1⟩; have hb3 := hbe_tr hb3 hb1)
                | fail)
              go_roundw
              case rel => exact ⟨k3 + 1, by omega, by omega, by go_num, hb3⟩
              case measure => simp [intOf]; omega
            · rw [q2, q3] at rL
              unfold RRSaid at rR
              rw [q1] at rR
              clear q1 q2 q3
              go_wp2_with (first
                | (go_at_call 22; rw [hC.out]; with_reducible refine (rL _ (hE.below hb3)).mono ?_; rintro e w' ⟨rfl, hb1⟩; have hb3 := hbe_tr hb3 hb1)
                | (go_at_call 23; with_reducible refine (rR _).mono ?_; rintro e w' ⟨rfl, hb1⟩; have hb3 := hbe_tr hb3 hb1)
                | fail)
              go_roundw
              case rel => exact ⟨k3 + 1, by omega, by omega, by go_num, hb3⟩
              case measure => simp [intOf]; omega
        · go_wp2_with fail
          try rw [Exit.noGoto_ret]
          go_ret
          exact ⟨rfl, hb3⟩
theorem identTells_rw (A : Option Addr) (n c : Nat) (l : List Int) (hnc : n ≤ c) (hc : c * 8 ≤ 140737488351232) (hwf : ∀ x ∈ l, (Lit.int .u64 x).wf = true) (A2 : Option Addr) (n2 c2 : Nat) (ts : List ByteArray) (hn2 : n2 ≤ maxLen) (hsz : ∀ s ∈ ts, s.size ≤ maxLen)
    (w : World) (hE : Env w) (hR : Reads w w.heap.size 1 A n (l.map (Value.int .u64))) (hR2 : Reads w w.heap.size 1 A2 n2 (ts.map Value.string)) :
    Calls Tryd.prog 4 #[.slice A n c, .slice A2 n2 c2] w fun e w' => e = .returned (.bool true) ∧ Below w.heap.size w w' :=
  tells_walk A n c l A2 n2 c2 ts hnc hc hn2 (fun x hx => word_wf (hwf x hx)) hsz w hE hR hR2
end Go.Proofs.YtdckcnikoichmaaDoor
