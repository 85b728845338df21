/- What is proved: the walk of the document's Read. -/
import Derived.Test.YtcfpnnkohjochaaDoorVaZ
import Derived.Deep.QuietTactic
import Derived.BigQuiet
namespace Go.Proofs.YtcfpnnkohjochaaDoor
open Go.RowKit
set_option linter.unusedVariables false
set_option linter.unusedSimpArgs false
def RReadC (s : ByteArray) (w : World) (e : Ending) (w' : World) : Prop :=
  ∃ A n c, e = .returned (.tuple #[.slice A n c, .bool (readP s).isSome]) ∧ n ≤ 65537 ∧ (∀ l, readP s = some l → l.length = n ∧ Reads w' w'.heap.size 1 A n (ids l)) ∧ Below w.heap.size w w'
theorem RReadC.no {s : ByteArray} {w w' : World} {A : Option Addr} {n c : Nat} (h : readP s = none) (hn : n ≤ 65537) (hb : Below w.heap.size w w') : RReadC s w (.returned (.tuple #[.slice A n c, .bool false])) w' :=
  ⟨A, n, c, by rw [h]; rfl, hn, (fun l hl => by rw [h] at hl; cases hl), hb⟩
theorem read_wds {s : ByteArray} (h : s.data.toList ≠ [45]) : readP s = match wdsL s.data.toList with | some xs => if xs.length ≤ 4 then some xs else none | none => none := by
  rw [readP_L]
  unfold readL
  rw [if_neg h]
  rfl
/-- where the reading stands -/
structure At (s : ByteArray) (k : Nat) (xs : List Int) (p : List UInt8) (n m : Nat) : Prop where
  part : Part p n m
  few : xs.length ≤ k
  on : k ≤ s.size → wdsL s.data.toList = (wdsL (p ++ s.data.toList.drop k)).map (fun ys => xs ++ ys)
  done : k = s.size + 1 → wdsL s.data.toList = some xs
theorem At.start (s : ByteArray) : At s 0 [] [] 0 0 := ⟨Part.nil, Nat.zero_le _, fun _ => by rw [List.drop_zero, List.nil_append]; cases wdsL s.data.toList <;> rfl, fun h => by omega⟩
theorem drop_at {s : ByteArray} {k : Nat} (h : k < s.size) : s.data.toList.drop k = (s[k]'h) :: s.data.toList.drop (k + 1) := by
  rw [← List.getElem_cons_drop (by simpa using h)]; rfl
theorem At.comma0 {s : ByteArray} {k : Nat} {xs : List Int} {p : List UInt8} {n : Nat} (a : At s k xs p n 0) (h : k = s.size ∨ ∃ h : k < s.size, s[k]'h = 44) : wdsL s.data.toList = none := by
  have e := a.part.empty
  subst e
  rcases h with rfl | ⟨h, hc⟩
  · rw [a.on (Nat.le_refl _), List.nil_append, List.drop_of_length_le (by simp), wds_nil]; rfl
  · rw [a.on (by omega), List.nil_append, drop_at h, hc, wds_comma_no]; rfl
theorem At.comma {s : ByteArray} {k : Nat} {xs : List Int} {p : List UInt8} {n m : Nat} (a : At s k xs p n m) (hm : m ≠ 0) (h : k = s.size ∨ ∃ h : k < s.size, s[k]'h = 44) : At s (k + 1) (xs ++ [(n : Int)]) [] 0 0 := by
  refine ⟨Part.nil, by rw [List.length_append]; have := a.few; simp; omega, fun hk => ?_, fun hk => ?_⟩
  · rcases h with rfl | ⟨h, hc⟩
    · omega
    · rw [a.on (by omega), drop_at h, hc, wds_comma a.part.noComma (a.part.word hm), List.nil_append]
      cases wdsL (s.data.toList.drop (k + 1)) <;> simp
  · rcases h with rfl | ⟨h, hc⟩
    · rw [a.on (Nat.le_refl _), List.drop_of_length_le (by simp), List.append_nil, wds_end a.part.noComma (a.part.word hm)]
      rfl
    · omega
theorem At.bad {s : ByteArray} {k : Nat} {xs : List Int} {p : List UInt8} {n m : Nat} (a : At s k xs p n m) (h : k < s.size) (hc : s[k] ≠ 44) (hb : isHex s[k] = false ∨ m = 16 ∨ (m = 1 ∧ n = 0)) : wdsL s.data.toList = none := by
  rw [a.on (by omega), drop_at h, wds_no a.part.noComma hc]
  · rfl
  · rcases hb with hb | rfl | ⟨rfl, rfl⟩
    · exact bad_hex hb
    · exact bad_long a.part.len
    · rw [a.part.one]; exact bad_zero
theorem At.step {s : ByteArray} {k : Nat} {xs : List Int} {p : List UInt8} {n m : Nat} (a : At s k xs p n m) (h : k < s.size) (hx : isHex s[k] = true) (h16 : m ≠ 16) (h0 : ¬ (m = 1 ∧ n = 0)) : At s (k + 1) xs (p ++ [s[k]]) (16 * n + dv s[k]) (m + 1) := by
  refine ⟨a.part.step hx h16 h0, by have := a.few; omega, fun hk => ?_, fun hk => by omega⟩
  rw [a.on (by omega), drop_at h, List.append_assoc]
  rfl
theorem At.out {s : ByteArray} {xs : List Int} {p : List UInt8} {n m : Nat} (a : At s (s.size + 1) xs p n m) (h : s.data.toList ≠ [45]) : readP s = if xs.length ≤ 4 then some xs else none := by
  rw [read_wds h, a.done rfl]
/-- the digit that was found so far -/
def dg (c : UInt8) (j : Nat) : Int := if isHex c = true ∧ dv c < j then (dv c : Int) else -1
theorem dg_zero (c : UInt8) : dg c 0 = -1 := by unfold dg; rw [if_neg (by omega)]
theorem dg_hit {c : UInt8} {j : Nat} (h : (isHex c && decide (dv c = j)) = true) : dg c (j + 1) = (j : Int) := by
  simp only [Bool.and_eq_true, decide_eq_true_eq] at h
  unfold dg
  rw [if_pos ⟨h.1, by omega⟩, h.2]
theorem dg_miss {c : UInt8} {j : Nat} (h : (isHex c && decide (dv c = j)) = false) : dg c (j + 1) = dg c j := by
  simp only [Bool.and_eq_false_iff, decide_eq_false_iff_not] at h
  unfold dg
  by_cases hx : isHex c = true
  · rcases h with h | h
    · rw [hx] at h; cases h
    · by_cases hj : dv c < j
      · rw [if_pos ⟨hx, (by omega : dv c < j + 1)⟩, if_pos ⟨hx, hj⟩]
      · rw [if_neg (fun q => by have := q.2; omega), if_neg (fun q => hj q.2)]
  · rw [if_neg (fun q => hx q.1), if_neg (fun q => hx q.1)]
theorem dg_end (c : UInt8) : (isHex c = true ∧ dg c 16 = (dv c : Int)) ∨ (isHex c = false ∧ dg c 16 = -1) := by
  unfold dg
  cases h : isHex c
  · right; simp
  · left; rw [if_pos ⟨rfl, dv_lt h⟩]; simp
set_option maxRecDepth 100000 in
set_option maxHeartbeats 8000000 in
theorem rread_any (s : ByteArray) (hs : s.size ≤ 65535) (w : World) : Calls Tryd.prog 15 #[.string s] w (RReadC s w) := by
  obtain ⟨i0, hi0, hz0, hz1, hz2⟩ := info_parts info_u64
  by_cases h45 : s.data.toList = [45]
  · have hb : (s.toList == [45]) = true := by rw [toList_eq]; exact beq_iff_eq.2 h45
    have hf : ∀ w' : World, Below w.heap.size w w' → RReadC s w (.returned (.tuple #[.slice none 0 0, .bool true])) w' := fun w' hb => by
      have hr : readP s = some [] := by unfold readP; rw [if_pos h45]
      refine ⟨none, 0, 0, by rw [hr]; rfl, by omega, (fun l hl => ?_), hb⟩
      rw [hr] at hl
      injection hl with hl
      subst hl
      exact ⟨rfl, Reads.none_⟩
    have HF := Lib.hid hf
    clear hf h45
    go_enter Tryd.func15, Tryd.ntmps15
    go_wp2_with fail
    go_ret2
    exact HF.out _ (Below.refl _ _)
  · have hb : (s.toList == [45]) = false := by rw [toList_eq]; exact beq_eq_false_iff_ne.2 h45
    have H45 := Lib.hid h45
    clear h45
    go_enter Tryd.func15, Tryd.ntmps15
    go_wp2_with fail
    clear hb
    go_loopw [4, 5, 6, 7] (fun o nn mm i wr => ∃ (k n m : Nat) (xs : List Int) (p : List UInt8) (A : Option Addr) (c : Nat), k ≤ s.size + 1 ∧ i = .int .i64 k ∧ nn = .int .u64 n ∧ mm = .int .i64 m ∧ o = .slice A xs.length c ∧ Hid (At s k xs p n m) ∧ m ≤ 16 ∧ n < 18446744073709551616 ∧ xs.length ≤ k ∧ wr.ownsRow w.heap.size 38 1 (.slice A xs.length c) xs.length (ids xs) ∧ Below w.heap.size w wr)
      (fun o nn mm i _ => s.size + 1 - (intOf i).toNat)
    case atStart => exact ⟨0, 0, 0, [], [], none, 0, Nat.zero_le _, rfl, rfl, rfl, rfl, Lib.hid (At.start s), by omega, by omega, by simp, World.ownsRow_nil _ _ _ _, Below.refl _ _⟩
    case round =>
      obtain ⟨k, n, m, xs, p, A, c, hk, rfl, rfl, rfl, rfl, a, hm, hn, hxk, ho, hB⟩ := hrel
      obtain ⟨q, hq⟩ : ∃ q, xs.length = q := ⟨_, rfl⟩
      rw [hq] at ho hxk ⊢
      have OW := Lib.hid ho
      have HQ := Lib.hid hq
      clear ho hq
      rcases (show k = s.size + 1 ∨ k = s.size ∨ k < s.size from by omega) with h1 | h1 | h1
      · subst h1
        have cr := fun (W : World) => right_v A q c xs HQ.out (by omega) W
        have t1 : decide (((s.size + 1 : Nat) : Int) ≤ (s.size : Int)) = false := decide_eq_false (by omega)
        have t2 : ¬ (((s.size : Nat) : Int) + 1 ≤ (s.size : Int)) := by omega
        have hout := a.out.out H45.out
        have hend : ∀ b w', decide (xs.length ≤ 4) = b → Below w.heap.size w w' → w'.ownsRow w.heap.size 38 1 (.slice A q c) q (ids xs) → RReadC s w (.returned (.tuple #[.slice A q c, .bool b])) w' := by
          intro b w' hb4 hb ho
          subst hb4
          by_cases h4 : xs.length ≤ 4
          · rw [if_pos h4] at hout
            refine ⟨A, q, c, by rw [hout, decide_eq_true h4]; rfl, by omega, (fun l hl => ?_), hb⟩
            rw [hout] at hl
            injection hl with hl
            subst hl
            exact ⟨HQ.out, Reads.of_own ho⟩
          · rw [if_neg h4] at hout
            rw [decide_eq_false h4]
            exact RReadC.no hout (by omega) hb
        have HE := Lib.hid hend
        clear hend hout
        obtain ⟨b, hb4⟩ : ∃ b, decide (xs.length ≤ 4) = b := ⟨_, rfl⟩
        rw [hb4] at cr
        have HB4 := Lib.hid hb4
        clear hb4
        go_wp2_with (first
          | (go_at_call 12; ((with_reducible refine (cr _).mono ?_); rintro e w1 ⟨rfl, rfl⟩))
          | fail)
        try rw [Exit.noGoto_ret]
        go_ret2
        exact HE.out _ _ HB4.out hB OW.out
      · subst h1
        by_cases hm0 : m = 0
        · subst hm0
          have HN := Lib.hid ((read_wds H45.out).trans (by rw [a.out.comma0 (.inl rfl)]))
          go_wp2_with fail
          try rw [Exit.noGoto_ret]
          go_ret2
          exact RReadC.no HN.out (by omega) hB
        · have t3 : ((m : Int) == 0) = false := by simp; omega
          have HA := Lib.hid (a.out.comma hm0 (.inl rfl))
          go_wp2_with (first
            | (at_builtin
               refine wpList_append_any _ rfl (.tmp 30) (.tmp 32) 26 rfl w.heap.size 38 i0 _ 1 8 Tryd.underlying26 hi0 hz0 hz1 hz2 rfl (by omega) _ q (ids xs) rfl
                 (OW.out.alloc _) _ _ 1 1 (ids [(n : Int)]) rfl (lit_ids _ _ [(n : Int)] rfl rfl) (ids_one _) (by simp only [maxLen]; omega) (by omega) (Nat.le_trans hB.size (by simp)) ?_
               intro v8 W8 own8 hg8 hat8
               have hB8 := below_grown_own (hB.alloc hB.size _) (OW.out.alloc _) (Nat.le_refl _) hg8
               obtain ⟨A8, k8, rfl⟩ := own_slice own8
               have P2 := Lib.hid own8
               clear own8 hg8 hat8)
            | fail)
          go_roundw
          case rel => exact ⟨s.size + 1, 0, 0, xs ++ [(n : Int)], [], A8, k8, by omega, by go_num, rfl, rfl, by rw [List.length_append, HQ.out]; rfl, Lib.hid HA.out, by omega, by omega, by rw [List.length_append, HQ.out]; simp; omega, by rw [List.length_append, HQ.out, ids_app]; exact P2.out, hB8⟩
          case measure => simp [intOf]
      · have i1 : (k : Int) < (s.size : Int) := by omega
        have i0' : ((k : Int) == (s.size : Int)) = false := by simp; omega
        have i2 : (k : Int) ≤ (s.size : Int) := by omega
        by_cases hc : s[k] = 44
        · have hb : (((s[k].toNat : Nat) : Int) == 44) = true := by rw [hc]; rfl
          by_cases hm0 : m = 0
          · subst hm0
            have HN := Lib.hid ((read_wds H45.out).trans (by rw [a.out.comma0 (.inr ⟨h1, hc⟩)]))
            clear hc
            go_wp2_with fail
            try rw [Exit.noGoto_ret]
            go_ret2
            exact RReadC.no HN.out (by omega) hB
          · have t3 : ((m : Int) == 0) = false := by simp; omega
            have HA := Lib.hid (a.out.comma hm0 (.inr ⟨h1, hc⟩))
            clear hc
            go_wp2_with (first
            | (at_builtin
               refine wpList_append_any _ rfl (.tmp 30) (.tmp 32) 26 rfl w.heap.size 38 i0 _ 1 8 Tryd.underlying26 hi0 hz0 hz1 hz2 rfl (by omega) _ q (ids xs) rfl
                 (OW.out.alloc _) _ _ 1 1 (ids [(n : Int)]) rfl (lit_ids _ _ [(n : Int)] rfl rfl) (ids_one _) (by simp only [maxLen]; omega) (by omega) (Nat.le_trans hB.size (by simp)) ?_
               intro v8 W8 own8 hg8 hat8
               have hB8 := below_grown_own (hB.alloc hB.size _) (OW.out.alloc _) (Nat.le_refl _) hg8
               obtain ⟨A8, k8, rfl⟩ := own_slice own8
               have P2 := Lib.hid own8
               clear own8 hg8 hat8)
            | fail)
            go_roundw
            case rel => exact ⟨k + 1, 0, 0, xs ++ [(n : Int)], [], A8, k8, by omega, by go_num, rfl, rfl, by rw [List.length_append, HQ.out]; rfl, Lib.hid HA.out, by omega, by omega, by rw [List.length_append, HQ.out]; simp; omega, by rw [List.length_append, HQ.out, ids_app]; exact P2.out, hB8⟩
            case measure => simp [intOf]; omega
        · have hb : (((s[k].toNat : Nat) : Int) == 44) = false := by
            have : s[k].toNat ≠ 44 := fun e => hc (UInt8.toNat_inj.1 (by rw [e]; rfl))
            simp; omega
          have HC := Lib.hid hc
          clear hc
          go_wp2_with fail
          go_hide hQ
          go_loopw [8, 34] (fun d i wr2 => ∃ j : Nat, j ≤ 16 ∧ i = .int .i64 j ∧ d = .int .i64 (dg s[k] j) ∧ Below wr.heap.size wr wr2)
            (fun d i _ => 16 - (intOf i).toNat)
          case atStart => exact ⟨0, Nat.zero_le _, rfl, by rw [dg_zero], Below.refl _ _⟩
          case round =>
            obtain ⟨j, hj, rfl, rfl, hb2⟩ := hrel
            by_cases hlt : j < 16
            · have hd := digs_at j hlt
              have hx := hx_is' j hlt s[k]
              have i3 : (j : Int) < 16 := by omega
              cases ht : (isHex s[k] && decide (dv s[k] = j))
              · rw [ht] at hx
                have hn2 := Lib.hid (dg_miss ht)
                clear ht
                go_wp2_with fail
                go_quiet (fail)
                go_wp2_with fail
                go_roundw
                case rel => exact ⟨j + 1, by omega, by go_num, by rw [hn2.out], by first | exact hb2 | exact below_drewN' hb2 _⟩
                case measure => simp [intOf]; omega
              · rw [ht] at hx
                have hn2 := Lib.hid (dg_hit ht)
                clear ht
                go_wp2_with fail
                go_quiet (fail)
                go_wp2_with fail
                go_roundw
                case rel => exact ⟨j + 1, by omega, by go_num, by rw [hn2.out], by first | exact hb2 | exact below_drewN' hb2 _⟩
                case measure => simp [intOf]; omega
            · have hj16 : j = 16 := by omega
              subst hj16
              have i3 : ¬ ((16 : Nat) : Int) < 16 := by omega
              have hB2 := hB.trans (hb2.mono hB.size)
              have OW2 := Lib.hid (own_below OW.out hb2)
              rcases dg_end s[k] with ⟨hx, hdg⟩ | ⟨hx, hdg⟩
              · rw [hdg]
                have hdv := dv_lt hx
                have t1 : decide (((dv s[k] : Nat) : Int) < 0) = false := decide_eq_false (by omega)
                by_cases h16 : m = 16
                · have HN := Lib.hid ((read_wds H45.out).trans (by rw [a.out.bad h1 HC.out (.inr (.inl h16))]))
                  subst h16
                  clear hx hdg
                  go_wp2_with fail
                  subst hQ
                  go_wp2_with fail
                  try rw [Exit.noGoto_ret]
                  go_ret2
                  exact RReadC.no HN.out (by omega) hB2
                · have t2 : ((m : Int) == 16) = false := by simp; omega
                  by_cases h0 : m = 1 ∧ n = 0
                  · have HN := Lib.hid ((read_wds H45.out).trans (by rw [a.out.bad h1 HC.out (.inr (.inr h0))]))
                    obtain ⟨rfl, rfl⟩ := h0
                    clear hx hdg
                    go_wp2_with fail
                    subst hQ
                    go_wp2_with fail
                    try rw [Exit.noGoto_ret]
                    go_ret2
                    exact RReadC.no HN.out (by omega) hB2
                  · have HA := Lib.hid (a.out.step h1 hx h16 h0)
                    have hfit := a.out.part.fits hx h16
                    have hzz : (((m : Int) == 1) = false) ∨ ((((m : Int) == 1) = true) ∧ (((n : Int) == 0) = false)) := by
                      by_cases hm1 : m = 1
                      · right; exact ⟨by simp; omega, by simp; omega⟩
                      · left; simp; omega
                    clear hx hdg
                    generalize dv s[k] = v at *
                    rcases hzz with hz1' | ⟨hz1', hz2'⟩
                    all_goals
                      go_wp2_with fail
                      subst hQ
                      go_wp2_with fail
                      go_roundw
                      case rel => exact ⟨k + 1, 16 * n + v, m + 1, xs, _, A, c, by omega, by go_num, by go_num, by go_num, by rw [HQ.out], Lib.hid HA.out, by omega, by omega, by rw [HQ.out]; omega, by rw [HQ.out]; exact OW2.out, hB2⟩
                      case measure => simp [intOf]; omega
              · rw [hdg]
                have HN := Lib.hid ((read_wds H45.out).trans (by rw [a.out.bad h1 HC.out (.inl hx)]))
                clear hx hdg
                go_wp2_with fail
                subst hQ
                go_wp2_with fail
                try rw [Exit.noGoto_ret]
                go_ret2
                exact RReadC.no HN.out (by omega) hB2
end Go.Proofs.YtcfpnnkohjochaaDoor
