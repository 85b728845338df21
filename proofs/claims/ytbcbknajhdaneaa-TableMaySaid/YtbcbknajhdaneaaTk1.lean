/- What is proved: contracts that TableMay asks for: which widths are too wide; the document's Of without rows. -/
import Derived.Test.YtbcbknajhdaneaaTi1
namespace Go.Proofs.Ytbcbknajhdaneaa
open Go.RowKit
set_option linter.unusedVariables false
set_option linter.unusedSimpArgs false
theorem may1_any (n : Int) (w : World) : Calls Try.prog 46 #[.int .i64 n] w fun e w' => e = .returned (.bool (!okW n)) ∧ w = w' := by
  by_cases h0 : n < 0
  · have h : okW n = false := by unfold okW; exact decide_eq_false (by omega)
    rw [h]
    go_enter Try.func46, Try.ntmps46
    go_wp2_with fail
    go_ret
    exact ⟨rfl, rfl⟩
  · by_cases h4 : 4 < n
    · have h : okW n = false := by unfold okW; exact decide_eq_false (by omega)
      rw [h]
      go_enter Try.func46, Try.ntmps46
      go_wp2_with fail
      go_ret
      exact ⟨rfl, rfl⟩
    · have h : okW n = true := by unfold okW; exact decide_eq_true (by omega)
      rw [h]
      go_enter Try.func46, Try.ntmps46
      go_wp2_with fail
      go_ret
      exact ⟨rfl, rfl⟩
/-- the place of the first width that may not be; -1: there is none -/
def badI : List Int → Nat → Int
  | [], _ => -1
  | x :: l, k => if okW x then badI l (k + 1) else (k : Int)
theorem badI_all : ∀ (l : List Int) (k : Nat), (0 ≤ badI l k) ↔ l.all okW = false
  | [], k => by unfold badI; simp
  | x :: l, k => by
    unfold badI
    rw [List.all_cons]
    cases h : okW x
    · simp
    · simp only [if_true, Bool.true_and]; exact badI_all l (k + 1)
theorem ixfn_any (A : Option Addr) (n c : Nat) (l : List Int) (w : World) (hR : Reads w w.heap.size 1 A n (ins l)) (hn : n ≤ 65536) :
    Calls Try.prog 96 #[.slice A n c, .func (.func 46) #[] #[]] w fun e w' => e = .returned (.int .i64 (badI l 0)) ∧ w = w' := by
  have hl : l.length = n := by have := hR.1; rw [ins_len] at this; omega
  go_enter Try.func96, Try.ntmps96
  go_wp2_with fail
  go_loopw [8] (fun i wr => ∃ k : Nat, k ≤ n ∧ i = .int .i64 k ∧ badI l 0 = badI (l.drop k) k ∧ w = wr) (fun i _ => n - (intOf i).toNat)
  case atStart => exact ⟨0, Nat.zero_le _, rfl, rfl, rfl⟩
  case round =>
    obtain ⟨k, hk, rfl, hq, rfl⟩ := hrel
    by_cases hlt : k < n
    · have e1 := List.getElem?_eq_getElem (l := l) (i := k) (by omega)
      generalize l[k]'(by omega) = x at e1
      rw [drop_cons e1] at hq
      obtain ⟨b, off, rfl, hbl, g⟩ := ins_cell hR e1
      have i1 : (k : Int) < (n : Int) := by omega
      have cm := fun w => may1_any x w
      have hq2 : badI l 0 = if okW x then badI (l.drop (k + 1)) (k + 1) else (k : Int) := hq
      cases hx : okW x
      · rw [hx] at hq2 cm
        have HQ := Lib.hid hq2
        clear hq hq2 e1 hR hx
        go_wp2_with (first | ((with_reducible refine (cm _).mono ?_); rintro e w2 ⟨rfl, rfl⟩) | fail)
        try rw [Exit.noGoto_ret]
        go_ret
        exact ⟨by rw [HQ.out]; rfl, rfl⟩
      · rw [hx] at hq2 cm
        have HQ := Lib.hid hq2
        clear hq hq2 e1 hR hx
        go_wp2_with (first | ((with_reducible refine (cm _).mono ?_); rintro e w2 ⟨rfl, rfl⟩) | fail)
        go_roundw
        case rel => exact ⟨k + 1, by omega, by go_num, HQ.out, by trivial⟩
        case measure => simp [intOf]; omega
    · rw [List.drop_of_length_le (by omega)] at hq
      have HQ := Lib.hid hq
      clear hq hR
      go_wp2_with fail
      try rw [Exit.noGoto_ret]
      go_ret
      exact ⟨by rw [HQ.out]; rfl, rfl⟩
theorem cfn_any (A : Option Addr) (n c : Nat) (l : List Int) (w : World) (hR : Reads w w.heap.size 1 A n (ins l)) (hn : n ≤ 65536) :
    Calls Try.prog 45 #[.slice A n c, .func (.func 46) #[] #[]] w fun e w' => e = .returned (.bool (!l.all okW)) ∧ w = w' := by
  have ci := ixfn_any A n c l w hR hn
  have hb := badI_all l 0
  generalize badI l 0 = x at *
  cases ha : l.all okW
  · have h0 : 0 ≤ x := hb.2 ha
    clear hb ha hR
    go_enter Try.func45, Try.ntmps45
    go_wp2_with (first | (go_at_call 96; ((with_reducible refine ci.mono ?_); rintro e w2 ⟨rfl, rfl⟩)) | fail)
    go_ret
    exact ⟨rfl, rfl⟩
  · have h0 : ¬ 0 ≤ x := fun h => by rw [hb.1 h] at ha; cases ha
    clear hb ha hR
    go_enter Try.func45, Try.ntmps45
    go_wp2_with (first | (go_at_call 96; ((with_reducible refine ci.mono ?_); rintro e w2 ⟨rfl, rfl⟩)) | fail)
    go_ret
    refine ⟨?_, rfl⟩
    show Ending.returned (.bool (decide (0 ≤ x))) = _
    rw [decide_eq_false (by omega)]
    rfl
theorem ofL_nil : ∀ (ws : List Int) (b : Nat), ofL [] 0 b ws = ws.map newC
  | [], _ => rfl
  | n :: ws, b => by
    show (n, (0 : Int), colOf [] b) :: ofL [] 0 (b + 1) ws = newC n :: ws.map newC
    rw [ofL_nil ws (b + 1)]
    rfl
/-- the document's Of without rows -/
theorem of_none (TA : Option Addr) (Tn Tc : Nat) (NA : Option Addr) (nn nc : Nat) (ws : List Int) (w : World) (hN : Reads w w.heap.size 1 NA nn (ins ws)) (hnn : nn ≤ 65536) :
    Calls Try.prog 47 #[.slice TA Tn Tc, .slice NA nn nc, .slice none 0 0, .slice none 0 0] w (OfR (ws.map newC) (.slice TA Tn Tc) (.slice none 0 0) w) := by
  have h := of_any TA Tn Tc NA nn nc ws none 0 0 none 0 0 [] w hN Reads.none_ (by simp) (by simp) (fun k => by unfold vls colOf; simp) hnn (by omega) (by omega)
  rw [show vls [] = [] from rfl, show ((0 : Nat) : Int) = 0 from rfl, ofL_nil] at h
  exact h
end Go.Proofs.Ytbcbknajhdaneaa
