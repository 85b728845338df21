/- What is proved: the contract of word. -/
import Derived.Test.YtcfpnnkohjochaaDoorVaJ
namespace Go.Proofs.YtcfpnnkohjochaaDoor
open Go.RowKit
set_option linter.unusedVariables false
set_option linter.unusedSimpArgs false
/-- is a text of digits a word's? -/
def noZero (l : List UInt8) : Bool := decide (l = [48]) || decide (l.head? ≠ some 48)
/-- the word of a text -/
def wordP (l : List UInt8) : Option Int := if l.all isHex then (match puR l with | some n => if noZero l then some (n : Int) else none | none => none) else none
def WordC (l : List UInt8) (w : World) (e : Ending) (w' : World) : Prop := ∃ v, e = .returned (.tuple #[.int .u64 v, .bool (wordP l).isSome]) ∧ (∀ x, wordP l = some x → x = v) ∧ Word v ∧ Below w.heap.size w w'
theorem pu16_lt : ∀ (l : List UInt8) (acc n : Nat), acc < 18446744073709551616 → l.all isHex = true → pu16 acc l = some n → n < 18446744073709551616
  | [], acc, n, h, _, e => by
    have : some acc = some n := e
    injection this with this
    omega
  | c :: l, acc, n, h, ha, e => by
    simp only [List.all_cons, Bool.and_eq_true] at ha
    have e2 : (if 1152921504606846976 ≤ acc then none else pu16 (acc * 16 + dv c) l) = some n := e
    split at e2
    · cases e2
    · exact pu16_lt l _ n (by have := dv_lt ha.1; omega) ha.2 e2
theorem noZero_eq (s : ByteArray) (hs0 : 0 < s.size) : noZero s.data.toList = ((s.toList == [48]) || ((s[0]'hs0).toNat != 48)) := by
  have hh : s.data.toList.head? = some (s[0]'hs0) := by
    have : 0 < s.data.toList.length := by simpa using hs0
    rw [List.head?_eq_getElem?, List.getElem?_eq_getElem this]; rfl
  have e1 : (s.toList == [48]) = decide (s.data.toList = [48]) := by
    rw [toList_eq]
    by_cases h : s.data.toList = [48]
    · rw [h]; rfl
    · rw [decide_eq_false h, beq_eq_false_iff_ne]; exact h
  have e2 : ((s[0]'hs0).toNat != 48) = decide (s.data.toList.head? ≠ some 48) := by
    rw [hh]
    by_cases e : (s[0]'hs0) = 48
    · rw [e]; rfl
    · have h1 : (s[0]'hs0).toNat ≠ 48 := fun h => e (UInt8.toNat_inj.1 h)
      rw [bne_iff_ne.2 h1]
      symm
      rw [decide_eq_true_iff]
      exact fun h => e (Option.some.inj h)
  unfold noZero
  rw [e1, e2]
theorem wordP_ways (l : List UInt8) (ha : l.all isHex = true) : (puR l = none ∧ wordP l = none) ∨ (∃ n, puR l = some n ∧ (noZero l = false ∧ wordP l = none ∨ noZero l = true ∧ wordP l = some (n : Int)) ∧ Word (n : Int) ∧ l ≠ []) := by
  unfold wordP
  rw [if_pos ha]
  cases hp : puR l with
  | none => left; exact ⟨rfl, rfl⟩
  | some n =>
    right
    have hne : l ≠ [] := fun e => by subst e; cases hp
    have hq : pu16 0 l = some n := by unfold puR at hp; rwa [if_neg hne] at hp
    have hn := pu16_lt l 0 n (by omega) ha hq
    refine ⟨n, rfl, ?_, by unfold Word; omega, hne⟩
    cases hz : noZero l
    · left; exact ⟨rfl, by simp⟩
    · right; exact ⟨rfl, by simp⟩
theorem wordP_word {l : List UInt8} {x : Int} (h : wordP l = some x) : Word x := by
  cases ha : l.all isHex
  · unfold wordP at h; rw [ha] at h; cases h
  · rcases wordP_ways l ha with ⟨_, k⟩ | ⟨n, _, ⟨_, k⟩ | ⟨_, k⟩, hw, _⟩
    · rw [k] at h; cases h
    · rw [k] at h; cases h
    · rw [k] at h; injection h with h; subst h; exact hw
theorem WordC.no {l : List UInt8} {w w' : World} {v : Int} (h : wordP l = none) (hv : Word v) (hb : Below w.heap.size w w') : WordC l w (.returned (.tuple #[.int .u64 v, .bool false])) w' :=
  ⟨v, by rw [h]; rfl, (fun x hx => by rw [h] at hx; cases hx), hv, hb⟩
theorem WordC.yes {l : List UInt8} {w w' : World} {v : Int} (h : wordP l = some v) (hv : Word v) (hb : Below w.heap.size w w') : WordC l w (.returned (.tuple #[.int .u64 v, .bool true])) w' :=
  ⟨v, by rw [h]; rfl, (fun x hx => by rw [h] at hx; injection hx with hx; exact hx.symm), hv, hb⟩
set_option maxRecDepth 100000 in
set_option maxHeartbeats 4000000 in
theorem word_any (s : ByteArray) (w : World) (hs : s.size ≤ 140737488351232) (hE : Env w) :
    Calls Tryd.prog 47 #[.string s] w (WordC s.data.toList w) := by
  have heq : ∀ (t : TypeId) (p : Value) (w : World), (binOp .eql 76 (.iface t p) .nilIface).run Tryd.prog w = .ok (.bool false) w := fun t p w => run_eql_iface_nil' w t p Tryd.underlying76
  have heq0 : ∀ (w : World), (binOp .eql 76 .nilIface .nilIface).run Tryd.prog w = .ok (.bool true) w := fun w => run_eql_nil_nil' w Tryd.underlying76
  have hlen : s.data.toList.length = s.size := by simp
  have hEn := Lib.hid hE
  clear hE
  go_enter Tryd.func47, Tryd.ntmps47
  go_wp2
  go_loopw [] (fun wr => ∃ k : Nat, wr = w.iter s k ∧ k ≤ s.size ∧ (s.data.toList.take k).all isHex = true) (fun wr => s.size - wr.iterPos w.heap.size)
  case atStart => exact ⟨0, rfl, Nat.zero_le _, by simp⟩
  case round =>
    obtain ⟨k, rfl, hk, hd⟩ := hrel
    have HD := Lib.hid hd
    clear hd
    by_cases hp : k < s.size
    · have hnx : ∀ ty, (Instr.next (.pointer (some ⟨w.heap.size, 0, none⟩)) true ty).run Tryd.prog (w.iter s k) = _ := fun ty => run_next_any w s k ty hp
      have hkl : s.data.toList[k]? = some (s[k]'hp) := by rw [List.getElem?_eq_getElem (by omega)]; rfl
      have hno := fun (h : isHex (s[k]'hp) = false) (w' : World) (hb : Below w.heap.size w w') => (show WordC s.data.toList w (.returned (.tuple #[.int .u64 0, .bool false])) w' from by
        have hwp : wordP s.data.toList = none := by
          unfold wordP
          rw [if_neg (by rw [Bool.not_eq_true, List.all_eq_false]; exact ⟨_, List.mem_of_getElem? hkl, by rw [h]; simp⟩)]
        exact WordC.no hwp (by unfold Word; omega) hb)
      have hbi : Below w.heap.size w (w.iter s k) := (Below.refl _ _).alloc (Nat.le_refl _) _
      by_cases ha : (s[k]'hp).toNat < 128
      · rw [decode_ascii s k hp ha] at hnx
        dsimp only at hnx
        cases hdg : isHex s[k] with
        | true =>
          have hb := hdg
          unfold isHex at hb
          simp only [Bool.or_eq_true, decide_eq_true_eq] at hb
          have HS := Lib.hid (show (s.data.toList.take (k + 1)).all isHex = true from by rw [take_snoc hkl, List.all_append, HD.out]; simp [hdg])
          clear hdg hno hkl
          rcases hb with ⟨h1, h2⟩ | ⟨h1, h2⟩
          all_goals
            go_wp2_with fail
            go_roundw
            case rel => exact ⟨k + 1, rfl, by omega, HS.out⟩
            case measure => simp; omega
        | false =>
          have hb := hdg
          unfold isHex at hb
          simp only [Bool.or_eq_false_iff, decide_eq_false_iff_not] at hb
          have HS := Lib.hid (hno hdg)
          clear hdg hno hkl
          rcases (show (s[k]'hp).toNat < 48 ∨ (48 ≤ (s[k]'hp).toNat ∧ 57 < (s[k]'hp).toNat ∧ (s[k]'hp).toNat < 97) ∨ (48 ≤ (s[k]'hp).toNat ∧ 57 < (s[k]'hp).toNat ∧ 97 ≤ (s[k]'hp).toNat ∧ 102 < (s[k]'hp).toNat) from by omega) with h1 | ⟨h1, h2, h3⟩ | ⟨h1, h2, h3, h4⟩
          · have h5 : (s[k]'hp).toNat < 97 := by omega
            clear hb
            go_wp2_with fail
            try rw [Exit.noGoto_ret]
            go_ret2
            exact HS.out _ ((Below.refl _ _).alloc (Nat.le_refl _) _)
          · clear hb
            go_wp2_with fail
            try rw [Exit.noGoto_ret]
            go_ret2
            exact HS.out _ ((Below.refl _ _).alloc (Nat.le_refl _) _)
          · clear hb
            go_wp2_with fail
            try rw [Exit.noGoto_ret]
            go_ret2
            exact HS.out _ ((Below.refl _ _).alloc (Nat.le_refl _) _)
      · have hh := decode_high s k hp (by omega)
        generalize Utf8.decode s k = dc at hnx hh
        obtain ⟨r, wd⟩ := dc
        dsimp only at hnx hh
        obtain ⟨hh1, hh2⟩ := hh
        have hdg : isHex s[k] = false := by
          unfold isHex
          simp only [Bool.or_eq_false_iff, decide_eq_false_iff_not]
          omega
        have HS := Lib.hid (hno hdg)
        have hr1 : 48 ≤ r := by omega
        have hr2 : 57 < r := by omega
        have hr3 : 97 ≤ r := by omega
        have hr4 : 102 < r := by omega
        clear hdg ha hno hkl
        go_wp2_with fail
        try rw [Exit.noGoto_ret]
        go_ret2
        exact HS.out _ ((Below.refl _ _).alloc (Nat.le_refl _) _)
    · have hnx : ∀ ty, (Instr.next (.pointer (some ⟨w.heap.size, 0, none⟩)) true ty).run Tryd.prog (w.iter s k) = _ := fun ty => run_next_end w s k ty hp
      have hall : s.data.toList.all isHex = true := by
        have := HD.out
        rwa [List.take_of_length_le (by omega)] at this
      have hbi : Below w.heap.size w (w.iter s k) := (Below.refl _ _).alloc (Nat.le_refl _) _
      have cp := parse_any s (by omega) hall (w.iter s k) (hEn.out.below hbi)
      rcases wordP_ways s.data.toList hall with ⟨k1, k2⟩ | ⟨n, k1, k2, k3, k4⟩
      · rw [k1] at cp
        unfold PuC at cp
        have HK := Lib.hid k2
        clear k1 k2 hall HD hp hlen hk hEn
        go_wp2_with (first
          | (go_at_call 54; ((with_reducible refine cp.mono ?_); rintro e w1 ⟨x, te, p, ⟨rfl, hx⟩, hb1⟩))
          | fail)
        go_quiet (fail)
        go_wp2_with fail
        try rw [Exit.noGoto_ret]
        go_ret2
        exact WordC.no HK.out hx (below_drewN' (hbi.trans (hb1.mono hbi.size)) _)
      · rw [k1] at cp
        unfold PuC at cp
        have hs0 : 0 < s.size := by
          rcases Nat.eq_zero_or_pos s.size with h | h
          · exact absurd (List.eq_nil_of_length_eq_zero (hlen.trans h)) k4
          · exact h
        have hz := noZero_eq s hs0
        rw [hz] at k2
        have K2 := Lib.hid k2
        have i0 : (0 : Int) < (s.size : Int) := by omega
        clear k1 k2 hall HD hp hlen hk hEn k4 hz
        cases hq : (s.toList == [48])
        · cases hq2 : ((s[0]'hs0).toNat != 48)
          · have hq3 : (((s[0]'hs0).toNat : Int) != 48) = false := by simp at hq2 ⊢; omega
            have HK := Lib.hid (show wordP s.data.toList = none from by
              have := K2.out; rw [hq, hq2] at this; rcases this with ⟨_, h⟩ | ⟨h, _⟩
              · exact h
              · cases h)
            clear K2
            go_wp2_with (first
              | (go_at_call 54; ((with_reducible refine cp.mono ?_); rintro e w1 ⟨rfl, hb1⟩))
              | fail)
            go_quiet (fail)
            go_wp2_with fail
            try rw [Exit.noGoto_ret]
            go_ret2
            exact WordC.no HK.out k3 (below_drewN' (hbi.trans (hb1.mono hbi.size)) _)
          · have hq3 : (((s[0]'hs0).toNat : Int) != 48) = true := by simp at hq2 ⊢; omega
            have HK := Lib.hid (show wordP s.data.toList = some (n : Int) from by
              have := K2.out; rw [hq, hq2] at this; rcases this with ⟨h, _⟩ | ⟨_, h⟩
              · cases h
              · exact h)
            clear K2
            go_wp2_with (first
              | (go_at_call 54; ((with_reducible refine cp.mono ?_); rintro e w1 ⟨rfl, hb1⟩))
              | fail)
            go_quiet (fail)
            go_wp2_with fail
            try rw [Exit.noGoto_ret]
            go_ret2
            exact WordC.yes HK.out k3 (below_drewN' (hbi.trans (hb1.mono hbi.size)) _)
        · have HK := Lib.hid (show wordP s.data.toList = some (n : Int) from by
            have := K2.out; rw [hq] at this; rcases this with ⟨h, _⟩ | ⟨_, h⟩
            · cases h
            · exact h)
          clear K2
          go_wp2_with (first
            | (go_at_call 54; ((with_reducible refine cp.mono ?_); rintro e w1 ⟨rfl, hb1⟩))
            | fail)
          go_quiet (fail)
          go_wp2_with fail
          try rw [Exit.noGoto_ret]
          go_ret2
          exact WordC.yes HK.out k3 (below_drewN' (hbi.trans (hb1.mono hbi.size)) _)
end Go.Proofs.YtcfpnnkohjochaaDoor
