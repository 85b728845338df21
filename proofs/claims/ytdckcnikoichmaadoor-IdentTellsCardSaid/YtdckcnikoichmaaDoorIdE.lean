/- What is proved: contracts of digits, number and one of package ident. -/
import Derived.Test.YtdckcnikoichmaaDoorIdD
import Derived.Test.YtdckcnikoichmaaDoorShelf
import Derived.Laws.RangeString
import Derived.Lib.Hide
import Derived.Lib.AppendIntMem
namespace Go.Proofs.YtdckcnikoichmaaDoor
open Go.RowKit
set_option linter.unusedVariables false
set_option linter.unusedSimpArgs false
/-- what the library's variables hold, as the contracts want it -/
def Env (w : World) : Prop := 200 ≤ w.heap.size + 200 ∧ (∃ m, 0 < w.heap.size ∧ w.cell? ⟨0, 0, none⟩ = some (.int .i64 m)) ∧ (∃ ev, 2 < w.heap.size ∧ w.cell? ⟨2, 0, none⟩ = some ev ∧ (ev = .nilIface ∨ ∃ te pe, ev = .iface te pe)) ∧
  (∃ ev, 3 < w.heap.size ∧ w.cell? ⟨3, 0, none⟩ = some ev ∧ (ev = .nilIface ∨ ∃ te pe, ev = .iface te pe)) ∧ Lib.TabIs Tryd.prog w "internal/strconv.uint64pow10" .u64 Lib.pow10Tab ∧ (∀ g, Tryd.prog.globalNamed "internal/strconv.uint64pow10" = some g → g < w.heap.size)
theorem Env.below {w w' : World} (h : Env w) (hb : Below w.heap.size w w') : Env w' := by
  obtain ⟨_, ⟨m, a0, a1⟩, ⟨ev, b0, b1, b2⟩, ⟨ev2, c0, c1, c2⟩, ht, hg⟩ := h
  have hs := hb.size
  refine ⟨by omega, ⟨m, by omega, (hb.cell (p := ⟨0, 0, none⟩) a0).trans a1⟩, ⟨ev, by omega, (hb.cell (p := ⟨2, 0, none⟩) b0).trans b1, b2⟩, ⟨ev2, by omega, (hb.cell (p := ⟨3, 0, none⟩) c0).trans c1, c2⟩, ?_, fun g h => by have := hg g h; omega⟩
  unfold Lib.TabIs at ht ⊢
  have hv := ht
  unfold World.var? at hv
  cases e : Tryd.prog.globalNamed "internal/strconv.uint64pow10" with
  | none => rw [e] at hv; cases hv
  | some g => exact var?_below hb e (hg g e) ht
def isDig (b : UInt8) : Bool := decide (48 ≤ b.toNat ∧ b.toNat ≤ 57)
def dlen (l : List UInt8) : Nat := (l.takeWhile isDig).length
theorem dlen_step (s : ByteArray) (k : Nat) (h : k < s.size) (hd : isDig s[k] = true) (hk : dlen (s.data.toList.drop k) + k = dlen s.data.toList) : dlen (s.data.toList.drop (k + 1)) + (k + 1) = dlen s.data.toList := by
  have e : s.data.toList.drop k = s[k] :: s.data.toList.drop (k + 1) := by
    rw [← List.getElem_cons_drop (by simpa using h)]; rfl
  rw [e] at hk
  unfold dlen at hk ⊢
  rw [List.takeWhile_cons, if_pos hd, List.length_cons] at hk
  omega
theorem dlen_stop (s : ByteArray) (k : Nat) (h : k < s.size) (hd : isDig s[k] = false) (hk : dlen (s.data.toList.drop k) + k = dlen s.data.toList) : k = dlen s.data.toList := by
  have e : s.data.toList.drop k = s[k] :: s.data.toList.drop (k + 1) := by
    rw [← List.getElem_cons_drop (by simpa using h)]; rfl
  rw [e] at hk
  unfold dlen at hk ⊢
  rw [List.takeWhile_cons, hd] at hk
  simp at hk
  omega
theorem dlen_end (s : ByteArray) (k : Nat) (h : ¬ k < s.size) (hk : dlen (s.data.toList.drop k) + k = dlen s.data.toList) : k = dlen s.data.toList := by
  rw [List.drop_of_length_le (by simp; omega)] at hk
  simpa [dlen] using hk
set_option maxHeartbeats 1000000 in
theorem digits_any (s : ByteArray) (w : World) (hs : s.size ≤ 140737488351232) :
    Calls Tryd.prog 47 #[.string s] w fun e w' => e = .returned (.int .i64 (dlen s.data.toList)) ∧ Below w.heap.size w w' := by
  go_enter Tryd.func47, Tryd.ntmps47
  go_wp2
  go_step3
  go_wp2
  go_step3
  go_wp2
  go_loopw [3] (fun n wr => ∃ k : Nat, wr = w.iter s k ∧ n = .int .i64 k ∧ k ≤ s.size ∧ dlen (s.data.toList.drop k) + k = dlen s.data.toList) (fun _ wr => s.size - wr.iterPos w.heap.size)
  case atStart => exact ⟨0, rfl, rfl, Nat.zero_le _, by simp⟩
  case round =>
    obtain ⟨k, rfl, rfl, hk, hd⟩ := hrel
    have HD := Lib.hid hd
    clear hd
    by_cases hp : k < s.size
    · have hnx : ∀ ty, (Instr.next (.pointer (some ⟨w.heap.size, 0, none⟩)) true ty).run Tryd.prog (w.iter s k) = _ := fun ty => run_next_any w s k ty hp
      by_cases ha : (s[k]'hp).toNat < 128
      · rw [decode_ascii s k hp ha] at hnx
        dsimp only at hnx
        cases hdg : isDig s[k] with
        | true =>
          have hb := hdg
          unfold isDig at hb
          rw [decide_eq_true_iff] at hb
          obtain ⟨hb1, hb2⟩ := hb
          have HS := Lib.hid (dlen_step s k hp hdg HD.out)
          clear hdg
          go_wp2_with fail
          go_roundw
          case rel => exact ⟨k + 1, rfl, by go_num, by omega, HS.out⟩
          case measure => simp; omega
        | false =>
          have hb := hdg
          unfold isDig at hb
          rw [decide_eq_false_iff_not] at hb
          have HS := Lib.hid (dlen_stop s k hp hdg HD.out)
          clear hdg
          rcases (show (s[k]'hp).toNat < 48 ∨ (48 ≤ (s[k]'hp).toNat ∧ 57 < (s[k]'hp).toNat) from by omega) with h1 | ⟨h1, h2⟩
          all_goals
            clear hb
            go_wp2_with fail
            try rw [Exit.noGoto_ret]
            go_ret
            exact ⟨ret_int (by rw [← HS.out]), (Below.refl _ _).alloc (Nat.le_refl _) _⟩
      · have hh := decode_high s k hp (by omega)
        generalize Utf8.decode s k = dc at hnx hh
        obtain ⟨r, wd⟩ := dc
        dsimp only at hnx hh
        obtain ⟨hh1, hh2⟩ := hh
        have hdg : isDig s[k] = false := by unfold isDig; rw [decide_eq_false_iff_not]; omega
        have HS := Lib.hid (dlen_stop s k hp hdg HD.out)
        clear hdg ha
        go_wp2_with fail
        try rw [Exit.noGoto_ret]
        go_ret
        exact ⟨ret_int (by rw [← HS.out]), (Below.refl _ _).alloc (Nat.le_refl _) _⟩
    · have hnx : ∀ ty, (Instr.next (.pointer (some ⟨w.heap.size, 0, none⟩)) true ty).run Tryd.prog (w.iter s k) = _ := fun ty => run_next_end w s k ty hp
      have HS := Lib.hid (dlen_end s k hp HD.out)
      go_wp2_with fail
      try rw [Exit.noGoto_ret]
      go_ret
      exact ⟨ret_int (by rw [← HS.out]), (Below.refl _ _).alloc (Nat.le_refl _) _⟩
theorem all_dig (l : List UInt8) : l.all isDig = decide (dlen l = l.length) := by
  unfold dlen
  induction l with
  | nil => rfl
  | cons b l ih =>
    rw [List.takeWhile_cons, List.all_cons]
    cases h : isDig b with
    | true => rw [ih]; simp
    | false => simp
/-- the number of a text; none: it is none -/
def numP (l : List UInt8) : Option Int :=
  if l = [42] then some 0 else if l.all isDig = true then (match Lib.atoiAll l with | .ok v => some v | _ => none) else none
def NumR (l : List UInt8) (w : World) (e : Ending) (w' : World) : Prop :=
  ∃ v, e = .returned (.tuple #[.int .i64 v, .bool (numP l).isSome]) ∧ (∀ x, numP l = some x → x = v) ∧ I64 v ∧ Below w.heap.size w w'
theorem numR_ok {l : List UInt8} {v : Int} (h : l.all isDig = true) (h2 : l ≠ [42]) (h3 : Lib.atoiAll l = .ok v) : numP l = some v := by
  unfold numP; rw [if_neg h2, if_pos h, h3]
theorem numR_no {l : List UInt8} (h : l.all isDig = false ∨ ∀ v, Lib.atoiAll l ≠ .ok v) (h2 : l ≠ [42]) : numP l = none := by
  unfold numP; rw [if_neg h2]
  rcases h with h | h
  · rw [if_neg (by simp [h])]
  · split
    · cases e : Lib.atoiAll l with
      | ok v => exact absurd e (h v)
      | range => rfl
      | _ => rfl
    · rfl
theorem toList_eq (s : ByteArray) : s.toList = s.data.toList := ByteArray.toList_eq s
theorem run_eql_iface_nil' {P : Program} (w : World) {t : TypeId} {ms : Array (String × TypeId)} (te : TypeId) (p : Value) (ht : P.underlying t = some (.interface ms)) : (binOp .eql t (.iface te p) .nilIface).run P w = .ok (.bool false) w := by
  have h : ∀ d : Nat, (Op.equalIn (d + 1) t (.iface te p) .nilIface).run P w = .ok false w := fun d => by
    simp [Op.equalIn, run_underlying ht]
  simp only [binOp]
  simp [Op.equal, Op.maxDepth, h 9999]
theorem run_eql_nil_nil' {P : Program} (w : World) {t : TypeId} {ms : Array (String × TypeId)} (ht : P.underlying t = some (.interface ms)) : (binOp .eql t .nilIface .nilIface).run P w = .ok (.bool true) w := by
  have h : ∀ d : Nat, (Op.equalIn (d + 1) t .nilIface .nilIface).run P w = .ok true w := fun d => by
    simp [Op.equalIn, run_underlying ht]
  simp only [binOp]
  simp [Op.equal, Op.maxDepth, h 9999]
set_option maxHeartbeats 2000000 in
theorem number_any (s : ByteArray) (w : World) (hs : s.size ≤ 65536) (hE : Env w) :
    Calls Tryd.prog 37 #[.string s] w (NumR s.data.toList w) := by
  have heq : ∀ (p : Value) (t : TypeId) (w : World), (binOp .eql 66 (.iface t p) .nilIface).run Tryd.prog w = .ok (.bool false) w := fun p t w => run_eql_iface_nil' w t p Tryd.underlying66
  have heq0 : ∀ (w : World), (binOp .eql 66 .nilIface .nilIface).run Tryd.prog w = .ok (.bool true) w := fun w => run_eql_nil_nil' w Tryd.underlying66
  by_cases h42 : s.data.toList = [42]
  · have hb : (s.toList == [42]) = true := by rw [toList_eq]; exact beq_iff_eq.2 h42
    have hN : numP s.data.toList = some 0 := by rw [h42]; rfl
    go_enter Tryd.func37, Tryd.ntmps37
    go_wp2_with fail
    go_ret2
    exact ⟨0, by rw [hN]; rfl, fun x hx => by rw [hN] at hx; injection hx with hx; exact hx.symm, by unfold I64; omega, Below.refl _ _⟩
  · have hb : (s.toList == [42]) = false := by rw [toList_eq]; exact beq_eq_false_iff_ne.2 h42
    have hal := all_dig s.data.toList
    have hsz : s.data.toList.length = s.size := by simp
    cases hA : Lib.atoiAll s.data.toList with
    | ok v =>
      have hv := Lib.atoiAll_bounds hA
      have HA := Lib.hid hA
      clear hA
      have hN : numP s.data.toList = if dlen s.data.toList = s.data.toList.length then some v else none := by
        unfold numP; rw [if_neg h42, hal, HA.out]; simp
      rw [hsz] at hN
      have HN := Lib.hid hN
      clear hN hal hsz h42
      go_enter Tryd.func37, Tryd.ntmps37
      go_wp2_with fail
      refine (Tryd.strconv_Atoi_ok s (by omega) v HA.out _).mono ?_
      rintro e w1 ⟨rfl, hw1⟩
      have hb1 : Below w.heap.size w w1 := by
        rcases hw1 with rfl | ⟨t, rfl⟩
        · exact Below.refl _ _
        · exact Lib.bytesWorld_below _ _ _
      clear hw1
      go_wp2_with (first | (go_at_call 47; refine (digits_any s _ (by omega)).mono ?_; rintro e w2 ⟨rfl, hb2⟩))
      go_ret2
      refine ⟨v, ?_, fun x hx => ?_, hv, hbe_tr hb1 hb2⟩
      · rw [HN.out]
        by_cases hd : dlen s.data.toList = s.size
        · rw [if_pos hd]; simp [hd]
        · have hd2 : ((dlen s.data.toList : Nat) : Int) ≠ (s.size : Int) := by omega
          rw [if_neg hd]; simp; omega
      · rw [HN.out] at hx
        split at hx
        · injection hx with hx; exact hx.symm
        · cases hx
    | range =>
      have hN : numP s.data.toList = none := numR_no (.inr fun v => by rw [hA]; intro h; cases h) h42
      have HA := Lib.hid hA
      have HN := Lib.hid hN
      have hbd := Lib.atoiSat_bounds s.data.toList
      obtain ⟨_, _, _, ⟨ev, e1, e2, e3⟩, _⟩ := hE
      clear hA hN hal hsz h42
      go_enter Tryd.func37, Tryd.ntmps37
      go_wp2_with fail
      refine (Tryd.strconv_Atoi_range s (by omega) HA.out ev _ e2 e3).mono ?_
      rintro e w1 ⟨N, rfl, hN1, hN2, hb1⟩
      clear hN2 e2 e3
      go_wp2_with fail
      go_ret2
      exact ⟨_, by rw [HN.out]; rfl, fun x hx => (by rw [HN.out] at hx; cases hx), hbd, hb1⟩
    | _ =>
      have hN : numP s.data.toList = none := numR_no (.inr fun v => by rw [hA]; intro h; cases h) h42
      have HA := Lib.hid hA
      have HN := Lib.hid hN
      obtain ⟨_, _, ⟨ev, e1, e2, e3⟩, _⟩ := hE
      clear hA hN hal hsz h42
      go_enter Tryd.func37, Tryd.ntmps37
      go_wp2_with fail
      refine (Tryd.strconv_Atoi_syntax s (by omega) HA.out ev _ e2 e3).mono ?_
      rintro e w1 ⟨N, rfl, hN1, hN2, hb1⟩
      clear hN2 e2 e3
      go_wp2_with fail
      go_ret2
      exact ⟨0, by rw [HN.out]; rfl, fun x hx => (by rw [HN.out] at hx; cases hx), by unfold I64; omega, hb1⟩
/-- the digits of a part -/
def dec (n : Int) : List UInt8 := Lib.itoa n
def BV (l : List UInt8) : Value := .string ⟨l.toArray⟩
theorem itoa_any (n : Int) (hn : I64 n) (w : World) (hE : Env w) :
    Calls Tryd.prog 28 #[.int .i64 n] w fun e w' => e = .returned (.string ⟨(Lib.itoa n).toArray⟩) ∧ Below w.heap.size w w' := by
  refine (Tryd.strconv_Itoa n hn.1 hn.2 w hE.2.2.2.2.1).mono ?_
  rintro e w' ⟨rfl, k, os, rfl⟩
  exact ⟨rfl, Lib.below_grow _ _ (Nat.le_refl _) _ _⟩
end Go.Proofs.YtdckcnikoichmaaDoor
