/- What is proved: contracts of the functions of package real that go through rows. -/
import Derived.Test.YtkhkjenmajenjaaWalkA
import Derived.Test.YtkhkjenmajenjaaWords
import Derived.Lib.Hide
namespace Go.Proofs.Ytkhkjenmajenjaa
open Go.RowKit
set_option linter.unusedVariables false
def u64s (l : List Int) : List Value := l.map (Value.int .u64)
def Words (l : List Int) : Prop := ∀ x ∈ l, Word x
def estep (st : Int × Int × Bool) (w : Int) : Int × Int × Bool :=
  if cls w = 4 then st else (if (!st.2.2 || tst 1 w st.1) = true then w else st.1, if (!st.2.2 || tst 2 w st.2.1) = true then w else st.2.1, true)
def efold (l : List Int) : Int × Int × Bool := l.foldl estep (0, 0, false)
theorem efold_take (l : List Int) (k : Nat) (x : Int) (h : l[k]? = some x) : efold (l.take (k + 1)) = estep (efold (l.take k)) x := by
  have hk : k < l.length := by
    rcases Nat.lt_or_ge k l.length with h1 | h1
    · exact h1
    · rw [List.getElem?_eq_none h1] at h; cases h
  rw [List.getElem?_eq_getElem hk] at h
  injection h with h
  unfold efold
  rw [List.take_succ_eq_append_getElem hk, List.foldl_append, h]
  rfl
theorem u64s_get {l : List Int} {k : Nat} {u : Value} (h : (u64s l)[k]? = some u) : ∃ x, l[k]? = some x ∧ u = .int .u64 x := by
  unfold u64s at h
  rw [List.getElem?_map] at h
  cases e : l[k]? with
  | none => rw [e] at h; cases h
  | some x => rw [e] at h; simp at h; exact ⟨x, rfl, h.symm⟩
theorem words_get {l : List Int} {k : Nat} {x : Int} (hw : Words l) (h : l[k]? = some x) : Word x := hw x (List.mem_of_getElem? h)
set_option maxHeartbeats 1000000 in
theorem ends_any (A : Option Addr) (n c : Nat) (l : List Int) (w : World) (hR : Reads w w.heap.size 1 A n (u64s l)) (hn : n ≤ 281474976710656) (hw : Words l) :
    Calls Try.prog 16 #[.slice A n c] w fun e w' => e = .returned (if (efold l).2.2 = true then .tuple #[.int .u64 (efold l).1, .int .u64 (efold l).2.1, .int .i64 0] else .tuple #[.int .u64 0, .int .u64 0, .int .i64 4]) ∧ Below w.heap.size w w' := by
  go_enter Try.func16, Try.ntmps16
  go_wp2
  go_step3; go_wp2; go_step3; go_wp2
  go_loopw [5, 6, 7, 12] (fun lo hi s i wr => ∃ k : Nat, k ≤ n ∧ i = .int .i64 k ∧ ∃ x y b, efold (l.take k) = (x, y, b) ∧ lo = .int .u64 x ∧ hi = .int .u64 y ∧ s = .bool b ∧ Below w.heap.size w wr)
    (fun _ _ _ i _ => n - (intOf i).toNat)
  case atStart => exact ⟨0, Nat.zero_le _, rfl, 0, 0, false, rfl, rfl, rfl, rfl, Below.refl _ _⟩
  case round =>
    obtain ⟨k, hk, rfl, x, y, b, hf, rfl, rfl, rfl, hb⟩ := hrel
    by_cases hlt : k < n
    · obtain ⟨ad, u, rfl, hbl, hu, hcell⟩ := (hR.below hb).at_ hlt
      obtain ⟨v, hv, rfl⟩ := u64s_get hu
      have hvw := words_get hw hv
      have HF := efold_take l k v hv
      rw [hf] at HF
      have HF' := Lib.hid HF
      clear HF hf hu hv hR
      have hx1 : (-9223372036854775808 : Int) ≤ 1 := by decide
      by_cases h4 : cls v = 4
      · go_wp2_with (first | (go_at_call 10; refine (class_any _ hvw _).mono ?_; rintro e w' ⟨rfl, rfl⟩))
        go_roundw
        case rel => exact ⟨k + 1, by omega, by go_num, x, y, b, HF'.out.trans (by simp [estep, h4]), rfl, rfl, rfl, hb⟩
        case measure => simp [intOf]; omega
      · cases b with
        | false =>
          go_wp2_with (first | (go_at_call 10; refine (class_any _ hvw _).mono ?_; rintro e w' ⟨rfl, rfl⟩))
          go_roundw
          case rel => exact ⟨k + 1, by omega, by go_num, v, v, true, HF'.out.trans (by simp [estep, h4]), rfl, rfl, rfl, hb⟩
          case measure => simp [intOf]; omega
        | true =>
          go_wp2_with (first
            | (go_at_call 10; refine (class_any _ hvw _).mono ?_; rintro e w' ⟨rfl, rfl⟩)
            | (go_at_call 9; refine (test_any _ _ _ (by decide) (by decide) _).mono ?_; rintro e w1 ⟨rfl, hb1⟩; have hb := hb.trans (hb1.mono hb.size)))
          all_goals
            go_roundw
            case rel => exact ⟨k + 1, by omega, by go_num, _, _, true, HF'.out.trans (by simp [estep, *]), rfl, rfl, rfl, hb⟩
            case measure => simp [intOf]; omega
    · have hkn : k = n := by omega
      have hl : (u64s l).length = n := by have := hR.1; omega
      have hl' : l.take k = l := by rw [List.take_of_length_le]; unfold u64s at hl; rw [List.length_map] at hl; omega
      rw [hl'] at hf
      clear hl hl' hR hkn
      have HF := Lib.hid hf
      clear hf
      cases b with
      | false =>
        go_wp2
        rw [Exit.noGoto_ret]
        go_ret3
        exact ⟨by rw [HF.out]; rfl, hb⟩
      | true =>
        go_wp2
        rw [Exit.noGoto_ret]
        go_ret3
        exact ⟨by rw [HF.out]; rfl, hb⟩
end Go.Proofs.Ytkhkjenmajenjaa
