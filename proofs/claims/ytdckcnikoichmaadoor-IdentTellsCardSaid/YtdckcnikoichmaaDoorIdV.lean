/- What is proved: contracts of the document's cut and number. -/
import Derived.Test.YtdckcnikoichmaaDoorIdU
import Derived.Deep.QuietTactic
import Derived.BigQuiet
namespace Go.Proofs.YtdckcnikoichmaaDoor
open Go.RowKit
set_option linter.unusedVariables false
set_option linter.unusedSimpArgs false
/-- the document's cut -/
def rcut (l : List UInt8) (d : UInt8) : List UInt8 × List UInt8 × Bool := if d ∈ l then Lib.cut l [d] else ([], [], false)
theorem at_k (s : ByteArray) (k : Nat) (h : k < s.size) : s.data.toList = s.data.toList.take k ++ [s[k]] ++ s.data.toList.drop (k + 1) := by
  have e : s.data.toList.drop k = s[k] :: s.data.toList.drop (k + 1) := by
    rw [← List.getElem_cons_drop (by simpa using h)]; rfl
  rw [List.append_assoc, List.singleton_append, ← e, List.take_append_drop]
theorem take_k (s : ByteArray) (k : Nat) (h : k < s.size) : s.data.toList.take (k + 1) = s.data.toList.take k ++ [s[k]] := by
  rw [List.take_succ_eq_append_getElem (by simpa using h)]; rfl
theorem rcut_hit (s : ByteArray) (k : Nat) (d : UInt8) (h : k < s.size) (hd : s[k] = d) (hn : d ∉ s.data.toList.take k) : rcut s.data.toList d = (s.data.toList.take k, s.data.toList.drop (k + 1), true) := by
  have e := at_k s k h
  unfold rcut
  rw [if_pos (by rw [e, hd]; simp), e, hd]
  have h1 : (s.data.toList.take k ++ [d] ++ s.data.toList.drop (k + 1)).take k = s.data.toList.take k := by
    rw [← hd, ← e]
  have h2 : (s.data.toList.take k ++ [d] ++ s.data.toList.drop (k + 1)).drop (k + 1) = s.data.toList.drop (k + 1) := by
    rw [← hd, ← e]
  rw [h1, h2]
  exact cut_at _ _ _ hn
theorem rcut_none (s : ByteArray) (d : UInt8) (hn : d ∉ s.data.toList) : rcut s.data.toList d = ([], [], false) := by
  unfold rcut; rw [if_neg hn]
theorem ext_front (s : ByteArray) (k : Nat) : s.extract 0 k = ⟨(s.data.toList.take k).toArray⟩ := by
  apply ByteArray.ext
  rw [ByteArray.data_extract]
  apply Array.ext'
  simp only [Array.toList_extract, List.extract_eq_take_drop, Nat.sub_zero, List.drop_zero]
theorem ext_back (s : ByteArray) (k : Nat) : s.extract k s.size = ⟨(s.data.toList.drop k).toArray⟩ := by
  apply ByteArray.ext
  rw [ByteArray.data_extract]
  apply Array.ext'
  simp only [Array.toList_extract, List.extract_eq_take_drop]
  rw [List.take_of_length_le]
  rw [List.length_drop]; exact Nat.le_refl _
set_option maxHeartbeats 2000000 in
theorem rcut_any (s : ByteArray) (d : UInt8) (w : World) (hs : s.size ≤ 65536) :
    Calls Tryd.prog 41 #[.string s, .int .u8 (d.toNat : Int)] w fun e w' => e = .returned (.tuple #[.string ⟨(rcut s.data.toList d).1.toArray⟩, .string ⟨(rcut s.data.toList d).2.1.toArray⟩, .bool (rcut s.data.toList d).2.2]) ∧ Below w.heap.size w w' := by
  go_enter Tryd.func41, Tryd.ntmps41
  go_wp2_with fail
  go_loop [10] (fun i => ∃ k : Nat, k ≤ s.size ∧ i = .int .i64 k ∧ d ∉ s.data.toList.take k)
    (fun i => s.size - (intOf i).toNat)
  case atStart => exact ⟨0, Nat.zero_le _, rfl, by simp⟩
  case round =>
    obtain ⟨k, hk, rfl, hn⟩ := hrel
    by_cases hlt : k < s.size
    · have hidx : ∀ h, (((s[k]'h).toNat : Nat) : Int) = (s[k].toNat : Int) := fun _ => rfl
      by_cases hd : s[k] = d
      · have hc := Lib.hid (rcut_hit s k d hlt hd hn)
        have hb : (((s[k].toNat : Nat) : Int) == (d.toNat : Int)) = true := by rw [hd]; simp
        have i1 : (k : Int) < (s.size : Int) := by omega
        have i2 : (k : Int) ≤ (s.size : Int) := by omega
        have i3 : (k : Int) + 1 ≤ (s.size : Int) := by omega
        have x1 := Lib.hid (ext_front s k)
        have x2 := Lib.hid (ext_back s (k + 1))
        clear hn hd
        go_wp2_with fail
        go_quiet (fail)
        go_wp2_with fail
        go_ret3
        exact ⟨by rw [hc.out, ← x1.out, ← x2.out] <;> rfl, by first | exact Below.refl _ _ | exact below_drewN' (Below.refl _ _) _⟩
      · have hn2 := Lib.hid (show d ∉ s.data.toList.take (k + 1) from by rw [take_k s k hlt]; simp only [List.mem_append, List.mem_singleton, not_or]; exact ⟨hn, fun e => hd e.symm⟩)
        have hb : (((s[k].toNat : Nat) : Int) == (d.toNat : Int)) = false := by
          have : s[k].toNat ≠ d.toNat := fun e => hd (UInt8.toNat_inj.1 e)
          simp; omega
        clear hn hd
        go_wp2_with fail
        go_round
        case rel => exact ⟨k + 1, by omega, by go_num, hn2.out⟩
        case measure => simp [intOf]; omega
    · have ht : s.data.toList.take k = s.data.toList := List.take_of_length_le (by show s.size ≤ k; omega)
      rw [ht] at hn
      have hn2 := Lib.hid (rcut_none s d hn)
      clear hn
      go_wp2_with fail
      go_ret3
      exact ⟨by rw [hn2.out] <;> rfl, Below.refl _ _⟩
end Go.Proofs.YtdckcnikoichmaaDoor
