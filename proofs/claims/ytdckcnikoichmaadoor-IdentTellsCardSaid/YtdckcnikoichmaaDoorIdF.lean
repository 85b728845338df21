/- What is proved: contracts of one and Text of package ident. -/
import Derived.Test.YtdckcnikoichmaaDoorIdE
import Derived.Lib.ItoaLen
namespace Go.Proofs.YtdckcnikoichmaaDoor
open Go.RowKit
set_option linter.unusedVariables false
set_option linter.unusedSimpArgs false
def oneT (n : Int) : List UInt8 := if n = 0 then [42] else Lib.itoa n
def txt (a : Int) : List UInt8 :=
  if kd a = 1 then [101] ++ Lib.itoa (pa a) ++ [46] ++ Lib.itoa (pb a)
  else if kd a = 2 then [99] ++ Lib.itoa (pa a)
  else if kd a = 3 ∨ kd a = 4 then [112] ++ oneT (pa a) ++ [58] ++ oneT (pb a)
  else []
theorem one_any (n : Int) (hn : I64 n) (w : World) (hE : Env w) :
    Calls Tryd.prog 29 #[.int .i64 n] w fun e w' => e = .returned (.string ⟨(oneT n).toArray⟩) ∧ Below w.heap.size w w' := by
  by_cases h0 : n = 0
  · have e : oneT n = [42] := by unfold oneT; rw [if_pos h0]
    rw [e]; clear e
    go_enter Tryd.func29, Tryd.ntmps29
    go_wp2_with fail
    go_ret
    exact ⟨rfl, Below.refl _ _⟩
  · have e : oneT n = Lib.itoa n := by unfold oneT; rw [if_neg h0]
    rw [e]; clear e
    go_enter Tryd.func29, Tryd.ntmps29
    go_wp2_with fail
    refine (itoa_any n hn _ hE).mono ?_
    rintro e w' ⟨rfl, hb⟩
    go_wp2_with fail
    go_ret
    exact ⟨rfl, hb⟩
theorem pa_bd (a : Int) : I64 (pa a) := by
  have h1 := hi_bd a; have h2 := lo_bd a
  unfold pa I64; (repeat' split) <;> omega
theorem pb_bd (a : Int) : I64 (pb a) := by
  have h1 := hi_bd a; have h2 := lo_bd a
  unfold pb I64; (repeat' split) <;> omega
def txE (a : Int) : Int := if kd a = 0 then 110 else 0
theorem ret_str {a b : ByteArray} {x : Value} (h : a = b) : Ending.returned (.tuple #[.string a, x]) = .returned (.tuple #[.string b, x]) := by rw [h]
theorem cat4 (c d : UInt8) (x y : List UInt8) : (⟨#[c]⟩ : ByteArray) ++ ⟨x.toArray⟩ ++ ⟨#[d]⟩ ++ ⟨y.toArray⟩ = ⟨([c] ++ x ++ [d] ++ y).toArray⟩ := by
  have e1 : (⟨#[c]⟩ : ByteArray) = ⟨[c].toArray⟩ := rfl
  have e2 : (⟨#[d]⟩ : ByteArray) = ⟨[d].toArray⟩ := rfl
  rw [e1, e2, ByteArray.mk_append_mk, ByteArray.mk_append_mk, ByteArray.mk_append_mk]
theorem oneT_len (n : Int) (h : I64 n) : (oneT n).length ≤ 21 := by
  unfold oneT; split
  · simp
  · exact Lib.itoa_length_le n h.1 h.2
set_option maxHeartbeats 2000000 in
theorem text_any (a : Int) (h : Word a) (w : World) (hE : Env w) :
    Calls Tryd.prog 16 #[.int .u64 a] w fun e w' => e = .returned (.tuple #[.string ⟨(txt a).toArray⟩, .int .i64 (txE a)]) ∧ Below w.heap.size w w' := by
  have hd := kd_bd a
  have hpa := pa_bd a
  have hpb := pb_bd a
  have hbe := Below.refl w.heap.size w
  have hl1 := Lib.itoa_length_le (pa a) hpa.1 hpa.2
  have hl2 := Lib.itoa_length_le (pb a) hpb.1 hpb.2
  have hl3 := oneT_len (pa a) hpa
  have hl4 := oneT_len (pb a) hpb
  rcases (show kd a = 1 ∨ kd a = 2 ∨ kd a = 3 ∨ kd a = 4 ∨ kd a = 0 from by omega) with k | k | k | k | k
  · have e : txt a = [101] ++ Lib.itoa (pa a) ++ [46] ++ Lib.itoa (pb a) := by unfold txt; rw [if_pos k]
    have e2 : txE a = 0 := by unfold txE; rw [if_neg (by omega)]
    rw [e, e2]; clear e e2
    go_enter Tryd.func16, Tryd.ntmps16
    go_wp2_with (first
      | (go_at_call 14; refine (parts_any _ h _).mono ?_; rintro e w2 ⟨rfl, hb2⟩; have hbe := hbe_tr hbe hb2; clear hb2)
      | (go_at_call 18; refine (kind_any _ h _).mono ?_; rintro e w2 ⟨rfl, hb2⟩; have hbe := hbe_tr hbe hb2; clear hb2))
    refine (itoa_any _ hpa _ (hE.below hbe)).mono ?_
    rintro e w2 ⟨rfl, hb2⟩; have hbe := hbe_tr hbe hb2; clear hb2
    go_wp2_with fail
    refine (itoa_any _ hpb _ (hE.below hbe)).mono ?_
    rintro e w2 ⟨rfl, hb2⟩; have hbe := hbe_tr hbe hb2; clear hb2
    go_wp2_with fail
    go_ret2
    exact ⟨ret_str (cat4 _ _ _ _), hbe⟩
  · have e : txt a = [99] ++ Lib.itoa (pa a) := by unfold txt; rw [if_neg (by omega), if_pos k]
    have e2 : txE a = 0 := by unfold txE; rw [if_neg (by omega)]
    rw [e, e2]; clear e e2
    go_enter Tryd.func16, Tryd.ntmps16
    go_wp2_with (first
      | (go_at_call 14; refine (parts_any _ h _).mono ?_; rintro e w2 ⟨rfl, hb2⟩; have hbe := hbe_tr hbe hb2; clear hb2)
      | (go_at_call 18; refine (kind_any _ h _).mono ?_; rintro e w2 ⟨rfl, hb2⟩; have hbe := hbe_tr hbe hb2; clear hb2))
    refine (itoa_any _ hpa _ (hE.below hbe)).mono ?_
    rintro e w2 ⟨rfl, hb2⟩; have hbe := hbe_tr hbe hb2; clear hb2
    go_wp2_with fail
    go_ret2
    exact ⟨ret_str (ByteArray.mk_append_mk [99] _), hbe⟩
  · have e : txt a = [112] ++ oneT (pa a) ++ [58] ++ oneT (pb a) := by unfold txt; rw [if_neg (by omega), if_neg (by omega), if_pos (.inl k)]
    have e2 : txE a = 0 := by unfold txE; rw [if_neg (by omega)]
    rw [e, e2]; clear e e2
    go_enter Tryd.func16, Tryd.ntmps16
    go_wp2_with (first
      | (go_at_call 14; refine (parts_any _ h _).mono ?_; rintro e w2 ⟨rfl, hb2⟩; have hbe := hbe_tr hbe hb2; clear hb2)
      | (go_at_call 18; refine (kind_any _ h _).mono ?_; rintro e w2 ⟨rfl, hb2⟩; have hbe := hbe_tr hbe hb2; clear hb2))
    refine (one_any _ hpa _ (hE.below hbe)).mono ?_
    rintro e w2 ⟨rfl, hb2⟩; have hbe := hbe_tr hbe hb2; clear hb2
    go_wp2_with fail
    refine (one_any _ hpb _ (hE.below hbe)).mono ?_
    rintro e w2 ⟨rfl, hb2⟩; have hbe := hbe_tr hbe hb2; clear hb2
    go_wp2_with fail
    go_ret2
    exact ⟨ret_str (cat4 _ _ _ _), hbe⟩
  · have e : txt a = [112] ++ oneT (pa a) ++ [58] ++ oneT (pb a) := by unfold txt; rw [if_neg (by omega), if_neg (by omega), if_pos (.inr k)]
    have e2 : txE a = 0 := by unfold txE; rw [if_neg (by omega)]
    rw [e, e2]; clear e e2
    go_enter Tryd.func16, Tryd.ntmps16
    go_wp2_with (first
      | (go_at_call 14; refine (parts_any _ h _).mono ?_; rintro e w2 ⟨rfl, hb2⟩; have hbe := hbe_tr hbe hb2; clear hb2)
      | (go_at_call 18; refine (kind_any _ h _).mono ?_; rintro e w2 ⟨rfl, hb2⟩; have hbe := hbe_tr hbe hb2; clear hb2))
    refine (one_any _ hpa _ (hE.below hbe)).mono ?_
    rintro e w2 ⟨rfl, hb2⟩; have hbe := hbe_tr hbe hb2; clear hb2
    go_wp2_with fail
    refine (one_any _ hpb _ (hE.below hbe)).mono ?_
    rintro e w2 ⟨rfl, hb2⟩; have hbe := hbe_tr hbe hb2; clear hb2
    go_wp2_with fail
    go_ret2
    exact ⟨ret_str (cat4 _ _ _ _), hbe⟩
  · have e : txt a = [] := by unfold txt; rw [if_neg (by omega), if_neg (by omega), if_neg (by omega)]
    have e2 : txE a = 110 := by unfold txE; rw [if_pos k]
    rw [e, e2]; clear e e2
    go_enter Tryd.func16, Tryd.ntmps16
    go_wp2_with (first
      | (go_at_call 14; refine (parts_any _ h _).mono ?_; rintro e w2 ⟨rfl, hb2⟩; have hbe := hbe_tr hbe hb2; clear hb2)
      | (go_at_call 18; refine (kind_any _ h _).mono ?_; rintro e w2 ⟨rfl, hb2⟩; have hbe := hbe_tr hbe hb2; clear hb2))
    go_ret2
    exact ⟨rfl, hbe⟩
end Go.Proofs.YtdckcnikoichmaaDoor
