/- What is proved: the contract of Read of package ident. -/
import Derived.Test.YtdckcnikoichmaaDoorIdG
namespace Go.Proofs.YtdckcnikoichmaaDoor
open Go.RowKit
set_option linter.unusedVariables false
set_option linter.unusedSimpArgs false
def bs (l : List UInt8) : ByteArray := ⟨l.toArray⟩
def mkP (l : List UInt8) : Option Int :=
  match l with
  | [] => none
  | c :: r =>
    if c = 101 then
      (match numP (Lib.cut r [46]).1, numP (Lib.cut r [46]).2.1 with
        | some a, some b => if entE a b = 0 then some (entV a b) else none
        | _, _ => none)
    else if c = 99 then (match numP r with
        | some a => if comE a = 0 then some (comV a) else none
        | _ => none)
    else if c = 112 then
      (match numP (Lib.cut r [58]).1, numP (Lib.cut r [58]).2.1 with
        | some a, some b => if paiE a b = 0 then some (paiV a b) else none
        | _, _ => none)
    else none
def rd (l : List UInt8) : Option Int := (mkP l).bind fun i => if txt i = l then some i else none
def rdV (l : List UInt8) : Int := (rd l).getD 0
def rdE (l : List UInt8) : Int := if (rd l).isSome then 0 else 110
def m1 : Array MapEntry := #[⟨.int .u8 101, .string ⟨#[46]⟩, 0⟩, ⟨.int .u8 99, .string ⟨#[]⟩, 1⟩, ⟨.int .u8 112, .string ⟨#[58]⟩, 2⟩]
theorem u1 (w : World) : (Instr.mapUpdate 52 (.map (some w.heap.size)) (.int .u8 101) (.string ⟨#[46]⟩)).run Tryd.prog (w.alloc (.map #[] 0)) = .ok () (w.alloc (.map #[⟨.int .u8 101, .string ⟨#[46]⟩, 0⟩] 1)) :=
  run_update_new _ _ _ .u8 Tryd.underlying52 Tryd.underlying5 #[] 0 101 _ w rfl
theorem u2 (w : World) : (Instr.mapUpdate 52 (.map (some w.heap.size)) (.int .u8 99) (.string ⟨#[]⟩)).run Tryd.prog (w.alloc (.map #[⟨.int .u8 101, .string ⟨#[46]⟩, 0⟩] 1)) = .ok () (w.alloc (.map #[⟨.int .u8 101, .string ⟨#[46]⟩, 0⟩, ⟨.int .u8 99, .string ⟨#[]⟩, 1⟩] 2)) :=
  run_update_new _ _ _ .u8 Tryd.underlying52 Tryd.underlying5 #[⟨.int .u8 101, .string ⟨#[46]⟩, 0⟩] 1 99 _ w rfl
theorem u3 (w : World) : (Instr.mapUpdate 52 (.map (some w.heap.size)) (.int .u8 112) (.string ⟨#[58]⟩)).run Tryd.prog (w.alloc (.map #[⟨.int .u8 101, .string ⟨#[46]⟩, 0⟩, ⟨.int .u8 99, .string ⟨#[]⟩, 1⟩] 2)) = .ok () (w.alloc (.map m1 3)) :=
  run_update_new _ _ _ .u8 Tryd.underlying52 Tryd.underlying5 #[⟨.int .u8 101, .string ⟨#[46]⟩, 0⟩, ⟨.int .u8 99, .string ⟨#[]⟩, 1⟩] 2 112 _ w rfl
theorem l1 (w : World) : (Instr.lookup 52 (.map (some w.heap.size)) (.int .u8 101) true).run Tryd.prog (w.alloc (.map m1 3)) = .ok (.tuple #[.string ⟨#[46]⟩, .bool true]) (w.alloc (.map m1 3)) :=
  run_lookup_hit _ _ _ .u8 Tryd.underlying52 Tryd.underlying5 m1 3 101 0 _ true w rfl
theorem l2 (w : World) : (Instr.lookup 52 (.map (some w.heap.size)) (.int .u8 99) true).run Tryd.prog (w.alloc (.map m1 3)) = .ok (.tuple #[.string ⟨#[]⟩, .bool true]) (w.alloc (.map m1 3)) :=
  run_lookup_hit _ _ _ .u8 Tryd.underlying52 Tryd.underlying5 m1 3 99 1 _ true w rfl
theorem l3 (w : World) : (Instr.lookup 52 (.map (some w.heap.size)) (.int .u8 112) true).run Tryd.prog (w.alloc (.map m1 3)) = .ok (.tuple #[.string ⟨#[58]⟩, .bool true]) (w.alloc (.map m1 3)) :=
  run_lookup_hit _ _ _ .u8 Tryd.underlying52 Tryd.underlying5 m1 3 112 2 _ true w rfl
theorem zstr (w : World) : (zeroValue 9).run Tryd.prog w = .ok (.string ⟨#[]⟩) w := by kernel_rfl
theorem l0 (c : Int) (h1 : c ≠ 101) (h2 : c ≠ 99) (h3 : c ≠ 112) (w : World) : (Instr.lookup 52 (.map (some w.heap.size)) (.int .u8 c) true).run Tryd.prog (w.alloc (.map m1 3)) = .ok (.tuple #[.string ⟨#[]⟩, .bool false]) (w.alloc (.map m1 3)) :=
  run_lookup_miss _ _ _ .u8 Tryd.underlying52 Tryd.underlying5 m1 3 c _ true w (by
    have e1 : (c == 101) = false := beq_eq_false_iff_ne.2 h1
    have e2 : (c == 99) = false := beq_eq_false_iff_ne.2 h2
    have e3 : (c == 112) = false := beq_eq_false_iff_ne.2 h3
    simp [m1, Instr.findNow, Instr.sameNow, e1, e2, e3]) zstr
theorem bs_toList (l : List UInt8) : (bs l).data.toList = l := by simp [bs]
theorem cut_len (l sep : List UInt8) : (Lib.cut l sep).1.length ≤ l.length ∧ (Lib.cut l sep).2.1.length ≤ l.length := by
  unfold Lib.cut
  split
  · simp only [List.length_take, List.length_drop]; omega
  · simp
theorem cut_any (l : List UInt8) (d : UInt8) (w : World) (hE : Env w) (hl : l.length ≤ 1000) :
    Calls Tryd.prog 36 #[.string (bs l), .string ⟨#[d]⟩] w fun e w' => e = .returned (.tuple #[.string (bs (Lib.cut l [d]).1), .string (bs (Lib.cut l [d]).2.1), .bool (Lib.cut l [d]).2.2]) ∧ Below w.heap.size w w' := by
  obtain ⟨_, ⟨m, _, hm⟩, _⟩ := hE
  refine (Tryd.strings_Cut (bs l) ⟨#[d]⟩ m w (by show (bs l).data.size < _; simp [bs]; omega) hm).mono ?_
  rintro e w' ⟨rfl, n, rfl⟩
  rw [bs_toList]
  exact ⟨rfl, below_drewN' (Below.refl _ _) n⟩
theorem num_any (l : List UInt8) (w : World) (hl : l.length ≤ 1000) (hE : Env w) : Calls Tryd.prog 37 #[.string (bs l)] w (NumR l w) := by
  have := number_any (bs l) w (by show (bs l).data.size ≤ _; simp [bs]; omega) hE
  rwa [bs_toList] at this
theorem ex1 (c : UInt8) (r : List UInt8) : ({ data := (c :: r).toArray } : ByteArray).extract 1 (r.length + 1) = bs r := by
  apply ByteArray.ext
  rw [ByteArray.data_extract]
  apply Array.ext'
  simp [bs]
def M (n : Nat) (f1 f2 f3 : Value) : Obj := .map (if n = 0 then #[] else if n = 1 then #[⟨.int .u8 101, f1, 0⟩] else if n = 2 then #[⟨.int .u8 101, f1, 0⟩, ⟨.int .u8 99, f2, 1⟩] else #[⟨.int .u8 101, f1, 0⟩, ⟨.int .u8 99, f2, 1⟩, ⟨.int .u8 112, f3, 2⟩]) n
theorem n1 (f1 : Value) (b : Nat) (w : World) (hb : b = w.heap.size) : (Instr.mapUpdate 59 (.map (some b)) (.int .u8 101) f1).run Tryd.prog (w.alloc (.map #[] 0)) = .ok () (w.alloc (.map #[⟨.int .u8 101, f1, 0⟩] 1)) := by
  subst hb
  exact run_update_new _ _ _ .u8 Tryd.underlying59 Tryd.underlying5 #[] 0 101 _ w rfl
theorem n2 (f1 f2 : Value) (b : Nat) (w : World) (hb : b = w.heap.size) : (Instr.mapUpdate 59 (.map (some b)) (.int .u8 99) f2).run Tryd.prog (w.alloc (.map #[⟨.int .u8 101, f1, 0⟩] 1)) = .ok () (w.alloc (.map #[⟨.int .u8 101, f1, 0⟩, ⟨.int .u8 99, f2, 1⟩] 2)) := by
  subst hb
  exact run_update_new _ _ _ .u8 Tryd.underlying59 Tryd.underlying5 #[⟨.int .u8 101, f1, 0⟩] 1 99 _ w rfl
theorem n3 (f1 f2 f3 : Value) (b : Nat) (w : World) (hb : b = w.heap.size) : (Instr.mapUpdate 59 (.map (some b)) (.int .u8 112) f3).run Tryd.prog (w.alloc (.map #[⟨.int .u8 101, f1, 0⟩, ⟨.int .u8 99, f2, 1⟩] 2)) = .ok () (w.alloc (M 3 f1 f2 f3)) := by
  subst hb
  exact run_update_new _ _ _ .u8 Tryd.underlying59 Tryd.underlying5 #[⟨.int .u8 101, f1, 0⟩, ⟨.int .u8 99, f2, 1⟩] 2 112 _ w rfl
theorem q1 (f1 f2 f3 : Value) (b : Nat) (w : World) (hb : b = w.heap.size) : (Instr.lookup 59 (.map (some b)) (.int .u8 101) false).run Tryd.prog (w.alloc (M 3 f1 f2 f3)) = .ok f1 (w.alloc (M 3 f1 f2 f3)) := by
  subst hb
  exact run_lookup_hit _ _ _ .u8 Tryd.underlying59 Tryd.underlying5 _ 3 101 0 _ false w rfl
theorem q2 (f1 f2 f3 : Value) (b : Nat) (w : World) (hb : b = w.heap.size) : (Instr.lookup 59 (.map (some b)) (.int .u8 99) false).run Tryd.prog (w.alloc (M 3 f1 f2 f3)) = .ok f2 (w.alloc (M 3 f1 f2 f3)) := by
  subst hb
  exact run_lookup_hit _ _ _ .u8 Tryd.underlying59 Tryd.underlying5 _ 3 99 1 _ false w rfl
theorem q3 (f1 f2 f3 : Value) (b : Nat) (w : World) (hb : b = w.heap.size) : (Instr.lookup 59 (.map (some b)) (.int .u8 112) false).run Tryd.prog (w.alloc (M 3 f1 f2 f3)) = .ok f3 (w.alloc (M 3 f1 f2 f3)) := by
  subst hb
  exact run_lookup_hit _ _ _ .u8 Tryd.underlying59 Tryd.underlying5 _ 3 112 2 _ false w rfl
theorem ent_word (a b : Int) : Word (entV a b) := by unfold entV Word; split <;> omega
theorem com_word (a : Int) : Word (comV a) := by unfold comV Word; split <;> omega
theorem pai_word (a b : Int) : Word (paiV a b) := by unfold paiV Word; split <;> omega
/-- the end of Read, where an id has been made -/
theorem rd_fin {l : List UInt8} {v ev : Int} (hm : mkP l = if ev = 0 then some v else none) (hl : l ≠ []) :
    (ev ≠ 0 ∧ rdV l = 0 ∧ rdE l = 110) ∨ (ev = 0 ∧ txE v ≠ 0 ∧ rdV l = 0 ∧ rdE l = 110) ∨ (ev = 0 ∧ txE v = 0 ∧ (txt v == l) = false ∧ rdV l = 0 ∧ rdE l = 110) ∨ (ev = 0 ∧ txE v = 0 ∧ (txt v == l) = true ∧ rdV l = v ∧ rdE l = 0) := by
  have key : ∀ o, rd l = o → rdV l = o.getD 0 ∧ rdE l = if o.isSome then 0 else 110 := fun o h => by unfold rdV rdE; rw [h]; exact ⟨rfl, rfl⟩
  by_cases h0 : ev = 0
  · rw [if_pos h0] at hm
    by_cases ht : txt v = l
    · have hk : txE v = 0 := by
        unfold txE; rw [if_neg]
        intro hk
        have : txt v = [] := by unfold txt; rw [if_neg (by omega), if_neg (by omega), if_neg (by omega)]
        exact hl (ht.symm.trans this)
      have hr : rd l = some v := by unfold rd; rw [hm]; simp [ht]
      exact .inr (.inr (.inr ⟨h0, hk, beq_iff_eq.2 ht, (key _ hr).1, (key _ hr).2⟩))
    · have hr : rd l = none := by unfold rd; rw [hm]; simp [ht]
      by_cases hk : txE v = 0
      · exact .inr (.inr (.inl ⟨h0, hk, beq_eq_false_iff_ne.2 ht, (key _ hr).1, (key _ hr).2⟩))
      · exact .inr (.inl ⟨h0, hk, (key _ hr).1, (key _ hr).2⟩)
  · rw [if_neg h0] at hm
    have hr : rd l = none := by unfold rd; rw [hm]; rfl
    exact .inl ⟨h0, (key _ hr).1, (key _ hr).2⟩
theorem ret_two {k k2 : IntKind} {a b c d : Int} (h : a = b) (h2 : c = d) : Ending.returned (.tuple #[.int k a, .int k2 c]) = .returned (.tuple #[.int k b, .int k2 d]) := by rw [h, h2]
theorem rd_none {l : List UInt8} (hm : mkP l = none) : rdV l = 0 ∧ rdE l = 110 := by
  unfold rdV rdE rd; rw [hm]; exact ⟨rfl, rfl⟩
theorem num_zero : numP [48] = some 0 := by decide
theorem num_0 (w : World) (hE : Env w) : Calls Tryd.prog 37 #[.string ⟨#[48]⟩] w (NumR [48] w) := num_any [48] w (by decide) hE
end Go.Proofs.YtdckcnikoichmaaDoor
