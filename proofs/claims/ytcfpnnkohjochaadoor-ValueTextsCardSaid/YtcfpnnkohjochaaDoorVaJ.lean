/- What is proved: the library's variables as the contracts want them; contracts of strconv.ParseUint at base 16 and of word. -/
import Derived.Test.YtcfpnnkohjochaaDoorVaI
import Derived.Laws.RangeString
namespace Go.Proofs.YtcfpnnkohjochaaDoor
open Go.RowKit
set_option linter.unusedVariables false
set_option linter.unusedSimpArgs false
/-- what the library's variables hold, as the contracts want it -/
structure Env (w : World) : Prop where
  tz : Tz w
  mx : ∃ m, 0 < w.heap.size ∧ w.cell? ⟨0, 0, none⟩ = some (.int .i64 m)
  e2 : ∃ ev, 2 < w.heap.size ∧ w.cell? ⟨2, 0, none⟩ = some ev ∧ (ev = .nilIface ∨ ∃ te pe, ev = .iface te pe)
  e3 : ∃ ev, 3 < w.heap.size ∧ w.cell? ⟨3, 0, none⟩ = some ev ∧ (ev = .nilIface ∨ ∃ te pe, ev = .iface te pe)
theorem Env.below {w w' : World} (h : Env w) (hb : Below w.heap.size w w') : Env w' := by
  obtain ⟨ht, ⟨m, a0, a1⟩, ⟨ev, b0, b1, b2⟩, ⟨ev2, c0, c1, c2⟩⟩ := h
  have hs := hb.size
  exact ⟨ht.below hb, ⟨m, by omega, (hb.cell (p := ⟨0, 0, none⟩) a0).trans a1⟩, ⟨ev, by omega, (hb.cell (p := ⟨2, 0, none⟩) b0).trans b1, b2⟩, ⟨ev2, by omega, (hb.cell (p := ⟨3, 0, none⟩) c0).trans c1, c2⟩⟩
theorem toList_eq (s : ByteArray) : s.toList = s.data.toList := ByteArray.toList_eq s
theorem run_eql_iface_nil' {P : Program} (w : World) {t : TypeId} {ms : Array (String × TypeId)} (te : TypeId) (p : Value) (ht : P.underlying t = some (.interface ms)) : (binOp .eql t (.iface te p) .nilIface).run P w = .ok (.bool false) w := by
  have h : ∀ d : Nat, (Op.equalIn (d + 1) t (.iface te p) .nilIface).run P w = .ok false w := fun d => by
    simp [Op.equalIn, run_underlying ht]
  simp only [binOp]
  simp [Op.equal, Op.maxDepth, h 9999]
theorem run_eql_nil_nil' {P : Program} (w : World) {t : TypeId} {ms : Array (String × TypeId)} (ht : P.underlying t = some (.interface ms)) : (binOp .eql t .nilIface .nilIface).run P w = .ok (.bool true) w := by
  have h : ∀ d : Nat, (Op.equalIn (d + 1) t .nilIface .nilIface).run P w = .ok true w := fun d => by
    simp [Op.equalIn, run_underlying ht]
  simp only [binOp]
  simp [Op.equal, Op.maxDepth, h 9999]
theorem run_neq_iface_nil' {P : Program} (w : World) {t : TypeId} {ms : Array (String × TypeId)} (te : TypeId) (p : Value) (ht : P.underlying t = some (.interface ms)) : (binOp .neq t (.iface te p) .nilIface).run P w = .ok (.bool true) w := by
  have h : ∀ d : Nat, (Op.equalIn (d + 1) t (.iface te p) .nilIface).run P w = .ok false w := fun d => by
    simp [Op.equalIn, run_underlying ht]
  simp only [binOp]
  simp [Op.equal, Op.maxDepth, h 9999]
theorem run_neq_nil_nil' {P : Program} (w : World) {t : TypeId} {ms : Array (String × TypeId)} (ht : P.underlying t = some (.interface ms)) : (binOp .neq t .nilIface .nilIface).run P w = .ok (.bool false) w := by
  have h : ∀ d : Nat, (Op.equalIn (d + 1) t .nilIface .nilIface).run P w = .ok true w := fun d => by
    simp [Op.equalIn, run_underlying ht]
  simp only [binOp]
  simp [Op.equal, Op.maxDepth, h 9999]
/-- what ParseUint gives: a number and no error, or some number and an error -/
def PuC (r : Option Nat) (w : World) (e : Ending) (w' : World) : Prop :=
  match r with
  | some n => e = .returned (.tuple #[.int .u64 (n : Int), .nilIface]) ∧ Below w.heap.size w w'
  | none => ∃ (x : Int) (te : TypeId) (p : Value), (e = .returned (.tuple #[.int .u64 x, .iface te p]) ∧ Word x) ∧ Below w.heap.size w w'
/-- of what text: the digits' number -/
def puR (l : List UInt8) : Option Nat := if l = [] then none else pu16 0 l
set_option maxRecDepth 100000 in
theorem parse_any (t : ByteArray) (hmax : t.size ≤ 140737488355328) (hall : t.data.toList.all isHex = true) (w : World) (hE : Env w) :
    Calls Tryd.prog 54 #[.string t, .int .i64 16, .int .i64 64] w (PuC (puR t.data.toList) w) := by
  have hq : ∀ (te : TypeId) (p : Value) (w : World), (binOp .neq 76 (.iface te p) .nilIface).run Tryd.prog w = .ok (.bool true) w := fun te p w => run_neq_iface_nil' w te p Tryd.underlying76
  have hq0 : ∀ (w : World), (binOp .neq 76 .nilIface .nilIface).run Tryd.prog w = .ok (.bool false) w := fun w => run_neq_nil_nil' w Tryd.underlying76
  by_cases h0 : t.size = 0
  · have ht : t = ⟨#[]⟩ := by
      have : t.data = #[] := Array.eq_empty_of_size_eq_zero h0
      cases t; simp_all
    subst ht
    obtain ⟨_, _, ⟨ev, e1, e2, e3⟩, _⟩ := hE
    have cs := fun (W : World) (h : W.cell? ⟨2, 0, none⟩ = some ev) => Tryd.strconv_toError_syntax ⟨#[80, 97, 114, 115, 101, 85, 105, 110, 116]⟩ ⟨#[]⟩ 16 64 ev W (by decide) h e3
    clear hall e3
    unfold PuC puR
    rw [if_pos rfl]
    go_enter Tryd.func54, Tryd.ntmps54
    go_wp2_with (first
      | (go_at_call 64; ((with_reducible refine (iparse_nil _).mono ?_); rintro e w1 ⟨rfl, rfl⟩))
      | (go_at_call 65; ((with_reducible refine (cs _ e2).mono ?_); rintro e w2 ⟨N, rfl, hN1, hN2, hb2⟩))
      | fail)
    go_ret2
    exact ⟨0, _, _, ⟨rfl, by unfold Word; omega⟩, hb2⟩
  · have ci := iparse_any t h0 (by omega) hall w
    have hne : t.data.toList ≠ [] := fun e => h0 (by have := congrArg List.length e; simpa using this)
    unfold puR
    rw [if_neg hne]
    have hbb := Lib.bytesWorld_below w 5 t
    generalize pu16 0 t.data.toList = r at ci ⊢
    obtain ⟨_, _, _, ⟨ev, e1, e2, e3⟩⟩ := hE
    have cs := fun (W : World) (h : W.cell? ⟨3, 0, none⟩ = some ev) => Tryd.strconv_toError_range ⟨#[80, 97, 114, 115, 101, 85, 105, 110, 116]⟩ t 16 64 ev W (by omega) h e3
    have e4 := cell_below' hbb e2 e1
    generalize Lib.bytesWorld w 5 t = W1 at *
    clear hall e3 hne h0
    cases r with
    | some n =>
      unfold puT at ci
      unfold PuC
      go_enter Tryd.func54, Tryd.ntmps54
      go_wp2_with (first
        | (go_at_call 64; ((with_reducible refine ci.mono ?_); rintro e w1 ⟨rfl, rfl⟩))
        | fail)
      go_ret2
      exact ⟨rfl, hbb⟩
    | none =>
      unfold puT at ci
      unfold PuC
      go_enter Tryd.func54, Tryd.ntmps54
      go_wp2_with (first
        | (go_at_call 64; ((with_reducible refine ci.mono ?_); rintro e w1 ⟨rfl, rfl⟩))
        | (go_at_call 65; ((with_reducible refine (cs _ e4).mono ?_); rintro e w2 ⟨N, rfl, hN1, hN2, hb2⟩))
        | fail)
      go_ret2
      exact ⟨18446744073709551615, _, _, ⟨rfl, by unfold Word; omega⟩, hbe_tr hbb hb2⟩
end Go.Proofs.YtcfpnnkohjochaaDoor
