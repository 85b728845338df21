/- What is proved: contracts of the sums of package real. -/
import Derived.Test.YtkhkjenmajenjaaWalkB
namespace Go.Proofs.Ytkhkjenmajenjaa
open Go.RowKit
set_option linter.unusedVariables false
def Nan (b : Nat) : Prop := 9218868437227405312 < b % 9223372036854775808
def Fl (o : Option Nat) (s : Nat) : Prop := (o = some s ∧ ¬ Nan s) ∨ (o = none ∧ Nan s)
def fadd (o : Option Nat) (x : Int) : Option Nat := o.bind fun s => FloatKind.f64.format.add s x.toNat
def fsum (l : List Int) : Option Nat := l.foldl fadd (some 0)
def fls (l : List Int) : List Value := l.map fun x => .float .f64 x.toNat
theorem word_mod (neg : Bool) (r : Nat) (h : r ≤ 9218868437227405312) : (Ieee.double.word neg r) % 9223372036854775808 ≤ 9218868437227405312 := by
  have e1 : Ieee.double.signWeight = 9223372036854775808 := by decide
  unfold Ieee.Format.word
  rw [e1]
  split <;> omega
theorem write_num (d : Ieee.Datum) (h : d.isNaN = false) : (Ieee.double.write d) % 9223372036854775808 ≤ 9218868437227405312 := by
  have e3 : Ieee.double.infRung = 9218868437227405312 := by decide
  cases d with
  | number s m i =>
    show (Ieee.double.nearest s m i) % _ ≤ _
    unfold Ieee.Format.nearest
    dsimp only
    split
    · exact word_mod _ _ (by omega)
    · exact word_mod _ _ (by rw [e3]; exact Nat.min_le_right _ _)
  | infinity s => exact word_mod _ _ (by rw [e3]; omega)
  | nan s f => cases h
theorem sum_num (x y d : Ieee.Datum) (h : x.sum y = some d) : d.isNaN = false := by
  unfold Ieee.Datum.sum at h
  split at h
  · cases h
  · cases h
  · split at h <;> cases h; rfl
  · cases h; rfl
  · cases h; rfl
  · cases h; rfl
theorem add_num (x y r : Nat) (h : FloatKind.f64.format.add x y = some r) : ¬ Nan r := by
  show ¬ (_ < _)
  change Ieee.double.add x y = some r at h
  unfold Ieee.Format.add at h
  cases e : (Ieee.double.read x).sum (Ieee.double.read y) with
  | none => rw [e] at h; cases h
  | some d =>
    rw [e] at h
    simp at h
    have := write_num d (sum_num _ _ _ e)
    omega
theorem add_nan (x y : Nat) (h : Nan x) : FloatKind.f64.format.add x y = none := by
  obtain ⟨f, hf⟩ := read_nan x h
  unfold Ieee.Format.add
  rw [hf]; rfl
theorem add_nan_right (x y : Nat) (h : Nan y) : FloatKind.f64.format.add x y = none := by
  obtain ⟨f, hf⟩ := read_nan y h
  unfold Ieee.Format.add
  rw [hf]
  cases FloatKind.f64.format.read x <;> rfl
theorem add_run (t : TypeId) (x y : Nat) (w : World) : ∃ r w', (Op.floatArith .add .f64 x y).run Try.prog w = .ok (.float .f64 r) w' ∧ (w' = w ∨ w' = w.drew) ∧ Fl (FloatKind.f64.format.add x y) r := by
  cases e : FloatKind.f64.format.add x y with
  | some r =>
    exact ⟨r, w, by simp [Op.floatArith, e], .inl rfl, .inl ⟨rfl, add_num _ _ _ e⟩⟩
  | none =>
    refine ⟨(w.tape w.drawn (.nanBits .f64 x y) % 2) * 2 ^ 63 + 0x7ff0000000000000 + 1 + (w.tape w.drawn (.nanBits .f64 x y) / 2) % (2 ^ 52 - 1), w.drew, ?_, .inr rfl, .inr ⟨rfl, ?_⟩⟩
    · simp [Op.floatArith, e, choose, Sem.run, Question.forced, Question.cut]
    · generalize w.tape w.drawn (.nanBits .f64 x y) = t
      have h1 : t % 2 = 0 ∨ t % 2 = 1 := by omega
      have h2 : (t / 2) % (2 ^ 52 - 1) < 2 ^ 52 - 1 := Nat.mod_lt _ (by omega)
      unfold Nan
      generalize (t / 2) % (2 ^ 52 - 1) = z at *
      rcases h1 with h1 | h1 <;> rw [h1] <;> omega
theorem add_run' (x y : Nat) (w : World) : ∃ r w', (binOp .add 46 (.float .f64 x) (.float .f64 y)).run Try.prog w = .ok (.float .f64 r) w' ∧ (w' = w ∨ w' = w.drew) ∧ Fl (FloatKind.f64.format.add x y) r := by
  obtain ⟨r, w', h1, h2, h3⟩ := add_run 46 x y w
  exact ⟨r, w', by simpa [binOp] using h1, h2, h3⟩
theorem fls_get {l : List Int} {k : Nat} {u : Value} (h : (fls l)[k]? = some u) : ∃ x, l[k]? = some x ∧ u = .float .f64 x.toNat := by
  unfold fls at h
  rw [List.getElem?_map] at h
  cases e : l[k]? with
  | none => rw [e] at h; cases h
  | some x => rw [e] at h; simp at h; exact ⟨x, rfl, h.symm⟩
theorem fsum_take (l : List Int) (k : Nat) (x : Int) (h : l[k]? = some x) : fsum (l.take (k + 1)) = fadd (fsum (l.take k)) x := by
  have hk : k < l.length := by
    rcases Nat.lt_or_ge k l.length with h1 | h1
    · exact h1
    · rw [List.getElem?_eq_none h1] at h; cases h
  rw [List.getElem?_eq_getElem hk] at h
  injection h with h
  unfold fsum
  rw [List.take_succ_eq_append_getElem hk, List.foldl_append, h]
  rfl
theorem fl_step {o : Option Nat} {s r : Nat} {x : Int} (h : Fl o s) (h2 : Fl (FloatKind.f64.format.add s x.toNat) r) : Fl (fadd o x) r := by
  rcases h with ⟨rfl, _⟩ | ⟨rfl, hn⟩
  · exact h2
  · rw [add_nan _ _ hn] at h2
    rcases h2 with ⟨h, _⟩ | h
    · cases h
    · exact .inr ⟨rfl, h.2⟩
theorem fl_zero : Fl (fsum []) 0 := .inl ⟨rfl, by unfold Nan; omega⟩
theorem below_draw {B : Nat} {w w1 w2 : World} (h : Below B w w1) (h2 : w2 = w1 ∨ w2 = w1.drew) : Below B w w2 := by
  rcases h2 with rfl | rfl
  · exact h
  · exact h.drew
theorem length_fls (l : List Int) : (fls l).length = l.length := by simp [fls]
theorem length_u64s (l : List Int) : (u64s l).length = l.length := by simp [u64s]
set_option maxHeartbeats 1000000 in
theorem total_any (A : Option Addr) (n c : Nat) (l : List Int) (w : World) (hR : Reads w w.heap.size 1 A n (fls l)) (hn : n ≤ 281474976710656) :
    Calls Try.prog 41 #[.slice A n c] w fun e w' => ∃ r, (e = .returned (.float .f64 r) ∧ Fl (fsum l) r) ∧ Below w.heap.size w w' := by
  go_enter Try.func41, Try.ntmps41
  go_wp2
  go_loopw [3, 8] (fun s i wr => ∃ k : Nat, k ≤ n ∧ i = .int .i64 k ∧ ∃ r, s = .float .f64 r ∧ Fl (fsum (l.take k)) r ∧ Below w.heap.size w wr)
    (fun _ i _ => n - (intOf i).toNat)
  case atStart => exact ⟨0, Nat.zero_le _, rfl, 0, rfl, fl_zero, Below.refl _ _⟩
  case round =>
    obtain ⟨k, hk, rfl, r, rfl, hf, hb⟩ := hrel
    by_cases hlt : k < n
    · obtain ⟨ad, u, rfl, hbl, hu, hcell⟩ := (hR.below hb).at_ hlt
      obtain ⟨v, hv, rfl⟩ := fls_get hu
      obtain ⟨r2, w2, hadd, hw2, hf2⟩ := add_run' r v.toNat wr
      have HF := fsum_take l k v hv
      have HF' := Lib.hid HF
      have hst := fl_step hf hf2
      have hb2 := below_draw hb hw2
      clear HF hf hu hv hR hf2 hw2
      go_wp2
      go_roundw
      case rel => exact ⟨k + 1, by omega, by go_num, r2, rfl, by rw [HF'.out]; exact hst, hb2⟩
      case measure => simp [intOf]; omega
    · have hkn : k = n := by omega
      have hl : (fls l).length = n := by have := hR.1; omega
      have hl' : l.take k = l := by rw [List.take_of_length_le]; rw [length_fls] at hl; omega
      rw [hl'] at hf
      clear hl hl' hR hkn
      go_wp2
      go_ret
      exact ⟨r, ⟨rfl, hf⟩, hb⟩
end Go.Proofs.Ytkhkjenmajenjaa
