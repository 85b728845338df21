/- What is proved: small maps with whole-number keys that a call makes itself; the closures of Read. -/
import Derived.Test.YtdckcnikoichmaaDoorIdF
import Derived.MapKept
namespace Go.Proofs.YtdckcnikoichmaaDoor
open Go.RowKit
set_option linter.unusedVariables false
set_option linter.unusedSimpArgs false
theorem alloc_set (w : World) (o o' : Obj) : ({ w.alloc o with heap := (w.alloc o).heap.setIfInBounds w.heap.size o' } : World) = w.alloc o' := by
  have e : (w.alloc o).heap = w.heap.push o := rfl
  have e2 : (w.alloc o').heap = w.heap.push o' := rfl
  have h : (w.heap.push o).setIfInBounds w.heap.size o' = w.heap.push o' := by
    apply Array.ext_getElem?
    intro i
    by_cases hi : i = w.heap.size
    · subst hi; simp
    · rw [Array.getElem?_setIfInBounds_ne (by omega)]
      simp [Array.getElem?_push, hi]
  show ({ w.alloc o with heap := (w.heap.push o).setIfInBounds w.heap.size o' } : World) = w.alloc o'
  rw [h]; rfl
theorem run_update_new {P : Program} (T K E : TypeId) (k : IntKind) (ht : P.underlying T = some (.map K E)) (hk : P.underlying K = some (.int k)) (es : Array MapEntry) (c : Nat) (n : Int) (v : Value) (w : World)
    (hf : Instr.findNow (.int k) (.int k n) es.toList 0 = some none) :
    (Instr.mapUpdate T (.map (some w.heap.size)) (.int k n) v).run P (w.alloc (.map es c)) = .ok () (w.alloc (.map (es.push ⟨.int k n, v, c⟩) (c + 1))) := by
  have hb := (MapKept.heap_alloc w (.map es c)).1
  have hc : (Instr.checkKey false 10000 K (.int k n)).run P (w.alloc (.map es c)) = .ok () (w.alloc (.map es c)) := MapKept.run_checkKey hk (by simp [MapKept.IsKey]) false 9999
  have hg := MapKept.run_findKey (w := w.alloc (.map es c)) hk hf
  have hs := MapKept.run_setObj_map (P := P) (.map (es.push ⟨.int k n, v, c⟩) (c + 1)) hb
  rw [alloc_set] at hs
  unfold Instr.mapUpdate
  simp [run_underlying ht, MapKept.run_getObj_map hb, hc, hg, hs, Result.andThen]
theorem run_lookup_hit {P : Program} (T K E : TypeId) (k : IntKind) (ht : P.underlying T = some (.map K E)) (hk : P.underlying K = some (.int k)) (es : Array MapEntry) (c : Nat) (n : Int) (i : Nat) (v : Value) (ok : Bool) (w : World)
    (hf : Instr.findNow (.int k) (.int k n) es.toList 0 = some (some (i, v))) :
    (Instr.lookup T (.map (some w.heap.size)) (.int k n) ok).run P (w.alloc (.map es c)) = .ok (if ok then .tuple #[v, .bool true] else v) (w.alloc (.map es c)) := by
  have hb := (MapKept.heap_alloc w (.map es c)).1
  have hc : (Instr.checkKey es.isEmpty 10000 K (.int k n)).run P (w.alloc (.map es c)) = .ok () (w.alloc (.map es c)) := MapKept.run_checkKey hk (by simp [MapKept.IsKey]) _ 9999
  have hg := MapKept.run_findKey (w := w.alloc (.map es c)) hk hf
  unfold Instr.lookup
  simp [run_underlying ht, MapKept.run_getObj_map hb, hc, hg, Result.andThen]
theorem run_lookup_miss {P : Program} (T K E : TypeId) (k : IntKind) (ht : P.underlying T = some (.map K E)) (hk : P.underlying K = some (.int k)) (es : Array MapEntry) (c : Nat) (n : Int) (z : Value) (ok : Bool) (w : World)
    (hf : Instr.findNow (.int k) (.int k n) es.toList 0 = some none) (hz : ∀ w, (zeroValue E).run P w = .ok z w) :
    (Instr.lookup T (.map (some w.heap.size)) (.int k n) ok).run P (w.alloc (.map es c)) = .ok (if ok then .tuple #[z, .bool false] else z) (w.alloc (.map es c)) := by
  have hb := (MapKept.heap_alloc w (.map es c)).1
  have hc : (Instr.checkKey es.isEmpty 10000 K (.int k n)).run P (w.alloc (.map es c)) = .ok () (w.alloc (.map es c)) := MapKept.run_checkKey hk (by simp [MapKept.IsKey]) _ 9999
  have hg := MapKept.run_findKey (w := w.alloc (.map es c)) hk hf
  unfold Instr.lookup
  simp [run_underlying ht, MapKept.run_getObj_map hb, hc, hg, hz, Result.andThen]
theorem rd1_any (a b : Int) (b0 b1 : Nat) (w : World) (c0 : w.cell? ⟨b0, 0, none⟩ = some (.int .i64 a)) (c1 : w.cell? ⟨b1, 0, none⟩ = some (.int .i64 b)) :
    Calls Tryd.prog 38 #[.pointer (some ⟨b0, 0, none⟩), .pointer (some ⟨b1, 0, none⟩)] w fun e w' => e = .returned (.tuple #[.int .u64 (entV a b), .int .i64 (entE a b)]) ∧ Below w.heap.size w w' := by
  go_enter Tryd.func38, Tryd.ntmps38
  go_wp2_with fail
  refine (entity_any a b _).mono ?_
  rintro e w2 ⟨rfl, hb2⟩
  go_wp2_with fail
  go_ret2
  exact ⟨rfl, hb2⟩
theorem rd2_any (a : Int) (b0 : Nat) (w : World) (c0 : w.cell? ⟨b0, 0, none⟩ = some (.int .i64 a)) :
    Calls Tryd.prog 39 #[.pointer (some ⟨b0, 0, none⟩)] w fun e w' => e = .returned (.tuple #[.int .u64 (comV a), .int .i64 (comE a)]) ∧ Below w.heap.size w w' := by
  go_enter Tryd.func39, Tryd.ntmps39
  go_wp2_with fail
  refine (component_any a _).mono ?_
  rintro e w2 ⟨rfl, hb2⟩
  go_wp2_with fail
  go_ret2
  exact ⟨rfl, hb2⟩
theorem rd3_any (a b : Int) (b0 b1 : Nat) (w : World) (c0 : w.cell? ⟨b0, 0, none⟩ = some (.int .i64 a)) (c1 : w.cell? ⟨b1, 0, none⟩ = some (.int .i64 b)) :
    Calls Tryd.prog 40 #[.pointer (some ⟨b0, 0, none⟩), .pointer (some ⟨b1, 0, none⟩)] w fun e w' => e = .returned (.tuple #[.int .u64 (paiV a b), .int .i64 (paiE a b)]) ∧ Below w.heap.size w w' := by
  go_enter Tryd.func40, Tryd.ntmps40
  go_wp2_with fail
  refine (pair_any a b _).mono ?_
  rintro e w2 ⟨rfl, hb2⟩
  go_wp2_with fail
  go_ret2
  exact ⟨rfl, hb2⟩
end Go.Proofs.YtdckcnikoichmaaDoor
