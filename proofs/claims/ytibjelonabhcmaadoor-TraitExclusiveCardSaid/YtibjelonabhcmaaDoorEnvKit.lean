/- What is proved: from the row's condition (the listed variable) and the world's shape to Env; the witness's condition; a wrap that keeps both. -/
import Derived.Test.YtibjelonabhcmaaDoorRows
import Derived.Test.YtibjelonabhcmaaDoorTr9
import Derived.Test.YtibjelonabhcmaaDoorTrM
import Derived.ProofKit
import Derived.LaidMore
import Derived.OpenShut
import Derived.Stop.Joined
import Derived.Shelf.Vars
import Derived.Stop.LaidErr
import Derived.Lib.LaidTab
namespace Go.Proofs.YtibjelonabhcmaaDoor
open Go.ChangeShapes Go.WideShapes Go.ChangeAt Go.RowKit
set_option linter.unusedVariables false
def laidL : List (String × DataW Unit) := [("windrose/trait.first", Rows.laid_windrose_trait_first)]
theorem door_met (os : Os) (args : Array Value) : laidMetH Tryd.prog laidL ((World.doorLaid Tryd.prog 400 os).forCall (fun _ _ => 0) ⟨#[], args, []⟩).memory :=
  laidMetH_of_parts3 (fuel := 8) (laidMet_of_run' 8 (by kernel_rfl) (by kernel_rfl)) (by kernel_rfl) (by kernel_rfl)
theorem returns_shaped {H : Type} {enc : TypeId × Value → H} {a : Assume} {C : Checked} {os : Os} {f : FuncId} {fn : Func} {s : ChangeSpec} {conds : List PathCond} {apart fresh handsOn again : Bool} {X : World → Array Value → Prop}
    (hX : ∀ (w w' : World) (args : Array Value), w.heap = w'.heap → X w args → X w' args)
    (own : ownKnob C.prog.godebug = none) (started : os.Started) (noInit : C.prog.inits.idxOf? f = none) (hfn : C.prog.funcs[f]? = some fn)
    (witness : ∃ (w : World) (tape : Tape) (i : Input), w.os = os ∧ (w.forCall tape i).Shaped C.prog ∧ i.vars = [] ∧ Input.okWide C.prog (w.forCall tape i) .any w.heap.size f i ∧
      ((s.pre enc C.prog fn conds apart (w.forCall tape i).memory i.args ∧ X (w.forCall tape i).memory i.args) ∧ sizedMet enc C.prog fn (OpenSpec.ofChange s) apart (w.forCall tape i).memory i.args) ∧ a.holds C.prog (lone (Frame.enter C.prog f i.args .normal) [] (w.forCall tape i)))
    (contract : ∀ (W : World) (base : Nat) (args : Array Value) (ds gs : List (DataW H)) (before : List MemPlace),
      (∀ (j : Nat) t v, fn.params[j]? = some t → args[j]? = some v → Value.okWide C.prog W .any base t v) →
      DataW.Whole enc C.prog fn.params.toList s.vars apart W args.toList ds gs before →
      (DataW.weightsEach C.prog (fn.params.toList ++ s.plain.varTypes C.prog) (ds ++ gs)).all (· ≤ reachBytes) = true → X W args → W.ShapedOpen C.prog →
      Calls C.prog f args W fun e W' => ∃ v, e = .returned v ∧ s.post enc C.prog fn apart fresh handsOn again W args v W') :
    ReturnsInHanded a C os f .any (fun w args => (s.pre enc C.prog fn conds apart w args ∧ X w args) ∧ sizedMet enc C.prog fn (OpenSpec.ofChange s) apart w args) (s.post enc C.prog fn apart fresh handsOn again) := by
  refine returnsInHanded_of_calls own started noInit witness ?_
  intro w tape i _ hsh _ hok hpre hholds
  obtain ⟨_, _, _, fn', hfn', _, _, _, _, hval⟩ := hok
  have e : fn' = fn := Option.some.inj (hfn'.symm.trans hfn)
  subst e
  obtain ⟨⟨⟨ds, gs, before, hw, hc⟩, hx⟩, hz⟩ := hpre
  have hw' := DataW.Whole.of_heap (w' := w.forCall tape i) (by rfl) hw
  refine (contract (w.forCall tape i) w.heap.size i.args ds gs before hval hw' (hz.weights hw) (hX _ _ _ (by rfl) hx) hsh).mono fun e W' ⟨v, he, hp⟩ => ?_
  subst he
  exact ChangeSpec.post_blind hp
theorem cell_lt {w : World} {b o : Nat} {v : Value} (h : w.cell? ⟨b, o, none⟩ = some v) : b < w.heap.size := by
  rcases Nat.lt_or_ge b w.heap.size with h' | h'
  · exact h'
  · simp [World.cell?, Array.getElem?_eq_none h'] at h
theorem gFi : Tryd.prog.globalNamed "windrose/trait.first" = some 0 := by kernel_rfl
theorem gFiT : (Tryd.prog.globals[0]?).map (·.type) = some 69 := by kernel_rfl
theorem relD_inj {r : Rel} {x : Rel} (h : (relD r : DataW Unit) = relD x) : r = x := by
  obtain ⟨a1, a2, a3, a4, a5, a6⟩ := r
  obtain ⟨b1, b2, b3, b4, b5, b6⟩ := x
  simp only [relD, DataW.agg.injEq, List.cons.injEq, DataW.lit.injEq, Lit.int.injEq, Lit.bool.injEq, and_true, true_and] at h
  obtain ⟨rfl, rfl, rfl, rfl, rfl, rfl⟩ := h
  rfl
theorem env_of_laid {W : World} (h : laidMetH Tryd.prog laidL W) (hs : W.ShapedOpen Tryd.prog) : Env W := by
  rw [MakeChecks.laidMetH_plain _ _ _ (by kernel_rfl)] at h
  obtain ⟨ps, ⟨g', t', cs, fuel, p, q, hg', ht', hvar, hd, _, _⟩, _⟩ := h
  obtain rfl := Option.some.inj (gFi.symm.trans hg')
  obtain rfl := Option.some.inj (gFiT.symm.trans ht')
  obtain ⟨xs, m, _, hx, hlen, hxl, hf⟩ := DataW.trod_array Tryd.underlying69 hd
  have ce : Tryd.prog.cellsOf 31 = 6 := by kernel_rfl
  have ca : Tryd.prog.cellsOf 69 = 12 := by kernel_rfl
  simp only [ca] at hlen
  match xs, hxl with
  | [y0, y1], _ =>
    have g0 := hf 0 (by omega)
    have g1 := hf 1 (by omega)
    simp only [ce] at g0 g1
    obtain ⟨r0, e0, d0, _⟩ := trod_rel g0
    obtain ⟨r1, e1, d1, _⟩ := trod_rel g1
    have hx1 := congrArg Prod.fst hx
    have hl0 : (Rows.laid_windrose_trait_first : DataW Unit) = .agg [relD f0, relD f1] := rfl
    rw [hl0] at hx1
    have hx2 : (DataW.agg [relD f0, relD f1] : DataW Unit) = .agg [y0.1, y1.1] := hx1.trans (by rfl)
    simp only [DataW.agg.injEq, List.cons.injEq, and_true] at hx2
    rw [d0, d1] at hx2
    have q0 := (relD_inj hx2.1).symm
    have q1 := (relD_inj hx2.2).symm
    subst q0 q1
    have hcs : cs.toList = rels firstL := by
      show cs.toList = relC f0 ++ (relC f1 ++ [])
      rw [List.append_nil, ← e0, ← e1, Nat.zero_mul, List.drop_zero, Nat.one_mul]
      rw [List.take_of_length_le (l := cs.toList.drop 6) (by rw [List.length_drop]; omega), List.take_append_drop]
    have hcell : ∀ j u, (rels firstL)[j]? = some u → W.cell? ⟨0, j, none⟩ = some u := fun j u hu => by
      have := World.var?_cell gFi hvar j
      refine this.trans ?_
      rw [← Array.getElem?_toList, hcs]
      exact hu
    exact ⟨cell_lt (hcell 0 _ rfl), hcell⟩
end Go.Proofs.YtibjelonabhcmaaDoor
