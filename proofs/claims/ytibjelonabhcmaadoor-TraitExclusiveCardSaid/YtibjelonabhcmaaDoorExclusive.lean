/- What is proved: TraitExclusive holds: for every input the law returns true, and each argument reads afterwards as it read before; and its tied card. -/
import Derived.Test.YtibjelonabhcmaaDoorEnvKit
import Derived.Test.YtibjelonabhcmaaDoorTie
import Derived.Test.YtibjelonabhcmaaDoorCards
import Derived.Test.YtibjelonabhcmaaDoorRowkit
import Derived.Test.YtibjelonabhcmaaDoorTwM
import Derived.Test.YtibjelonabhcmaaDoorRowkit
import Derived.WalkKit
import Derived.ProofKit
import Derived.OpenShut
import Derived.SizedLaws
import Derived.SevenTiedAt
namespace Go.Proofs.YtibjelonabhcmaaDoor.traitExclusive
open Go.ChangeShapes Go.WideShapes Go.ChangeAt Go.RowKit
open Go.ChangeMaps (open_string shut_string)
set_option linter.unusedVariables false
set_option linter.unusedSimpArgs false
theorem own : ownKnob Tryd.prog.godebug = none := by kernel_rfl
theorem laidOut : laidOutB Tryd.prog = true := by kernel_rfl
theorem bytes31 : Tryd.prog.bytesOf 31 = 40 := by kernel_rfl
theorem cells38 : Tryd.prog.cellsOf 38 = 1 := by kernel_rfl
theorem bytes38 : Tryd.prog.bytesOf 38 = 8 := by kernel_rfl
set_option maxRecDepth 100000 in
theorem lifted (os : Os) (started : os.Started) (H : Type) (enc : TypeId × Value → H) :
    ReturnsInHanded {} Tryd.checked os 7 .any (fun w args => (Rows.traitExclusiveSpec.pre enc Tryd.prog Tryd.f7 [] false w args ∧ laidMetH Tryd.prog laidL w) ∧ sizedMet enc Tryd.prog Tryd.f7 (OpenSpec.ofChange Rows.traitExclusiveSpec) false w args) (Rows.traitExclusiveSpec.post enc Tryd.prog Tryd.f7 false true false false) := by
  refine returns_shaped (C := Tryd.checked) (X := fun w _ => laidMetH Tryd.prog laidL w) (fun _ _ _ hh h => h.of_heap hh) own started (by kernel_rfl) Tryd.func7
    (ChangeSpec.witness_shaped (enc := enc) (C := Tryd.checked) (os := os) (X := fun w _ => laidMetH Tryd.prog laidL w) false (World.doorLaid Tryd.prog 400 os) #[.slice none 0 0, .slice none 0 0, .int .u64 0] 8 rfl (World.shaped_of_RefB (by kernel_rfl) (by kernel_rfl)) (by kernel_rfl) (by kernel_rfl) (by kernel_rfl) (door_met os _)) ?_
  intro W base args ds gs before hval0 hW hsz0 hL hsh
  have hE : Env W := env_of_laid hL hsh
  clear hL hsh
  have hsz : (DataW.weightsEach Tryd.prog (Tryd.f7.params.toList ++ Rows.traitExclusiveSpec.plain.varTypes Tryd.prog) (ds ++ gs)).all (· ≤ reachBytes) = true := hsz0
  clear hsz0
  have hval : ∀ (j : Nat) t v, Tryd.f7.params[j]? = some t → args[j]? = some v → Value.okWide Tryd.prog W .any base t v := hval0
  have hW' := hW
  obtain ⟨p, q, hA0, hV, rfl, _, _⟩ := hW
  have hA : DataW.TrodAll enc Tryd.prog W 0 (fun _ => true) true Tryd.f7.params.toList args.toList ds p := hA0
  rw [Tryd.params7] at hA hval hsz
  obtain ⟨v0, vs0, d0, ds0, p0, q0, hargs, rfl, rfl, h0, r0⟩ := trodAll_cons hA
  obtain ⟨v1, vs1, d1, ds1, p1, q1, rfl, rfl, rfl, h1, r1⟩ := trodAll_cons r0
  obtain ⟨v2, vs2, d2, ds2, p2, q2, rfl, rfl, rfl, h2, r2⟩ := trodAll_cons r1
  obtain ⟨rfl, rfl, rfl⟩ := trodAll_nil r2
  obtain rfl : args = #[v0, v1, v2] := by cases args; simp_all
  obtain ⟨rfl, rfl⟩ := trodVars_none hV
  clear hA0 hval0 hargs
  simp only [List.append_nil] at hW'
  have hlt0 : ∀ x ∈ p0, x.block < W.heap.size := fun x hx => hW'.lt x (by simp [hx])
  have hst0 : ∀ W', Below W.heap.size W W' → DataW.Trod enc Tryd.prog W' 0 (fun b => decide (b < W.heap.size)) true 22 v0 d0 p0 := fun W' hn => Below.trod laidOut (by kernel_rfl) (of_decide_eq_true (by kernel_rfl)) h0 hn hlt0
  have hlt1 : ∀ x ∈ p1, x.block < W.heap.size := fun x hx => hW'.lt x (by simp [hx])
  have hst1 : ∀ W', Below W.heap.size W W' → DataW.Trod enc Tryd.prog W' 0 (fun b => decide (b < W.heap.size)) true 35 v1 d1 p1 := fun W' hn => Below.trod laidOut (by kernel_rfl) (of_decide_eq_true (by kernel_rfl)) h1 hn hlt1
  have hlt2 : ∀ x ∈ p2, x.block < W.heap.size := fun x hx => hW'.lt x (by simp [hx])
  have hst2 : ∀ W', Below W.heap.size W W' → DataW.Trod enc Tryd.prog W' 0 (fun b => decide (b < W.heap.size)) true 38 v2 d2 p2 := fun W' hn => Below.trod laidOut (by kernel_rfl) (of_decide_eq_true (by kernel_rfl)) h2 hn hlt2
  obtain ⟨A0, n0, c0, rfl⟩ := okWide_slice Tryd.underlying22 (hval 0 22 v0 rfl rfl)
  have key0 : ∃ l : List Rel, Reads W W.heap.size 6 A0 n0 (rels l) ∧ n0 ≤ c0 ∧ c0 ≤ 281474976710656 ∧ ∀ x ∈ l, RelWf x := by
    rcases open_rels h0 hlt0 with ⟨rfl, rfl, rfl⟩ | ⟨l, hc, ⟨es, sp, ed, hlen⟩, hR, hw⟩
    · exact ⟨[], Reads.none_, Nat.le_refl _, by omega, by simp⟩
    · refine ⟨l, hR, hc, ?_, hw⟩
      subst ed
      have := sized_slice hsz (j := 0) (t := 22) (e := 31) rfl rfl Tryd.underlying22
      rw [hlen, bytes31] at this
      simp only [reachBytes] at this
      omega
  obtain ⟨l0, hR0, hc0, hn0, hw0⟩ := key0
  obtain ⟨A1, n1, c1, rfl⟩ := okWide_slice Tryd.underlying35 (hval 1 35 v1 rfl rfl)
  have key1 : ∃ l : List Int, Reads W W.heap.size 1 A1 n1 (l.map (Value.int .u64)) ∧ n1 ≤ c1 ∧ c1 * 8 ≤ 140737488351232 ∧ ∀ x ∈ l, (Lit.int .u64 x).wf = true := by
    rcases open_row Tryd.underlying35 Tryd.underlying38 cells38 h1 hlt1 with ⟨rfl, rfl, rfl, ed⟩ | ⟨zs, hz, hl, ed, hR, hw⟩
    · exact ⟨[], Reads.none_, Nat.le_refl _, by omega, by simp⟩
    · refine ⟨zs.take n1, hR, hl, ?_, fun x hx => hw x (List.mem_of_mem_take hx)⟩
      subst ed
      have := sized_slice hsz (j := 1) (t := 35) (e := 38) rfl rfl Tryd.underlying35
      rw [bytes38] at this
      simp only [lits, List.length_map, List.length_take, List.length_drop, reachBytes] at this
      omega
  obtain ⟨l1, hR1, hc1, hn1, hw1⟩ := key1
  obtain ⟨a2, rfl, ed2, ep2, w2⟩ := open_int Tryd.underlying38 (hval 2 38 v2 rfl rfl) h2
  refine (excl_row A0 n0 c0 l0 hc0 hn0 hw0 A1 n1 c1 l1 hc1 hn1 hw1 a2 w2 W hE hR0 hR1).mono fun e W' ⟨he, hg⟩ => ?_
  subst he
  have hargs := (trodAll_cons_mk (hst0 _ hg) (trodAll_cons_mk (hst1 _ hg) (trodAll_cons_mk (hst2 _ hg) trodAll_mk0)))
  simp only [List.append_nil] at hargs
  exact ⟨_, rfl, _, _, _, [], _, [], hW', trodAll_cons_mk (shut_bool Tryd.underlying4 _) trodAll_mk0, hargs, rfl, hg.frame _, fun h => by cases h⟩
theorem over : Rows.TraitExclusiveSaid :=
  OpenClaim.holds_of_wide 7 Tryd.f7 rfl rfl rfl rfl rfl rfl rfl ⟨rfl, rfl, rfl, rfl, rfl⟩ rfl rfl rfl rfl rfl (by kernel_rfl) Tryd.func7 (by kernel_rfl)
    (of_decide_eq_true (by kernel_rfl)) (by unfold Func.isWrapper; first | (rw [if_pos (by decide +kernel)]; kernel_rfl) | (rw [if_neg (by decide +kernel)]; exact ⟨rfl, rfl⟩))
    (fun os started H enc _ => lifted os started H enc)
theorem proved : Rows.TraitExclusiveCardSaid :=
  Claim7.holds_tied_plain_at .later [] [.widerDeep] true (true, "5586f3765bb154a055e2aac0d61b747d16c0e172ec3ae02ee93ebadf71cb2720") false
    over (fun _ h => by cases h) (by kernel_rfl) (fun _ h => by cases h) traitExclusive_row_tie rfl ⟨rfl, rfl⟩ (by kernel_rfl) rfl
    (fun f fn hf hfn => by
      obtain rfl : f = 7 := Option.some.inj ((show Tryd.prog.funcNamed Rows.traitExclusiveRow.func = some 7 by kernel_rfl).symm.trans hf) |>.symm
      obtain rfl : fn = Tryd.f7 := (Option.some.inj (Tryd.func7.symm.trans hfn)).symm
      exact ⟨by kernel_rfl, fun j t ht => by
        rw [Tryd.params7] at ht
        have hm : t ∈ [22, 35, 38] := by simpa using Array.mem_of_getElem? ht
        have hall : ([22, 35, 38].all fun u => !Tryd.prog.wantsStandIn u) = true := by kernel_rfl
        exact (show Tryd.prog.wantsStandIn t = false by simpa using List.all_eq_true.1 hall t hm)⟩)
    (by kernel_rfl)
#print axioms proved
end Go.Proofs.YtibjelonabhcmaaDoor.traitExclusive
