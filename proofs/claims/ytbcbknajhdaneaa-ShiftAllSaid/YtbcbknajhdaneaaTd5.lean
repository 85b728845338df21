/- What is proved: contracts of the law's entity and small; what is known of a table from what it holds. what the contracts say of the law's small table. the law's wakes says yes. -/
import Derived.Test.YtbcbknajhdaneaaTd2
import Derived.Test.YtbcbknajhdaneaaOg
namespace Go.Proofs.Ytbcbknajhdaneaa
open Go.RowKit
set_option linter.unusedVariables false
set_option linter.unusedSimpArgs false
theorem entity_any (i g : Int) (hi : Part i) (hg : Part g) (w : World) : Calls Try.prog 60 #[.int .i64 i, .int .i64 g] w fun e w' => e = .returned (.int .u64 (0 + g * 4294967296 + i)) ∧ w = w' := by
  have cm := fun w => made_any 0 g i (.inl rfl) hg hi w
  generalize (0 + g * 4294967296 + i) = x at cm ⊢
  go_enter Try.func60, Try.ntmps60
  go_wp2_with (first | (go_at_call 30; refine (cm _).mono ?_; rintro en w2 ⟨rfl, rfl⟩) | fail)
  go_ret
  exact ⟨rfl, rfl⟩
/-- a table that can be read -/
def TabGot (p : PT) (w : World) (e : Ending) (w' : World) : Prop := ∃ t : Tab, e = .returned t.V ∧ t.p = p ∧ TabOk w' w'.heap.size t ∧ Below w.heap.size w w'
abbrev eC : Int := 4611686018427387905
abbrev eP : Int := 9223372049739677700
abbrev eA : Int := 5
abbrev eB : Int := 4294967302
abbrev smallP : PT := ([eC, eP], [(1, 2, [7, 8]), (0, 2, [])], [eA, eB])
theorem tabOk_of {ps : List PC} {A B : Option Addr} {An Ac Bn Bc : Nat} {l m : List Int} {v : Value} {F : List Col} {w w' : World} (hF : F.map Col.p = ps) (hA : Reads w' w'.heap.size 1 A An (ids l)) (hAc : An ≤ Ac ∧ Ac ≤ maxLen) (hAw : ∀ x ∈ l, Word x)
    (hB : Reads w' w'.heap.size 1 B Bn (ids m)) (hBc : Bn ≤ Bc ∧ Bc ≤ maxLen) (hBw : ∀ x ∈ m, Word x) (ho : w'.ownsRow w.heap.size 68 3 v F.length (cols F)) (hf : ∀ x ∈ F, ColFresh w' w.heap.size x) :
    ∃ t : Tab, .agg #[.slice A An Ac, v, .slice B Bn Bc] = t.V ∧ t.p = (l, ps, m) ∧ TabOk w' w'.heap.size t := by
  obtain ⟨C, c, rfl, h1, h2⟩ := own_cap ho
  exact ⟨⟨A, An, Ac, l, C, F.length, c, F, B, Bn, Bc, m⟩, rfl, by unfold Tab.p; simp only; rw [hF], hA, hAc, hAw, Reads.of_own ho, ⟨h1, by unfold maxLen; exact h2⟩, fun x hx => (hf x hx).1, hB, hBc, hBw⟩
theorem blk_reads {w : World} {g n : Nat} {t : TypeId} {cs : Array Value} (h : Blk w g t cs) (hn : cs.size = n) : Reads w w.heap.size 1 (some ⟨g, 0, none⟩) n cs.toList := by
  refine ⟨by simpa using hn, fun _ => ⟨_, rfl, h.lt, fun j x hx => ?_⟩⟩
  rw [add_none, Nat.zero_add, h.cell]
  simpa using hx
theorem word_all {l : List Int} (h : l.all (fun x => decide (0 ≤ x) && decide (x ≤ 18446744073709551615)) = true) : ∀ x ∈ l, Word x := fun x hx => by
  have h1 := List.all_eq_true.1 h x hx
  rw [Bool.and_eq_true] at h1
  exact ⟨of_decide_eq_true h1.1, of_decide_eq_true h1.2⟩
theorem rwOk_blk {w : World} {g n : Nat} {t : TypeId} {cs : Array Value} {l : List Int} (h : Blk w g t cs) (hl : cs.toList = ids l) (hn : l.length = n) (hw : l.all (fun x => decide (0 ≤ x) && decide (x ≤ 18446744073709551615)) = true) (hm : n ≤ 65536) : RwOk w w.heap.size ⟨some ⟨g, 0, none⟩, n, n, l⟩ :=
  ⟨by rw [← hl]; exact blk_reads h (by have := congrArg List.length hl; rw [ids_len] at this; simpa [hn] using this), Nat.le_refl _, by simp only [maxLen]; omega, word_all hw⟩
theorem small_world (w : World) : ∃ W, W = ((((((((((w.alloc (.cells #[.slice none 0 0, .slice none 0 0, .slice none 0 0] 25)).alloc (.cells #[.int .u64 4611686018427387905, .int .u64 9223372049739677700] 27)).alloc (.cells #[.int .i64 1, .int .i64 0] 3)).alloc (.cells #[.int .u64 5, .int .u64 4294967302] 27)).alloc (.cells #[.int .u64 7] 26)).alloc (.cells #[] 26)).alloc (.cells #[.slice (some ⟨w.heap.size + 1 + 1 + 1 + 1, 0, none⟩) 1 1, .slice (some ⟨w.heap.size + 1 + 1 + 1 + 1 + 1, 0, none⟩) 0 0] 44)).alloc (.cells #[.int .u64 8] 26)).alloc (.cells #[] 26)).alloc (.cells #[.slice (some ⟨w.heap.size + 1 + 1 + 1 + 1 + 1 + 1 + 1, 0, none⟩) 1 1, .slice (some ⟨w.heap.size + 1 + 1 + 1 + 1 + 1 + 1 + 1 + 1, 0, none⟩) 0 0] 44)).alloc (.cells #[.slice (some ⟨w.heap.size + 1 + 1 + 1 + 1 + 1 + 1, 0, none⟩) 2 2, .slice (some ⟨w.heap.size + 1 + 1 + 1 + 1 + 1 + 1 + 1 + 1 + 1, 0, none⟩) 2 2] 28) ∧ Blk W (w.heap.size) 25 #[.slice none 0 0, .slice none 0 0, .slice none 0 0] ∧ Blk W (w.heap.size + 1) 27 #[.int .u64 4611686018427387905, .int .u64 9223372049739677700] ∧ Blk W (w.heap.size + 1 + 1) 3 #[.int .i64 1, .int .i64 0] ∧ Blk W (w.heap.size + 1 + 1 + 1) 27 #[.int .u64 5, .int .u64 4294967302] ∧ Blk W (w.heap.size + 1 + 1 + 1 + 1) 26 #[.int .u64 7] ∧ Blk W (w.heap.size + 1 + 1 + 1 + 1 + 1) 26 #[] ∧ Blk W (w.heap.size + 1 + 1 + 1 + 1 + 1 + 1) 44 #[.slice (some ⟨w.heap.size + 1 + 1 + 1 + 1, 0, none⟩) 1 1, .slice (some ⟨w.heap.size + 1 + 1 + 1 + 1 + 1, 0, none⟩) 0 0] ∧ Blk W (w.heap.size + 1 + 1 + 1 + 1 + 1 + 1 + 1) 26 #[.int .u64 8] ∧ Blk W (w.heap.size + 1 + 1 + 1 + 1 + 1 + 1 + 1 + 1) 26 #[] ∧ Blk W (w.heap.size + 1 + 1 + 1 + 1 + 1 + 1 + 1 + 1 + 1) 44 #[.slice (some ⟨w.heap.size + 1 + 1 + 1 + 1 + 1 + 1 + 1, 0, none⟩) 1 1, .slice (some ⟨w.heap.size + 1 + 1 + 1 + 1 + 1 + 1 + 1 + 1, 0, none⟩) 0 0] ∧ Blk W (w.heap.size + 1 + 1 + 1 + 1 + 1 + 1 + 1 + 1 + 1 + 1) 28 #[.slice (some ⟨w.heap.size + 1 + 1 + 1 + 1 + 1 + 1, 0, none⟩) 2 2, .slice (some ⟨w.heap.size + 1 + 1 + 1 + 1 + 1 + 1 + 1 + 1 + 1, 0, none⟩) 2 2] ∧ W.heap.size = w.heap.size + 1 + 1 + 1 + 1 + 1 + 1 + 1 + 1 + 1 + 1 + 1 ∧ Below w.heap.size w W := by
  refine ⟨_, rfl, ?_, ?_, ?_, ?_, ?_, ?_, ?_, ?_, ?_, ?_, ?_, ?_, ?_⟩
  · have h := Blk.new w 25 #[.slice none 0 0, .slice none 0 0, .slice none 0 0]
    exact ((((((((((h.alloc _).alloc _).alloc _).alloc _).alloc _).alloc _).alloc _).alloc _).alloc _).alloc _)
  · have h := Blk.new (w.alloc (.cells #[.slice none 0 0, .slice none 0 0, .slice none 0 0] 25)) 27 #[.int .u64 4611686018427387905, .int .u64 9223372049739677700]
    rw [World.size_alloc] at h
    exact (((((((((h.alloc _).alloc _).alloc _).alloc _).alloc _).alloc _).alloc _).alloc _).alloc _)
  · have h := Blk.new ((w.alloc (.cells #[.slice none 0 0, .slice none 0 0, .slice none 0 0] 25)).alloc (.cells #[.int .u64 4611686018427387905, .int .u64 9223372049739677700] 27)) 3 #[.int .i64 1, .int .i64 0]
    rw [World.size_alloc, World.size_alloc] at h
    exact ((((((((h.alloc _).alloc _).alloc _).alloc _).alloc _).alloc _).alloc _).alloc _)
  · have h := Blk.new (((w.alloc (.cells #[.slice none 0 0, .slice none 0 0, .slice none 0 0] 25)).alloc (.cells #[.int .u64 4611686018427387905, .int .u64 9223372049739677700] 27)).alloc (.cells #[.int .i64 1, .int .i64 0] 3)) 27 #[.int .u64 5, .int .u64 4294967302]
    rw [World.size_alloc, World.size_alloc, World.size_alloc] at h
    exact (((((((h.alloc _).alloc _).alloc _).alloc _).alloc _).alloc _).alloc _)
  · have h := Blk.new ((((w.alloc (.cells #[.slice none 0 0, .slice none 0 0, .slice none 0 0] 25)).alloc (.cells #[.int .u64 4611686018427387905, .int .u64 9223372049739677700] 27)).alloc (.cells #[.int .i64 1, .int .i64 0] 3)).alloc (.cells #[.int .u64 5, .int .u64 4294967302] 27)) 26 #[.int .u64 7]
    rw [World.size_alloc, World.size_alloc, World.size_alloc, World.size_alloc] at h
    exact ((((((h.alloc _).alloc _).alloc _).alloc _).alloc _).alloc _)
  · have h := Blk.new (((((w.alloc (.cells #[.slice none 0 0, .slice none 0 0, .slice none 0 0] 25)).alloc (.cells #[.int .u64 4611686018427387905, .int .u64 9223372049739677700] 27)).alloc (.cells #[.int .i64 1, .int .i64 0] 3)).alloc (.cells #[.int .u64 5, .int .u64 4294967302] 27)).alloc (.cells #[.int .u64 7] 26)) 26 #[]
    rw [World.size_alloc, World.size_alloc, World.size_alloc, World.size_alloc, World.size_alloc] at h
    exact (((((h.alloc _).alloc _).alloc _).alloc _).alloc _)
  · have h := Blk.new ((((((w.alloc (.cells #[.slice none 0 0, .slice none 0 0, .slice none 0 0] 25)).alloc (.cells #[.int .u64 4611686018427387905, .int .u64 9223372049739677700] 27)).alloc (.cells #[.int .i64 1, .int .i64 0] 3)).alloc (.cells #[.int .u64 5, .int .u64 4294967302] 27)).alloc (.cells #[.int .u64 7] 26)).alloc (.cells #[] 26)) 44 #[.slice (some ⟨w.heap.size + 1 + 1 + 1 + 1, 0, none⟩) 1 1, .slice (some ⟨w.heap.size + 1 + 1 + 1 + 1 + 1, 0, none⟩) 0 0]
    rw [World.size_alloc, World.size_alloc, World.size_alloc, World.size_alloc, World.size_alloc, World.size_alloc] at h
    exact ((((h.alloc _).alloc _).alloc _).alloc _)
  · have h := Blk.new (((((((w.alloc (.cells #[.slice none 0 0, .slice none 0 0, .slice none 0 0] 25)).alloc (.cells #[.int .u64 4611686018427387905, .int .u64 9223372049739677700] 27)).alloc (.cells #[.int .i64 1, .int .i64 0] 3)).alloc (.cells #[.int .u64 5, .int .u64 4294967302] 27)).alloc (.cells #[.int .u64 7] 26)).alloc (.cells #[] 26)).alloc (.cells #[.slice (some ⟨w.heap.size + 1 + 1 + 1 + 1, 0, none⟩) 1 1, .slice (some ⟨w.heap.size + 1 + 1 + 1 + 1 + 1, 0, none⟩) 0 0] 44)) 26 #[.int .u64 8]
    rw [World.size_alloc, World.size_alloc, World.size_alloc, World.size_alloc, World.size_alloc, World.size_alloc, World.size_alloc] at h
    exact (((h.alloc _).alloc _).alloc _)
  · have h := Blk.new ((((((((w.alloc (.cells #[.slice none 0 0, .slice none 0 0, .slice none 0 0] 25)).alloc (.cells #[.int .u64 4611686018427387905, .int .u64 9223372049739677700] 27)).alloc (.cells #[.int .i64 1, .int .i64 0] 3)).alloc (.cells #[.int .u64 5, .int .u64 4294967302] 27)).alloc (.cells #[.int .u64 7] 26)).alloc (.cells #[] 26)).alloc (.cells #[.slice (some ⟨w.heap.size + 1 + 1 + 1 + 1, 0, none⟩) 1 1, .slice (some ⟨w.heap.size + 1 + 1 + 1 + 1 + 1, 0, none⟩) 0 0] 44)).alloc (.cells #[.int .u64 8] 26)) 26 #[]
    rw [World.size_alloc, World.size_alloc, World.size_alloc, World.size_alloc, World.size_alloc, World.size_alloc, World.size_alloc, World.size_alloc] at h
    exact ((h.alloc _).alloc _)
  · have h := Blk.new (((((((((w.alloc (.cells #[.slice none 0 0, .slice none 0 0, .slice none 0 0] 25)).alloc (.cells #[.int .u64 4611686018427387905, .int .u64 9223372049739677700] 27)).alloc (.cells #[.int .i64 1, .int .i64 0] 3)).alloc (.cells #[.int .u64 5, .int .u64 4294967302] 27)).alloc (.cells #[.int .u64 7] 26)).alloc (.cells #[] 26)).alloc (.cells #[.slice (some ⟨w.heap.size + 1 + 1 + 1 + 1, 0, none⟩) 1 1, .slice (some ⟨w.heap.size + 1 + 1 + 1 + 1 + 1, 0, none⟩) 0 0] 44)).alloc (.cells #[.int .u64 8] 26)).alloc (.cells #[] 26)) 44 #[.slice (some ⟨w.heap.size + 1 + 1 + 1 + 1 + 1 + 1 + 1, 0, none⟩) 1 1, .slice (some ⟨w.heap.size + 1 + 1 + 1 + 1 + 1 + 1 + 1 + 1, 0, none⟩) 0 0]
    rw [World.size_alloc, World.size_alloc, World.size_alloc, World.size_alloc, World.size_alloc, World.size_alloc, World.size_alloc, World.size_alloc, World.size_alloc] at h
    exact (h.alloc _)
  · have h := Blk.new ((((((((((w.alloc (.cells #[.slice none 0 0, .slice none 0 0, .slice none 0 0] 25)).alloc (.cells #[.int .u64 4611686018427387905, .int .u64 9223372049739677700] 27)).alloc (.cells #[.int .i64 1, .int .i64 0] 3)).alloc (.cells #[.int .u64 5, .int .u64 4294967302] 27)).alloc (.cells #[.int .u64 7] 26)).alloc (.cells #[] 26)).alloc (.cells #[.slice (some ⟨w.heap.size + 1 + 1 + 1 + 1, 0, none⟩) 1 1, .slice (some ⟨w.heap.size + 1 + 1 + 1 + 1 + 1, 0, none⟩) 0 0] 44)).alloc (.cells #[.int .u64 8] 26)).alloc (.cells #[] 26)).alloc (.cells #[.slice (some ⟨w.heap.size + 1 + 1 + 1 + 1 + 1 + 1 + 1, 0, none⟩) 1 1, .slice (some ⟨w.heap.size + 1 + 1 + 1 + 1 + 1 + 1 + 1 + 1, 0, none⟩) 0 0] 44)) 28 #[.slice (some ⟨w.heap.size + 1 + 1 + 1 + 1 + 1 + 1, 0, none⟩) 2 2, .slice (some ⟨w.heap.size + 1 + 1 + 1 + 1 + 1 + 1 + 1 + 1 + 1, 0, none⟩) 2 2]
    rw [World.size_alloc, World.size_alloc, World.size_alloc, World.size_alloc, World.size_alloc, World.size_alloc, World.size_alloc, World.size_alloc, World.size_alloc, World.size_alloc] at h
    exact h
  · simp only [World.size_alloc]
  · exact ((((((((((((Below.refl w.heap.size w).alloc (by first | exact Nat.le_refl _ | (simp only [World.size_alloc]; omega)) _).alloc (by first | exact Nat.le_refl _ | (simp only [World.size_alloc]; omega)) _).alloc (by first | exact Nat.le_refl _ | (simp only [World.size_alloc]; omega)) _).alloc (by first | exact Nat.le_refl _ | (simp only [World.size_alloc]; omega)) _).alloc (by first | exact Nat.le_refl _ | (simp only [World.size_alloc]; omega)) _).alloc (by first | exact Nat.le_refl _ | (simp only [World.size_alloc]; omega)) _).alloc (by first | exact Nat.le_refl _ | (simp only [World.size_alloc]; omega)) _).alloc (by first | exact Nat.le_refl _ | (simp only [World.size_alloc]; omega)) _).alloc (by first | exact Nat.le_refl _ | (simp only [World.size_alloc]; omega)) _).alloc (by first | exact Nat.le_refl _ | (simp only [World.size_alloc]; omega)) _).alloc (by first | exact Nat.le_refl _ | (simp only [World.size_alloc]; omega)) _)
set_option maxRecDepth 100000 in
set_option maxHeartbeats 4000000 in
theorem small_any (w : World) : Calls Try.prog 59 #[] w (TabGot smallP w) := by
  obtain ⟨W, hW, k0, k1, k2, k3, k4, k5, k6, k7, k8, k9, k10, hsz, hB⟩ := small_world w
  have r4 := rwOk_blk (l := [7]) (n := 1) k4 rfl rfl rfl (by omega)
  have r5 := rwOk_blk (l := []) (n := 0) k5 rfl rfl rfl (by omega)
  have r7 := rwOk_blk (l := [8]) (n := 1) k7 rfl rfl rfl (by omega)
  have r8 := rwOk_blk (l := []) (n := 0) k8 rfl rfl rfl (by omega)
  have co := of_any (some ⟨w.heap.size + 1, 0, none⟩) 2 2 (some ⟨w.heap.size + 1 + 1, 0, none⟩) 2 2 [1, 0] (some ⟨w.heap.size + 1 + 1 + 1, 0, none⟩) 2 2 (some ⟨w.heap.size + 1 + 1 + 1 + 1 + 1 + 1 + 1 + 1 + 1 + 1, 0, none⟩) 2 2
    [⟨some ⟨w.heap.size + 1 + 1 + 1 + 1 + 1 + 1, 0, none⟩, 2, 2, [⟨some ⟨w.heap.size + 1 + 1 + 1 + 1, 0, none⟩, 1, 1, [7]⟩, ⟨some ⟨w.heap.size + 1 + 1 + 1 + 1 + 1, 0, none⟩, 0, 0, []⟩]⟩, ⟨some ⟨w.heap.size + 1 + 1 + 1 + 1 + 1 + 1 + 1 + 1 + 1, 0, none⟩, 2, 2, [⟨some ⟨w.heap.size + 1 + 1 + 1 + 1 + 1 + 1 + 1, 0, none⟩, 1, 1, [8]⟩, ⟨some ⟨w.heap.size + 1 + 1 + 1 + 1 + 1 + 1 + 1 + 1, 0, none⟩, 0, 0, []⟩]⟩] W
    (blk_reads k2 rfl) (blk_reads k10 rfl)
    (by
      intro g hg
      simp only [List.mem_cons, List.not_mem_nil, or_false] at hg
      rcases hg with rfl | rfl
      · exact ⟨blk_reads k6 rfl, ⟨by simp, by simp only [maxLen]; omega⟩, fun v hv => by
          simp only [List.mem_cons, List.not_mem_nil, or_false] at hv
          rcases hv with rfl | rfl
          · exact r4
          · exact r5⟩
      · exact ⟨blk_reads k9 rfl, ⟨by simp, by simp only [maxLen]; omega⟩, fun v hv => by
          simp only [List.mem_cons, List.not_mem_nil, or_false] at hv
          rcases hv with rfl | rfl
          · exact r7
          · exact r8⟩)
    (by intro g hg; simp only [List.mem_cons, List.not_mem_nil, or_false] at hg; rcases hg with rfl | rfl <;> simp)
    (by
      intro k
      unfold colOf vls Gr.vl
      match k with
      | 0 => simp
      | 1 => simp
      | k + 2 => simp)
    (by omega) (by omega) (by omega)
  have e2 : ofL (vls [⟨some ⟨w.heap.size + 1 + 1 + 1 + 1 + 1 + 1, 0, none⟩, 2, 2, [⟨some ⟨w.heap.size + 1 + 1 + 1 + 1, 0, none⟩, 1, 1, [7]⟩, ⟨some ⟨w.heap.size + 1 + 1 + 1 + 1 + 1, 0, none⟩, 0, 0, []⟩]⟩, ⟨some ⟨w.heap.size + 1 + 1 + 1 + 1 + 1 + 1 + 1 + 1 + 1, 0, none⟩, 2, 2, [⟨some ⟨w.heap.size + 1 + 1 + 1 + 1 + 1 + 1 + 1, 0, none⟩, 1, 1, [8]⟩, ⟨some ⟨w.heap.size + 1 + 1 + 1 + 1 + 1 + 1 + 1 + 1, 0, none⟩, 0, 0, []⟩]⟩]) ((2 : Nat) : Int) 0 [1, 0] = [(1, 2, [7, 8]), (0, 2, [])] := rfl
  rw [e2] at co
  unfold OfR at co
  have HW := Lib.hid hW
  have K0 := Lib.hid k0
  have K1 := Lib.hid k1
  have K3 := Lib.hid k3
  have HB := Lib.hid hB
  clear hW k0 k1 k2 k3 k4 k5 k6 k7 k8 k9 k10 r4 r5 r7 r8 e2 hsz hB
  go_enter Try.func59, Try.ntmps59
  go_wp2_with (first
    | (go_at_call 30; refine (made_any _ _ _ (by first | exact .inl rfl | exact .inr (.inl rfl) | exact .inr (.inr rfl)) ⟨by decide, by decide⟩ ⟨by decide, by decide⟩ _).mono ?_; rintro en w2 ⟨rfl, rfl⟩)
    | (go_at_call 60; refine (entity_any _ _ ⟨by decide, by decide⟩ ⟨by decide, by decide⟩ _).mono ?_; rintro en w2 ⟨rfl, rfl⟩)
    | (go_at_call 47; ((rw [← HW.out]); (with_reducible refine co.mono ?_); rintro en w2 ⟨v, F, rfl, ho, hp, hf, hb2⟩; obtain ⟨CA, Cc, rfl⟩ := own_slice ho; have z0 := blk_below K0.out hb2; obtain ⟨⟨y0, y1, y2⟩, yf⟩ := blk_cells3 z0; have yf0 := yf 0; have yf1 := yf 1; have yf2 := yf 2; have Z0 := Lib.hid z0; have HO := Lib.hid ho; have HP := Lib.hid hp; have HF := Lib.hid hf; have HB2 := Lib.hid hb2; clear z0 yf ho hp hf hb2))
    | fail)
  refine bodyPost_ret (v := .agg #[.slice (some ⟨w.heap.size + 1, 0, none⟩) 2 2, .slice CA F.length Cc, .slice (some ⟨w.heap.size + 1 + 1 + 1, 0, none⟩) 2 2]) (by simp [results, Try.results59, go_sem, *]) rfl ?_
  have hb5 := below_set3 (a := .slice (some ⟨w.heap.size + 1, 0, none⟩) 2 2) (b := .slice CA F.length Cc) (c := .slice (some ⟨w.heap.size + 1 + 1 + 1, 0, none⟩) 2 2) (HB.out.trans (HB2.out.mono HB.out.size)) (Nat.le_refl _)
  have ho5 := HO.out.kept (grown_set3 _ _ (.slice (some ⟨w.heap.size + 1, 0, none⟩) 2 2) (.slice CA F.length Cc) (.slice (some ⟨w.heap.size + 1 + 1 + 1, 0, none⟩) 2 2)) (.inr (own_blk_ne HO.out Z0.out (by decide)))
  have k15 := ((((blk_below K1.out HB2.out).far (p := ⟨w.heap.size, 0, none⟩) (by simp) (.slice (some ⟨w.heap.size + 1, 0, none⟩) 2 2)).far (p := ⟨w.heap.size, 1, none⟩) (by simp) (.slice CA F.length Cc)).far (p := ⟨w.heap.size, 2, none⟩) (by simp) (.slice (some ⟨w.heap.size + 1 + 1 + 1, 0, none⟩) 2 2))
  have k35 := ((((blk_below K3.out HB2.out).far (p := ⟨w.heap.size, 0, none⟩) (by simp; omega) (.slice (some ⟨w.heap.size + 1, 0, none⟩) 2 2)).far (p := ⟨w.heap.size, 1, none⟩) (by simp; omega) (.slice CA F.length Cc)).far (p := ⟨w.heap.size, 2, none⟩) (by simp; omega) (.slice (some ⟨w.heap.size + 1 + 1 + 1, 0, none⟩) 2 2))
  obtain ⟨t, ht, htp, hto⟩ := tabOk_of (w := W) (l := [4611686018427387905, 9223372049739677700]) (m := [5, 4294967302]) (An := 2) (Bn := 2) (Ac := 2) (Bc := 2) HP.out (blk_reads k15 rfl) ⟨by omega, by simp only [maxLen]; omega⟩ (word_all rfl) (blk_reads k35 rfl) ⟨by omega, by simp only [maxLen]; omega⟩ (word_all rfl) ho5
    (fun x hx => fresh_set3 (HF.out x hx) Z0.out (by decide) _ _ _)
  exact ⟨t, by rw [ht], htp, hto, hb5⟩
end Go.Proofs.Ytbcbknajhdaneaa
namespace Go.Proofs.Ytbcbknajhdaneaa
open Go.RowKit
set_option linter.unusedVariables false
set_option linter.unusedSimpArgs false
def smallT (TA : Option Addr) (Tc : Nat) (CA : Option Addr) (Cc : Nat) (A0 : Option Addr) (c0 : Nat) (A1 : Option Addr) (c1 : Nat) (EA : Option Addr) (Ec : Nat) : Tab :=
  ⟨TA, 2, Tc, [eC, eP], CA, 2, Cc, [⟨1, 2, A0, 2, c0, [7, 8]⟩, ⟨0, 2, A1, 0, c1, []⟩], EA, 2, Ec, [eA, eB]⟩
theorem small_shape {t : Tab} {w : World} {B : Nat} (h : TabOk w B t) (hp : t.p = smallP) : ∃ TA Tc CA Cc A0 c0 A1 c1 EA Ec, t = smallT TA Tc CA Cc A0 c0 A1 c1 EA Ec := by
  have hl := h.len
  have hc := h.csok
  obtain ⟨TA, Tn, Tc, ty, CA, Cn, Cc, F, EA, En, Ec, es⟩ := t
  unfold Tab.p at hp
  simp only at *
  injection hp with h1 h2
  injection h2 with h2 h3
  subst h1 h3
  have hlen : F.length = 2 := by have := congrArg List.length h2; simpa using this
  obtain ⟨x, y, rfl⟩ : ∃ x y, F = [x, y] := by
    cases F with
    | nil => simp at hlen
    | cons x F =>
      cases F with
      | nil => simp at hlen
      | cons y F =>
        cases F with
        | nil => exact ⟨x, y, rfl⟩
        | cons z F => simp at hlen
  simp only [List.map_cons, List.map_nil, List.cons.injEq, and_true] at h2
  obtain ⟨hx, hy⟩ := h2
  have hxo := (hc x (by simp)).1.1
  have hyo := (hc y (by simp)).1.1
  rw [ids_len] at hxo hyo
  obtain ⟨xW, xR, xA, xn, xc, xl⟩ := x
  obtain ⟨yW, yR, yA, yn, yc, yl⟩ := y
  unfold Col.p at hx hy
  simp only [Prod.mk.injEq] at hx hy
  obtain ⟨rfl, rfl, rfl⟩ := hx
  obtain ⟨rfl, rfl, rfl⟩ := hy
  simp only [List.length_cons, List.length_nil] at hl hxo hyo
  obtain ⟨rfl, rfl, rfl⟩ := hl
  have e1 : xn = 2 := by omega
  have e2 : yn = 0 := by omega
  subst e1 e2
  exact ⟨TA, Tc, CA, Cc, xA, xc, yA, yc, EA, Ec, rfl⟩
section
variable (TA : Option Addr) (Tc : Nat) (CA : Option Addr) (Cc : Nat) (A0 : Option Addr) (c0 : Nat) (A1 : Option Addr) (c1 : Nat) (EA : Option Addr) (Ec : Nat)
theorem small_b : tabB (smallT TA Tc CA Cc A0 c0 A1 c1 EA Ec) = true := by kernel_rfl
theorem small_rowI : rowI (smallT TA Tc CA Cc A0 c0 A1 c1 EA Ec) eB = 1 := by kernel_rfl
theorem small_rowK : rowK (smallT TA Tc CA Cc A0 c0 A1 c1 EA Ec) eB = true := by kernel_rfl
theorem small_getE : tgE (smallT TA Tc CA Cc A0 c0 A1 c1 EA Ec) 1 eC = 0 := by kernel_rfl
theorem small_getL : tgL (smallT TA Tc CA Cc A0 c0 A1 c1 EA Ec) 1 eC = [8] := by kernel_rfl
theorem small_swpP : tswP (smallT TA Tc CA Cc A0 c0 A1 c1 EA Ec) 0 = ([eC, eP], [(1, 1, [8]), (0, 1, [])], [eB]) := by kernel_rfl
theorem small_swpM : tswM (smallT TA Tc CA Cc A0 c0 A1 c1 EA Ec) 0 = eB := by kernel_rfl
theorem small_at : atE (smallT TA Tc CA Cc A0 c0 A1 c1 EA Ec) 0 = 0 := by kernel_rfl
theorem small_push (x y : Rw) : tpuE (smallT TA Tc CA Cc A0 c0 A1 c1 EA Ec) 12884901893 [x, y] = 5 := by kernel_rfl
end
theorem small_sm {TA : Option Addr} {Tc : Nat} {CA : Option Addr} {Cc : Nat} {A0 : Option Addr} {c0 : Nat} {A1 : Option Addr} {c1 : Nat} {EA : Option Addr} {Ec : Nat} : TabSm (smallT TA Tc CA Cc A0 c0 A1 c1 EA Ec) := by
  refine ⟨by show 2 ≤ _; omega, by show 2 ≤ _; omega, by show 2 ≤ _; omega, ?_⟩
  intro x hx
  unfold smallT at hx
  simp only [List.mem_cons, List.not_mem_nil, or_false] at hx
  rcases hx with rfl | rfl
  · show 2 ≤ _; omega
  · show 0 ≤ _; omega
end Go.Proofs.Ytbcbknajhdaneaa
namespace Go.Proofs.Ytbcbknajhdaneaa
open Go.RowKit
set_option linter.unusedVariables false
set_option linter.unusedSimpArgs false
theorem equal_v1 (A : Option Addr) (n c : Nat) (l : List Int) (A2 : Option Addr) (n2 c2 : Nat) (l2 : List Int) (w : World) (hR : Reads w w.heap.size 1 A n (ids l)) (hR2 : Reads w w.heap.size 1 A2 n2 (ids l2)) (hn : n ≤ 281474976710656) (hn2 : n2 ≤ 281474976710656) :
    Calls Try.prog 61 #[.slice A n c, .slice A2 n2 c2] w fun e w' => e = .returned (.bool (l == l2)) ∧ Below w.heap.size w w' := equal_v A n c l A2 n2 c2 l2 w hR hR2 hn hn2
set_option maxRecDepth 100000 in
set_option maxHeartbeats 16000000 in
theorem wakes_any (w : World) : Calls Try.prog 13 #[] w fun e w' => e = .returned (.bool true) ∧ Below w.heap.size w w' := by
  have cs := fun w => small_any w
  unfold TabGot at cs
  have ce6 : ∀ w, Calls Try.prog 60 #[.int .i64 6, .int .i64 1] w fun e w' => e = .returned (.int .u64 4294967302) ∧ w = w' := by intro w; have h := entity_any 6 1 ⟨by decide, by decide⟩ ⟨by decide, by decide⟩ w; rw [show ((0 : Int) + 1 * 4294967296 + 6) = 4294967302 from by decide] at h; exact h
  have ce5 : ∀ w, Calls Try.prog 60 #[.int .i64 5, .int .i64 3] w fun e w' => e = .returned (.int .u64 12884901893) ∧ w = w' := by intro w; have h := entity_any 5 3 ⟨by decide, by decide⟩ ⟨by decide, by decide⟩ w; rw [show ((0 : Int) + 3 * 4294967296 + 5) = 12884901893 from by decide] at h; exact h
  generalize hpost : (fun e w' => e = Ending.returned (.bool true) ∧ Below w.heap.size w w') = POST
  have HPO := Lib.hid hpost
  clear hpost
  go_enter Try.func13, Try.ntmps13
  go_wp2_with (first
    | (go_at_call 59; ((with_reducible refine (cs _).mono ?_); rintro en w2 ⟨t, rfl, htp, hto, hb⟩; obtain ⟨TA, Tc, CA, Cc, A0, c0, A1, c1, EA, Ec, rfl⟩ := small_shape hto htp; clear htp cs; unfold Tab.V))
    | fail)
  obtain ⟨W0, hW0⟩ : ∃ W0, W0 = w2.alloc (.cells #[.slice (smallT TA Tc CA Cc A0 c0 A1 c1 EA Ec).TA (smallT TA Tc CA Cc A0 c0 A1 c1 EA Ec).Tn (smallT TA Tc CA Cc A0 c0 A1 c1 EA Ec).Tc, .slice (smallT TA Tc CA Cc A0 c0 A1 c1 EA Ec).CA (smallT TA Tc CA Cc A0 c0 A1 c1 EA Ec).Cn (smallT TA Tc CA Cc A0 c0 A1 c1 EA Ec).Cc, .slice (smallT TA Tc CA Cc A0 c0 A1 c1 EA Ec).EA (smallT TA Tc CA Cc A0 c0 A1 c1 EA Ec).En (smallT TA Tc CA Cc A0 c0 A1 c1 EA Ec).Ec] 25) := ⟨_, rfl⟩
  rw [← hW0]
  have k0 := Blk.new w2 25 #[.slice (smallT TA Tc CA Cc A0 c0 A1 c1 EA Ec).TA (smallT TA Tc CA Cc A0 c0 A1 c1 EA Ec).Tn (smallT TA Tc CA Cc A0 c0 A1 c1 EA Ec).Tc, .slice (smallT TA Tc CA Cc A0 c0 A1 c1 EA Ec).CA (smallT TA Tc CA Cc A0 c0 A1 c1 EA Ec).Cn (smallT TA Tc CA Cc A0 c0 A1 c1 EA Ec).Cc, .slice (smallT TA Tc CA Cc A0 c0 A1 c1 EA Ec).EA (smallT TA Tc CA Cc A0 c0 A1 c1 EA Ec).En (smallT TA Tc CA Cc A0 c0 A1 c1 EA Ec).Ec]
  have hB : Below w2.heap.size w2 W0 := by rw [hW0]; exact (Below.refl _ _).alloc (Nat.le_refl _) _
  rw [← hW0] at k0
  have hBW : Below w.heap.size w W0 := hb.trans (hB.mono hb.size)
  have hT := (hto.keep hB).more hB.size
  have hsz : w2.heap.size < W0.heap.size := k0.lt
  have hty := hT.ty
  have cr := fun (W : World) (h : Below W0.heap.size W0 W) => trow_any (smallT TA Tc CA Cc A0 c0 A1 c1 EA Ec) 4294967302 W ((hT.keep h).more h.size) small_sm
  have cg := fun (W : World) (h : Below W0.heap.size W0 W) => tget_any (smallT TA Tc CA Cc A0 c0 A1 c1 EA Ec) 1 4611686018427387905 W ((hT.keep h).more h.size) small_sm
  have cw := fun (W : World) (h : Below W0.heap.size W0 W) => tswap_any (smallT TA Tc CA Cc A0 c0 A1 c1 EA Ec) 0 W ((hT.keep h).more h.size) small_sm ⟨by show 2 ≤ _; omega, by show 2 ≤ _; omega, by show 2 ≤ _; omega⟩
  have cp := fun (W : World) (h : Below W0.heap.size W0 W) (x y : Rw) (A : Option Addr) (hR : Reads W W.heap.size 1 A 2 (rws [x, y])) (hx : RwOk W W.heap.size x) (hy : RwOk W W.heap.size y) => tpush_any (smallT TA Tc CA Cc A0 c0 A1 c1 EA Ec) 12884901893 ⟨by decide, by decide⟩ A 2 2 [x, y] W ((hT.keep h).more h.size) small_sm ⟨by show 2 ≤ _; omega, by show 2 ≤ _; omega, by show 2 ≤ _; omega⟩ hR (by
    intro v hv
    simp only [List.mem_cons, List.not_mem_nil, or_false] at hv
    rcases hv with rfl | rfl
    · exact hx
    · exact hy) (by omega)
  simp only [small_rowI, small_rowK] at cr
  simp only [small_getE, small_getL] at cg
  simp only [small_swpP, small_swpM, small_at] at cw
  have hpe : ∀ x y, SetR (tpuP (smallT TA Tc CA Cc A0 c0 A1 c1 EA Ec) 12884901893 [x, y]) (tpuE (smallT TA Tc CA Cc A0 c0 A1 c1 EA Ec) 12884901893 [x, y]) = SetR noT 5 := fun x y => by
    have h5 := small_push TA Tc CA Cc A0 c0 A1 c1 EA Ec x y
    unfold tpuP
    rw [h5, if_neg (by decide)]
  simp only [hpe] at cp
  clear hpe
  obtain ⟨ba, off, hTA, hba, hc0⟩ : ∃ b off, TA = some ⟨b, off, none⟩ ∧ b < W0.heap.size ∧ W0.cell? ⟨b, off, none⟩ = some (.int .u64 4611686018427387905) := by
    obtain ⟨b, off, e, hb, hc⟩ := ids_cell hty (k := 0) (x := 4611686018427387905) rfl
    exact ⟨b, off, e, hb, hc⟩
  subst hTA
  unfold eB at cw
  unfold smallT Tab.V at cr cg cw cp
  unfold smallT at k0 hW0 ⊢
  simp only at cr cg cw cp k0 hW0 ⊢
  clear hW0 hto hT hty hb hB
  generalize w2.heap.size = tb at *
  obtain ⟨⟨s0', s1', s2'⟩, _⟩ := blk_cells3 k0
  have HCC := Lib.hid (fun (W : World) (hb : Below W0.heap.size W0 W) => And.intro (cell_below' hb s0' hsz) (And.intro (cell_below' hb s1' hsz) (And.intro (cell_below' hb s2' hsz) (cell_below' hb hc0 hba))))
  have hbA := (Below.refl W0.heap.size W0).drew
  refine wp_region_held_drew (S := fun w' => w'.cell? ⟨tb, 0, none⟩ = some (.slice (some ⟨ba, off, none⟩) 2 Tc) ∧ w'.cell? ⟨tb, 1, none⟩ = some (.slice CA 2 Cc) ∧ w'.cell? ⟨tb, 2, none⟩ = some (.slice EA 2 Ec)) (by kernel_rfl) ⟨s0', s1', s2'⟩ (fun hHeld => ?_)
  refine wpAnyH_take (i := 0) (oi := _) (v := ?_) rfl (by kernel_rfl) (by kernel_rfl) (by kernel_rfl) (fun _ _ _ h => h) (Or.inl ⟨by rfl, ?_⟩) hHeld ?_
  rotate_left
  · intro w hSw; obtain ⟨s0, s1, s2⟩ := hSw; go_simp; try with_reducible rfl
  simp only [Act.put, List.getElem_toArray, List.getElem_cons_succ, List.getElem_cons_zero, List.setIfInBounds_toArray, List.set_cons_zero, List.set_cons_succ]
  refine wpAnyH_ready (rs := [1]) (by kernel_rfl) (by simp) (AllReadyH.cons (o := _) rfl (fun K hK => ?_) AllReadyH.nil)
  go_simp
  refine (ce6 _).mono ?_
  rintro en w4 ⟨rfl, rfl⟩
  refine hK.out _ _ hHeld (fun hHeld => ?_)
  clear hK K
  try simp only [Act.put, List.getElem_toArray, List.getElem_cons_succ, List.getElem_cons_zero, List.setIfInBounds_toArray, List.set_cons_zero, List.set_cons_succ]
  refine wpAnyH_ready (rs := [2]) (by kernel_rfl) (by simp) (AllReadyH.cons (o := _) rfl (fun K hK => ?_) AllReadyH.nil)
  go_simp
  refine (cr _ hbA).mono ?_
  rintro en w4 ⟨rfl, hb4⟩
  have hb4 := hbA.trans (hb4.mono hbA.size)
  obtain ⟨u0, u1, u2, u3⟩ := HCC.out _ hb4
  refine hK.out _ _ ⟨u0, u1, u2⟩ (fun hHeld => ?_)
  clear hK K
  try simp only [Act.put, List.getElem_toArray, List.getElem_cons_succ, List.getElem_cons_zero, List.setIfInBounds_toArray, List.set_cons_zero, List.set_cons_succ]
  refine wpAnyH_take (i := 3) (oi := _) (v := ?_) rfl (by kernel_rfl) (by kernel_rfl) (by kernel_rfl) (fun _ _ _ h => h) (Or.inl ⟨by rfl, ?_⟩) hHeld ?_
  rotate_left
  · intro w hSw; obtain ⟨s0, s1, s2⟩ := hSw; go_simp; try with_reducible rfl
  simp only [Act.put, List.getElem_toArray, List.getElem_cons_succ, List.getElem_cons_zero, List.setIfInBounds_toArray, List.set_cons_zero, List.set_cons_succ]
  refine wpAnyH_take (i := 4) (oi := _) (v := ?_) rfl (by kernel_rfl) (by kernel_rfl) (by kernel_rfl) (fun _ _ _ h => h) (Or.inl ⟨by rfl, ?_⟩) hHeld ?_
  rotate_left
  · intro w hSw; obtain ⟨s0, s1, s2⟩ := hSw; go_simp; try with_reducible rfl
  simp only [Act.put, List.getElem_toArray, List.getElem_cons_succ, List.getElem_cons_zero, List.setIfInBounds_toArray, List.set_cons_zero, List.set_cons_succ]
  refine wpAnyH_take (i := 5) (oi := _) (v := ?_) rfl (by kernel_rfl) (by kernel_rfl) (by kernel_rfl) (fun _ _ _ h => h) (Or.inl ⟨by rfl, ?_⟩) hHeld ?_
  rotate_left
  · intro w hSw; obtain ⟨s0, s1, s2⟩ := hSw; go_simp; try with_reducible rfl
  simp only [Act.put, List.getElem_toArray, List.getElem_cons_succ, List.getElem_cons_zero, List.setIfInBounds_toArray, List.set_cons_zero, List.set_cons_succ]
  refine wpAnyH_take (i := 6) (oi := _) (v := ?_) rfl (by kernel_rfl) (by kernel_rfl) (by kernel_rfl) (fun _ _ _ h => h) (Or.inl ⟨by rfl, ?_⟩) hHeld ?_
  rotate_left
  · intro w hSw; obtain ⟨s0, s1, s2⟩ := hSw; go_simp; try with_reducible rfl
  simp only [Act.put, List.getElem_toArray, List.getElem_cons_succ, List.getElem_cons_zero, List.setIfInBounds_toArray, List.set_cons_zero, List.set_cons_succ]
  refine wpAnyH_take (i := 7) (oi := _) (v := ?_) rfl (by kernel_rfl) (by kernel_rfl) (by kernel_rfl) (fun _ _ _ h => h) (Or.inl ⟨by rfl, ?_⟩) hHeld ?_
  rotate_left
  · intro w hSw; obtain ⟨s0, s1, s2⟩ := hSw; go_simp; try with_reducible rfl
  simp only [Act.put, List.getElem_toArray, List.getElem_cons_succ, List.getElem_cons_zero, List.setIfInBounds_toArray, List.set_cons_zero, List.set_cons_succ]
  refine wpAnyH_done (by kernel_rfl) ?_ _
  go_wp2_with fail
  have hbA := hb4.drew
  refine wp_region_held_drew (S := fun w' => (w'.cell? ⟨tb, 0, none⟩ = some (.slice (some ⟨ba, off, none⟩) 2 Tc) ∧ w'.cell? ⟨tb, 1, none⟩ = some (.slice CA 2 Cc) ∧ w'.cell? ⟨tb, 2, none⟩ = some (.slice EA 2 Ec)) ∧ w'.cell? ⟨ba, off, none⟩ = some (.int .u64 4611686018427387905)) (by kernel_rfl) ⟨⟨u0, u1, u2⟩, u3⟩ (fun hHeld => ?_)
  clear u0 u1 u2 u3 hb4
  refine wpAnyH_take (i := 0) (oi := _) (v := ?_) rfl (by kernel_rfl) (by kernel_rfl) (by kernel_rfl) (fun _ _ _ h => h) (Or.inl ⟨by rfl, ?_⟩) hHeld ?_
  rotate_left
  · intro w hSw; obtain ⟨⟨s0, s1, s2⟩, s3⟩ := hSw; go_simp; try with_reducible rfl
  simp only [Act.put, List.getElem_toArray, List.getElem_cons_succ, List.getElem_cons_zero, List.setIfInBounds_toArray, List.set_cons_zero, List.set_cons_succ]
  refine wpAnyH_take (i := 1) (oi := _) (v := ?_) rfl (by kernel_rfl) (by kernel_rfl) (by kernel_rfl) (fun _ _ _ h => h) (Or.inl ⟨by rfl, ?_⟩) hHeld ?_
  rotate_left
  · intro w hSw; obtain ⟨⟨s0, s1, s2⟩, s3⟩ := hSw; go_simp; try with_reducible rfl
  simp only [Act.put, List.getElem_toArray, List.getElem_cons_succ, List.getElem_cons_zero, List.setIfInBounds_toArray, List.set_cons_zero, List.set_cons_succ]
  refine wpAnyH_take (i := 2) (oi := _) (v := ?_) rfl (by kernel_rfl) (by kernel_rfl) (by kernel_rfl) (fun _ _ _ h => h) (Or.inl ⟨by rfl, ?_⟩) hHeld ?_
  rotate_left
  · intro w hSw; obtain ⟨⟨s0, s1, s2⟩, s3⟩ := hSw; go_simp; try with_reducible rfl
  simp only [Act.put, List.getElem_toArray, List.getElem_cons_succ, List.getElem_cons_zero, List.setIfInBounds_toArray, List.set_cons_zero, List.set_cons_succ]
  refine wpAnyH_take (i := 3) (oi := _) (v := ?_) rfl (by kernel_rfl) (by kernel_rfl) (by kernel_rfl) (fun _ _ _ h => h) (Or.inl ⟨by rfl, ?_⟩) hHeld ?_
  rotate_left
  · intro w hSw; obtain ⟨⟨s0, s1, s2⟩, s3⟩ := hSw; go_simp; try with_reducible rfl
  simp only [Act.put, List.getElem_toArray, List.getElem_cons_succ, List.getElem_cons_zero, List.setIfInBounds_toArray, List.set_cons_zero, List.set_cons_succ]
  refine wpAnyH_take (i := 4) (oi := _) (v := ?_) rfl (by kernel_rfl) (by kernel_rfl) (by kernel_rfl) (fun _ _ _ h => h) (Or.inl ⟨by rfl, ?_⟩) hHeld ?_
  rotate_left
  · intro w hSw; obtain ⟨⟨s0, s1, s2⟩, s3⟩ := hSw; go_simp; try with_reducible rfl
  simp only [Act.put, List.getElem_toArray, List.getElem_cons_succ, List.getElem_cons_zero, List.setIfInBounds_toArray, List.set_cons_zero, List.set_cons_succ]
  refine wpAnyH_ready (rs := [5]) (by kernel_rfl) (by simp) (AllReadyH.cons (o := _) rfl (fun K hK => ?_) AllReadyH.nil)
  go_simp
  refine (cg _ hbA).mono ?_
  rintro en w5 ⟨v, rfl, ho5, hb5⟩
  have hb5 := hbA.trans (hb5.mono hbA.size)
  obtain ⟨u0, u1, u2, u3⟩ := HCC.out _ hb5
  obtain ⟨A5, c5, rfl⟩ := own_slice ho5
  refine hK.out _ _ ⟨⟨u0, u1, u2⟩, u3⟩ (fun hHeld => ?_)
  clear hK K
  try simp only [Act.put, List.getElem_toArray, List.getElem_cons_succ, List.getElem_cons_zero, List.setIfInBounds_toArray, List.set_cons_zero, List.set_cons_succ]
  refine wpAnyH_take (i := 6) (oi := _) (v := ?_) rfl (by kernel_rfl) (by kernel_rfl) (by kernel_rfl) (fun _ _ _ h => h) (Or.inl ⟨by rfl, ?_⟩) hHeld ?_
  rotate_left
  · intro w hSw; obtain ⟨⟨s0, s1, s2⟩, s3⟩ := hSw; go_simp; try with_reducible rfl
  simp only [Act.put, List.getElem_toArray, List.getElem_cons_succ, List.getElem_cons_zero, List.setIfInBounds_toArray, List.set_cons_zero, List.set_cons_succ]
  refine wpAnyH_take (i := 7) (oi := _) (v := ?_) rfl (by kernel_rfl) (by kernel_rfl) (by kernel_rfl) (fun _ _ _ h => h) (Or.inl ⟨by rfl, ?_⟩) hHeld ?_
  rotate_left
  · intro w hSw; obtain ⟨⟨s0, s1, s2⟩, s3⟩ := hSw; go_simp; try with_reducible rfl
  simp only [Act.put, List.getElem_toArray, List.getElem_cons_succ, List.getElem_cons_zero, List.setIfInBounds_toArray, List.set_cons_zero, List.set_cons_succ]
  refine wpAnyH_take (i := 8) (oi := _) (v := ?_) rfl (by kernel_rfl) (by kernel_rfl) (by kernel_rfl) (fun _ _ _ h => h) (Or.inl ⟨by rfl, ?_⟩) hHeld ?_
  rotate_left
  · intro w hSw; obtain ⟨⟨s0, s1, s2⟩, s3⟩ := hSw; go_simp; try with_reducible rfl
  simp only [Act.put, List.getElem_toArray, List.getElem_cons_succ, List.getElem_cons_zero, List.setIfInBounds_toArray, List.set_cons_zero, List.set_cons_succ]
  refine wpAnyH_take (i := 9) (oi := _) (v := ?_) rfl (by kernel_rfl) (by kernel_rfl) (by kernel_rfl) (fun _ _ _ h => h) (Or.inl ⟨by rfl, ?_⟩) hHeld ?_
  rotate_left
  · intro w hSw; obtain ⟨⟨s0, s1, s2⟩, s3⟩ := hSw; go_simp; try with_reducible rfl
  simp only [Act.put, List.getElem_toArray, List.getElem_cons_succ, List.getElem_cons_zero, List.setIfInBounds_toArray, List.set_cons_zero, List.set_cons_succ]
  refine wpAnyH_take (i := 10) (oi := _) (v := ?_) rfl (by kernel_rfl) (by kernel_rfl) (by kernel_rfl) (fun _ _ _ h => h) (Or.inl ⟨by rfl, ?_⟩) hHeld ?_
  rotate_left
  · intro w hSw; obtain ⟨⟨s0, s1, s2⟩, s3⟩ := hSw; go_simp; try with_reducible rfl
  simp only [Act.put, List.getElem_toArray, List.getElem_cons_succ, List.getElem_cons_zero, List.setIfInBounds_toArray, List.set_cons_zero, List.set_cons_succ]
  refine wpAnyH_done (by kernel_rfl) ?_ _
  have HO5 := Lib.hid ho5
  clear ho5 u3
  go_wp2_with (first
    | (go_at_call 33; ((with_reducible refine (cw _ hb5).mono ?_); rintro en w6 ⟨vs, rfl, ⟨t6, rfl, htp6, htf6⟩, hb6⟩; unfold Tab.V))
    | fail)
  have hl6 := htf6.ok.len.2.2
  have e6 : t6.En = 1 := by
    have h3 : t6.es = [4294967302] := congrArg (fun p : PT => p.2.2) htp6
    rw [← hl6, h3]; rfl
  clear htp6 htf6 hl6
  obtain ⟨TA6, Tn6, Tc6, ty6, CA6, Cn6, Cc6, F6, EA6, En6, Ec6, es6⟩ := t6
  simp only at e6
  subst e6
  have hb7 := (hb5.trans (hb6.mono hb5.size)).alloc (Nat.le_trans hb5.size hb6.size) (.cells #[.slice TA6 Tn6 Tc6, .slice CA6 Cn6 Cc6, .slice EA6 1 Ec6] 25)
  have HO7 := Lib.hid ((own_below HO5.out hb6).alloc (.cells #[.slice TA6 Tn6 Tc6, .slice CA6 Cn6 Cc6, .slice EA6 1 Ec6] 25))
  have HK7 := Lib.hid (Blk.new w6 25 #[.slice TA6 Tn6 Tc6, .slice CA6 Cn6 Cc6, .slice EA6 1 Ec6])
  clear HO5
  simp only
  generalize w6.alloc (.cells #[.slice TA6 Tn6 Tc6, .slice CA6 Cn6 Cc6, .slice EA6 1 Ec6] 25) = w7 at *
  generalize w6.heap.size = b6 at *
  obtain ⟨u0, u1, u2, u3⟩ := HCC.out _ hb7
  refine wp_region_held_drew (S := fun w' => w'.cell? ⟨tb, 0, none⟩ = some (.slice (some ⟨ba, off, none⟩) 2 Tc) ∧ w'.cell? ⟨tb, 1, none⟩ = some (.slice CA 2 Cc) ∧ w'.cell? ⟨tb, 2, none⟩ = some (.slice EA 2 Ec)) (by kernel_rfl) ⟨u0, u1, u2⟩ (fun hHeld => ?_)
  refine wpAnyH_take (i := 0) (oi := _) (v := ?_) rfl (by kernel_rfl) (by kernel_rfl) (by kernel_rfl) (fun _ _ _ h => h) (Or.inl ⟨by rfl, ?_⟩) hHeld ?_
  rotate_left
  · intro w hSw; obtain ⟨s0, s1, s2⟩ := hSw; go_simp; try with_reducible rfl
  simp only [Act.put, List.getElem_toArray, List.getElem_cons_succ, List.getElem_cons_zero, List.setIfInBounds_toArray, List.set_cons_zero, List.set_cons_succ]
  refine Og.start (fr := fun y => { tmps := #[.bool false, .pointer (some ⟨tb, 0, none⟩), .int .i64 1, .bool true, .slice A5 1 c5, .int .i64 0, .pointer (some ⟨b6, 0, none⟩), .int .u64 4294967302, .int .i64 0, y 9, y 11, .agg #[.slice (some ⟨ba, off, none⟩) 2 Tc, .slice CA 2 Cc, .slice EA 2 Ec], .tuple #[.int .i64 1, .bool true], .agg #[.slice (some ⟨ba, off, none⟩) 2 Tc, .slice CA 2 Cc, .slice EA 2 Ec], .int .u64 4294967302, .tuple #[.int .i64 1, .bool true], .int .i64 1, .bool true, .tuple #[.slice A5 1 c5, .int .i64 0], .agg #[.slice (some ⟨ba, off, none⟩) 2 Tc, .slice CA 2 Cc, .slice EA 2 Ec], .pointer (some ⟨tb, 0, none⟩), .slice (some ⟨ba, off, none⟩) 2 Tc, .pointer (some ⟨ba, off, none⟩), .int .u64 4611686018427387905, .tuple #[.slice A5 1 c5, .int .i64 0], .slice A5 1 c5, .int .i64 0, .tuple #[.agg #[.slice TA6 Tn6 Tc6, .slice CA6 Cn6 Cc6, .slice EA6 1 Ec6], .int .u64 4294967302, .int .i64 0], .agg #[.slice (some ⟨ba, off, none⟩) 2 Tc, .slice CA 2 Cc, .slice EA 2 Ec], .tuple #[.agg #[.slice TA6 Tn6 Tc6, .slice CA6 Cn6 Cc6, .slice EA6 1 Ec6], .int .u64 4294967302, .int .i64 0], .agg #[.slice TA6 Tn6 Tc6, .slice CA6 Cn6 Cc6, .slice EA6 1 Ec6], .int .u64 4294967302, .int .i64 0, y 6, .agg #[.slice (some ⟨ba, off, none⟩) 2 Tc, .slice CA 2 Cc, .slice EA 2 Ec], y 1, y 2, y 3, y 4, y 5, y 7, y 8, undef, undef, undef, undef, undef, undef, undef, undef, undef, undef, undef, undef, undef, undef, undef, undef, undef, undef, undef, undef, undef, undef, undef, undef, undef, undef, undef, undef, undef, undef, undef, undef, undef], defers := [] })
    (C := fun w' => Below w7.heap.size w7 w')
    (F := fun j y w' => match j with
      | 1 => y 1 = .int .u64 12884901893
      | 2 => ∃ A, y 2 = .slice A 1 1 ∧ RwOk w' w'.heap.size ⟨A, 1, 1, [1]⟩
      | 3 => ∃ A, y 3 = .slice A 0 0
      | 4 => ∃ A x z, y 4 = .slice A 2 2 ∧ Reads w' w'.heap.size 1 A 2 (rws [x, z]) ∧ RwOk w' w'.heap.size x ∧ RwOk w' w'.heap.size z
      | 5 => ∃ t : Tab, y 5 = .tuple #[.agg #[.slice t.TA t.Tn t.Tc, .slice t.CA t.Cn t.Cc, .slice t.EA t.En t.Ec], .int .i64 5]
      | 6 => ∃ t : Tab, y 6 = .tuple #[.agg #[.slice t.TA t.Tn t.Tc, .slice t.CA t.Cn t.Cc, .slice t.EA t.En t.Ec], .int .i64 5]
      | 7 => ∃ t : Tab, y 7 = .agg #[.slice t.TA t.Tn t.Tc, .slice t.CA t.Cn t.Cc, .slice t.EA t.En t.Ec]
      | 8 => y 8 = .int .i64 5
      | 9 => ∃ g, y 9 = .pointer (some ⟨g, 0, none⟩) ∧ w7.heap.size ≤ g ∧ Blk w' g 25 #[.slice none 0 0, .slice none 0 0, .slice none 0 0]
      | 11 => y 11 = .int .i64 5
      | _ => True)
    { rem := [1, 2, 3, 4, 5, 6, 7, 8, 9, 10, 11], facts := [1, 2, 3, 4, 5, 6, 7, 8, 9, 11], needs := fun i => match i with | 4 => [2, 3] | 5 => [1, 4] | 6 => [5] | 7 => [6] | 8 => [6] | 10 => [9, 7] | 11 => [8] | _ => [], keeps := fun i => match i with | 1 => [2, 3, 4, 5, 6, 7, 8, 9, 11] | 2 => [1, 3, 4, 5, 6, 7, 8, 9, 11] | 3 => [1, 2, 4, 5, 6, 7, 8, 9, 11] | 4 => [1, 2, 3, 5, 6, 7, 8, 9, 11] | 5 => [1, 2, 3, 4, 6, 7, 8, 9, 11] | 6 => [1, 2, 3, 4, 5, 7, 8, 9, 11] | 7 => [1, 2, 3, 4, 5, 6, 8, 9, 11] | 8 => [1, 2, 3, 4, 5, 6, 7, 9, 11] | 9 => [1, 2, 3, 4, 5, 6, 7, 8, 11] | 10 => [1, 3, 5, 6, 7, 8] | 11 => [1, 2, 3, 4, 5, 6, 7, 8, 9] | _ => [], final := [11] }
    (fun _ => undef) rfl (by kernel_rfl) ?hCS ?hC Og.All.nil (Og.Steps.cons _ rfl rfl ?st1 (Og.Steps.cons _ rfl rfl ?st2 (Og.Steps.cons _ rfl rfl ?st3 (Og.Steps.cons _ rfl rfl ?st4 (Og.Steps.cons _ rfl rfl ?st5 (Og.Steps.cons _ rfl rfl ?st6 (Og.Steps.cons _ rfl rfl ?st7 (Og.Steps.cons _ rfl rfl ?st8 (Og.Steps.cons _ rfl rfl ?st9 (Og.Steps.cons _ rfl rfl ?st10 (Og.Steps.cons _ rfl rfl ?st11 Og.Steps.nil))))))))))) ?hE
  case hCS =>
    intro w' hb
    obtain ⟨t0, t1, t2, _⟩ := HCC.out _ (hb7.trans (hb.mono hb7.size))
    exact ⟨t0, t1, t2⟩
  case hC => exact (Below.refl w7.heap.size w7).drew
  case st1 =>
    intro y w1 hC hN K hK
    go_simp
    refine (ce5 _).mono ?_
    rintro e w2 ⟨rfl, rfl⟩
    exact hK.out (.int .u64 12884901893) w1 hC rfl (Og.All.cons (fun ⟨A, e, h⟩ => ⟨A, e, (h.keep (Below.refl w1.heap.size w1)).more (Below.refl w1.heap.size w1).size⟩) (Og.All.cons (fun h => h) (Og.All.cons (fun ⟨A, x, z, e, h1, h2, h3⟩ => ⟨A, x, z, e, (h1.below (Below.refl w1.heap.size w1)).more (Below.refl w1.heap.size w1).size, (h2.keep (Below.refl w1.heap.size w1)).more (Below.refl w1.heap.size w1).size, (h3.keep (Below.refl w1.heap.size w1)).more (Below.refl w1.heap.size w1).size⟩) (Og.All.cons (fun h => h) (Og.All.cons (fun h => h) (Og.All.cons (fun h => h) (Og.All.cons (fun h => h) (Og.All.cons (fun ⟨g, e, hg, h⟩ => ⟨g, e, hg, blk_below h (Below.refl w1.heap.size w1)⟩) (Og.All.cons (fun h => h) Og.All.nil)))))))))
  case st2 =>
    intro y w1 hC hN K hK
    go_simp
    have hb := (Below.refl w1.heap.size w1).alloc (Nat.le_refl _) (.cells #[.int .u64 1] 26)
    exact hK.out _ _ (hC.alloc hC.size _) ⟨_, rfl, rwOk_blk (Blk.new w1 26 #[.int .u64 1]) rfl rfl rfl (by omega)⟩ (Og.All.cons (fun h => h) (Og.All.cons (fun h => h) (Og.All.cons (fun ⟨A, x, z, e, h1, h2, h3⟩ => ⟨A, x, z, e, (h1.below hb).more hb.size, (h2.keep hb).more hb.size, (h3.keep hb).more hb.size⟩) (Og.All.cons (fun h => h) (Og.All.cons (fun h => h) (Og.All.cons (fun h => h) (Og.All.cons (fun h => h) (Og.All.cons (fun ⟨g, e, hg, h⟩ => ⟨g, e, hg, blk_below h hb⟩) (Og.All.cons (fun h => h) Og.All.nil)))))))))
  case st3 =>
    intro y w1 hC hN K hK
    go_simp
    have hb := (Below.refl w1.heap.size w1).alloc (Nat.le_refl _) (.cells #[] 26)
    exact hK.out _ _ (hC.alloc hC.size _) ⟨_, rfl⟩ (Og.All.cons (fun h => h) (Og.All.cons (fun ⟨A, e, h⟩ => ⟨A, e, (h.keep hb).more hb.size⟩) (Og.All.cons (fun ⟨A, x, z, e, h1, h2, h3⟩ => ⟨A, x, z, e, (h1.below hb).more hb.size, (h2.keep hb).more hb.size, (h3.keep hb).more hb.size⟩) (Og.All.cons (fun h => h) (Og.All.cons (fun h => h) (Og.All.cons (fun h => h) (Og.All.cons (fun h => h) (Og.All.cons (fun ⟨g, e, hg, h⟩ => ⟨g, e, hg, blk_below h hb⟩) (Og.All.cons (fun h => h) Og.All.nil)))))))))
  case st4 =>
    intro y w1 hC hN K hK
    obtain ⟨A2, e2, h2⟩ : ∃ A, y 2 = .slice A 1 1 ∧ RwOk w1 w1.heap.size ⟨A, 1, 1, [1]⟩ := hN.head
    obtain ⟨A3, e3⟩ : ∃ A, y 3 = .slice A 0 0 := hN.tail.head
    simp only [e2, e3]
    go_simp
    have hb := (Below.refl w1.heap.size w1).alloc (Nat.le_refl _) (.cells #[.slice A2 1 1, .slice A3 0 0] 44)
    refine Eq.mp (congrArg (fun a => K a _) ?_) (hK.out (.slice (some ⟨w1.heap.size, 0, none⟩) 2 2) _ (hC.alloc hC.size _) ⟨_, ⟨A2, 1, 1, [1]⟩, ⟨A3, 0, 0, []⟩, rfl, blk_reads (Blk.new w1 44 #[.slice A2 1 1, .slice A3 0 0]) rfl, (h2.keep hb).more hb.size, ⟨⟨rfl, fun h => absurd h (Nat.lt_irrefl 0)⟩, Nat.le_refl _, Nat.zero_le _, by simp⟩⟩ (Og.All.cons (fun h => h) (Og.All.cons (fun ⟨A, e, h⟩ => ⟨A, e, (h.keep hb).more hb.size⟩) (Og.All.cons (fun h => h) (Og.All.cons (fun h => h) (Og.All.cons (fun h => h) (Og.All.cons (fun h => h) (Og.All.cons (fun h => h) (Og.All.cons (fun ⟨g, e, hg, h⟩ => ⟨g, e, hg, blk_below h hb⟩) (Og.All.cons (fun h => h) Og.All.nil))))))))))
    rw [← e2, ← e3]
    rfl
  case st5 =>
    intro y w1 hC hN K hK
    have e1 : y 1 = .int .u64 12884901893 := hN.head
    obtain ⟨A4, x4, z4, e4, hr4, hx4, hz4⟩ : ∃ A x z, y 4 = .slice A 2 2 ∧ Reads w1 w1.heap.size 1 A 2 (rws [x, z]) ∧ RwOk w1 w1.heap.size x ∧ RwOk w1 w1.heap.size z := hN.tail.head
    simp only [e1, e4]
    go_simp
    refine (cp _ (hb7.trans (hC.mono hb7.size)) x4 z4 A4 hr4 hx4 hz4).mono ?_
    rintro e w2 ⟨v, rfl, ⟨t, rfl, _, _⟩, hb⟩
    refine Eq.mp (congrArg (fun a => K a _) ?_) (hK.out _ w2 (hC.trans (hb.mono hC.size)) ⟨t, rfl⟩ (Og.All.cons (fun h => h) (Og.All.cons (fun ⟨A, e, h⟩ => ⟨A, e, (h.keep hb).more hb.size⟩) (Og.All.cons (fun h => h) (Og.All.cons (fun ⟨A, x, z, e, h1, h2, h3⟩ => ⟨A, x, z, e, (h1.below hb).more hb.size, (h2.keep hb).more hb.size, (h3.keep hb).more hb.size⟩) (Og.All.cons (fun h => h) (Og.All.cons (fun h => h) (Og.All.cons (fun h => h) (Og.All.cons (fun ⟨g, e, hg, h⟩ => ⟨g, e, hg, blk_below h hb⟩) (Og.All.cons (fun h => h) Og.All.nil))))))))))
    rw [← e1, ← e4]
    rfl
  case st6 =>
    intro y w1 hC hN K hK
    obtain ⟨t, e5⟩ : ∃ t : Tab, y 5 = .tuple #[.agg #[.slice t.TA t.Tn t.Tc, .slice t.CA t.Cn t.Cc, .slice t.EA t.En t.Ec], .int .i64 5] := hN.head
    go_simp
    refine Eq.mp (congrArg (fun a => K a _) ?_) (hK.out (y 5) w1 hC ⟨t, e5⟩ (Og.All.cons (fun h => h) (Og.All.cons (fun ⟨A, e, h⟩ => ⟨A, e, (h.keep (Below.refl w1.heap.size w1)).more (Below.refl w1.heap.size w1).size⟩) (Og.All.cons (fun h => h) (Og.All.cons (fun ⟨A, x, z, e, h1, h2, h3⟩ => ⟨A, x, z, e, (h1.below (Below.refl w1.heap.size w1)).more (Below.refl w1.heap.size w1).size, (h2.keep (Below.refl w1.heap.size w1)).more (Below.refl w1.heap.size w1).size, (h3.keep (Below.refl w1.heap.size w1)).more (Below.refl w1.heap.size w1).size⟩) (Og.All.cons (fun h => h) (Og.All.cons (fun h => h) (Og.All.cons (fun h => h) (Og.All.cons (fun ⟨g, e, hg, h⟩ => ⟨g, e, hg, blk_below h (Below.refl w1.heap.size w1)⟩) (Og.All.cons (fun h => h) Og.All.nil))))))))))
    rw [← e5]
    rfl
  case st7 =>
    intro y w1 hC hN K hK
    obtain ⟨t, e5⟩ : ∃ t : Tab, y 6 = .tuple #[.agg #[.slice t.TA t.Tn t.Tc, .slice t.CA t.Cn t.Cc, .slice t.EA t.En t.Ec], .int .i64 5] := hN.head
    simp only [e5]
    go_simp
    refine Eq.mp (congrArg (fun a => K a _) ?_) (hK.out _ w1 hC ⟨t, rfl⟩ (Og.All.cons (fun h => h) (Og.All.cons (fun ⟨A, e, h⟩ => ⟨A, e, (h.keep (Below.refl w1.heap.size w1)).more (Below.refl w1.heap.size w1).size⟩) (Og.All.cons (fun h => h) (Og.All.cons (fun ⟨A, x, z, e, h1, h2, h3⟩ => ⟨A, x, z, e, (h1.below (Below.refl w1.heap.size w1)).more (Below.refl w1.heap.size w1).size, (h2.keep (Below.refl w1.heap.size w1)).more (Below.refl w1.heap.size w1).size, (h3.keep (Below.refl w1.heap.size w1)).more (Below.refl w1.heap.size w1).size⟩) (Og.All.cons (fun h => h) (Og.All.cons (fun h => h) (Og.All.cons (fun h => h) (Og.All.cons (fun ⟨g, e, hg, h⟩ => ⟨g, e, hg, blk_below h (Below.refl w1.heap.size w1)⟩) (Og.All.cons (fun h => h) Og.All.nil))))))))))
    rw [← e5]
    rfl
  case st8 =>
    intro y w1 hC hN K hK
    obtain ⟨t, e5⟩ : ∃ t : Tab, y 6 = .tuple #[.agg #[.slice t.TA t.Tn t.Tc, .slice t.CA t.Cn t.Cc, .slice t.EA t.En t.Ec], .int .i64 5] := hN.head
    simp only [e5]
    go_simp
    refine Eq.mp (congrArg (fun a => K a _) ?_) (hK.out (.int .i64 5) w1 hC rfl (Og.All.cons (fun h => h) (Og.All.cons (fun ⟨A, e, h⟩ => ⟨A, e, (h.keep (Below.refl w1.heap.size w1)).more (Below.refl w1.heap.size w1).size⟩) (Og.All.cons (fun h => h) (Og.All.cons (fun ⟨A, x, z, e, h1, h2, h3⟩ => ⟨A, x, z, e, (h1.below (Below.refl w1.heap.size w1)).more (Below.refl w1.heap.size w1).size, (h2.keep (Below.refl w1.heap.size w1)).more (Below.refl w1.heap.size w1).size, (h3.keep (Below.refl w1.heap.size w1)).more (Below.refl w1.heap.size w1).size⟩) (Og.All.cons (fun h => h) (Og.All.cons (fun h => h) (Og.All.cons (fun h => h) (Og.All.cons (fun ⟨g, e, hg, h⟩ => ⟨g, e, hg, blk_below h (Below.refl w1.heap.size w1)⟩) (Og.All.cons (fun h => h) Og.All.nil))))))))))
    rw [← e5]
    rfl
  case st9 =>
    intro y w1 hC hN K hK
    go_simp
    have hb := (Below.refl w1.heap.size w1).alloc (Nat.le_refl _) (.cells #[.slice none 0 0, .slice none 0 0, .slice none 0 0] 25)
    refine hK.out (.pointer (some ⟨w1.heap.size, 0, none⟩)) _ (hC.alloc hC.size _) ⟨_, rfl, hC.size, Blk.new w1 25 #[.slice none 0 0, .slice none 0 0, .slice none 0 0]⟩ (Og.All.cons (fun h => h) (Og.All.cons (fun ⟨A, e, h⟩ => ⟨A, e, (h.keep hb).more hb.size⟩) (Og.All.cons (fun h => h) (Og.All.cons (fun ⟨A, x, z, e, h1, h2, h3⟩ => ⟨A, x, z, e, (h1.below hb).more hb.size, (h2.keep hb).more hb.size, (h3.keep hb).more hb.size⟩) (Og.All.cons (fun h => h) (Og.All.cons (fun h => h) (Og.All.cons (fun h => h) (Og.All.cons (fun h => h) (Og.All.cons (fun h => h) Og.All.nil)))))))))
  case st10 =>
    intro y w1 hC hN K hK
    obtain ⟨g, e9, hg, hk9⟩ : ∃ g, y 9 = .pointer (some ⟨g, 0, none⟩) ∧ w7.heap.size ≤ g ∧ Blk w1 g 25 #[.slice none 0 0, .slice none 0 0, .slice none 0 0] := hN.head
    obtain ⟨t, e7⟩ : ∃ t : Tab, y 7 = .agg #[.slice t.TA t.Tn t.Tc, .slice t.CA t.Cn t.Cc, .slice t.EA t.En t.Ec] := hN.tail.head
    obtain ⟨⟨z0, z1, z2⟩, zf⟩ := blk_cells3 hk9
    have zf0 := zf 0
    have zf1 := zf 1
    have zf2 := zf 2
    simp only [e9, e7]
    go_simp
    refine Eq.mp (congrArg (fun a => K a _) ?_) (hK.out undef _ (below_set3 hC hg) trivial (Og.All.cons (fun h => h) (Og.All.cons (fun h => h) (Og.All.cons (fun h => h) (Og.All.cons (fun h => h) (Og.All.cons (fun h => h) (Og.All.cons (fun h => h) Og.All.nil)))))))
    rw [← e9, ← e7]
    rfl
  case st11 =>
    intro y w1 hC hN K hK
    have e8 : y 8 = .int .i64 5 := hN.head
    simp only [e8]
    go_simp
    refine Eq.mp (congrArg (fun a => K a _) ?_) (hK.out (.int .i64 5) w1 hC rfl (Og.All.cons (fun h => h) (Og.All.cons (fun ⟨A, e, h⟩ => ⟨A, e, (h.keep (Below.refl w1.heap.size w1)).more (Below.refl w1.heap.size w1).size⟩) (Og.All.cons (fun h => h) (Og.All.cons (fun ⟨A, x, z, e, h1, h2, h3⟩ => ⟨A, x, z, e, (h1.below (Below.refl w1.heap.size w1)).more (Below.refl w1.heap.size w1).size, (h2.keep (Below.refl w1.heap.size w1)).more (Below.refl w1.heap.size w1).size, (h3.keep (Below.refl w1.heap.size w1)).more (Below.refl w1.heap.size w1).size⟩) (Og.All.cons (fun h => h) (Og.All.cons (fun h => h) (Og.All.cons (fun h => h) (Og.All.cons (fun h => h) (Og.All.cons (fun ⟨g, e, hg, h⟩ => ⟨g, e, hg, blk_below h (Below.refl w1.heap.size w1)⟩) Og.All.nil))))))))))
    rw [← e8]
    rfl
  case hE =>
    intro y w1 hC hF
    have e11 : y 11 = .int .i64 5 := hF.head
    simp only [e11]
    have ho8 := own_below HO7.out hC
    have hb8 := hb7.trans (hC.mono hb7.size)
    have hk8 := blk_below HK7.out hC
    obtain ⟨⟨q0, q1, q2⟩, _⟩ := blk_cells3 hk8
    have ceq := fun (A2 : Option Addr) (W : World) (h : Below w1.heap.size w1 W) (hR : Reads W W.heap.size 1 A2 1 (ids [8])) => equal_v1 A5 1 c5 [8] A2 1 1 [8] W (((Reads.of_own ho8).below h).more h.size) hR (by omega) (by omega)
    rw [show (([8] : List Int) == [8]) = true from rfl] at ceq
    have q2' := fun (W : World) (h : Below w1.heap.size w1 W) => cell_below' h q2 hk8.lt
    generalize y 1 = y1
    generalize y 2 = y2
    generalize y 3 = y3
    generalize y 4 = y4
    generalize y 5 = y5
    generalize y 6 = y6
    generalize y 7 = y7
    generalize y 8 = y8
    generalize y 9 = y9
    have HB8 := Lib.hid hb8
    clear hC hF ho8 hb8 hk8 q0 q1 u0 u1 u2 u3 hHeld e11
    go_wp2_with (first
      | (go_at_call 61; ((refine (ceq _ _ ((Below.refl w1.heap.size w1).alloc (Nat.le_refl _) _) (blk_reads (Blk.new _ _ _) rfl)).mono ?_); rintro en w9 ⟨rfl, hb9⟩; have hb10 := ((Below.refl w1.heap.size w1).alloc (Nat.le_refl _) (.cells #[.int .u64 8] 26)).trans (hb9.mono (by simp)); have q3 := q2' _ hb10))
      | (go_at_call 60; ((refine (ce6 _).mono ?_); rintro en w10 ⟨rfl, rfl⟩))
      | fail)
    rw [← HPO.out]
    exact ⟨rfl, hBW.trans ((HB8.out.trans (hb10.mono HB8.out.size)).mono hBW.size)⟩
end Go.Proofs.Ytbcbknajhdaneaa
