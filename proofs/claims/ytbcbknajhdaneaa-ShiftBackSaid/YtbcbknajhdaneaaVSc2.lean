/- What is proved: the shift laws' small tables. -/
import Derived.Test.YtbcbknajhdaneaaVSc1
import Derived.Test.YtbcbknajhdaneaaVStop
namespace Go.Proofs.Ytbcbknajhdaneaa
open Go.RowKit Go.Maps
set_option linter.unusedVariables false
set_option linter.unusedSimpArgs false
abbrev sP1 : PT := ([4611686018427387905, 4611686018427387906], [(1, 2, [7, 9]), (1, 2, [8, 10])], [5, 6])
abbrev sP2 : PT := ([4611686018427387906, 4611686018427387907], [(1, 0, []), (2, 0, [])], [])
theorem of_none' (TA : Option Addr) (Tn Tc : Nat) (NA : Option Addr) (nn nc : Nat) (ws : List Int) (w : World) (hN : Reads w w.heap.size 1 NA nn (ins ws)) (hnn : nn ≤ 65536) :
    Calls Try.prog 47 #[.slice TA Tn Tc, .slice NA nn nc, .slice none 0 0, .slice none 0 0] w (OfR (ofL [] 0 0 ws) (.slice TA Tn Tc) (.slice none 0 0) w) :=
  of_any TA Tn Tc NA nn nc ws none 0 0 none 0 0 [] w hN Reads.none_ (by simp) (by simp) (fun k => by unfold vls colOf; simp) hnn (by omega) (by omega)
theorem small1_any (n r : Int) (hn : Part n) (hr : r = 4611686018427387904 + 0 * 4294967296 + n) (w : World) : Calls Try.prog 125 #[.int .i64 n] w fun e w' => e = .returned (.int .u64 r) ∧ w = w' := by
  have cm := fun w => made_any 4611686018427387904 0 n (.inr (.inl rfl)) ⟨by decide, by decide⟩ hn w
  rw [← hr] at cm
  clear hr
  go_enter Try.func125, Try.ntmps125
  go_wp2_with (first | (go_at_call 30; refine (cm _).mono ?_; rintro en w2 ⟨rfl, rfl⟩) | fail)
  go_ret
  exact ⟨rfl, rfl⟩
theorem small11_world (w : World) : ∃ W, W = ((((((((((((w.alloc (.cells #[.slice none 0 0, .slice none 0 0, .slice none 0 0] 25)).alloc (.cells #[.slice none 0 0, .slice none 0 0, .slice none 0 0] 25)).alloc (.cells #[.int .u64 4611686018427387905, .int .u64 4611686018427387906] 27)).alloc (.cells #[.int .i64 1, .int .i64 1] 3)).alloc (.cells #[.int .u64 5, .int .u64 6] 27)).alloc (.cells #[.int .u64 7] 26)).alloc (.cells #[.int .u64 8] 26)).alloc (.cells #[.slice (some ⟨w.heap.size + 1 + 1 + 1 + 1 + 1, 0, none⟩) 1 1, .slice (some ⟨w.heap.size + 1 + 1 + 1 + 1 + 1 + 1, 0, none⟩) 1 1] 44)).alloc (.cells #[.int .u64 9] 26)).alloc (.cells #[.int .u64 10] 26)).alloc (.cells #[.slice (some ⟨w.heap.size + 1 + 1 + 1 + 1 + 1 + 1 + 1 + 1, 0, none⟩) 1 1, .slice (some ⟨w.heap.size + 1 + 1 + 1 + 1 + 1 + 1 + 1 + 1 + 1, 0, none⟩) 1 1] 44)).alloc (.cells #[.slice (some ⟨w.heap.size + 1 + 1 + 1 + 1 + 1 + 1 + 1, 0, none⟩) 2 2, .slice (some ⟨w.heap.size + 1 + 1 + 1 + 1 + 1 + 1 + 1 + 1 + 1 + 1, 0, none⟩) 2 2] 28)) ∧ Blk W (w.heap.size) 25 #[.slice none 0 0, .slice none 0 0, .slice none 0 0] ∧ Blk W (w.heap.size + 1) 25 #[.slice none 0 0, .slice none 0 0, .slice none 0 0] ∧ Blk W (w.heap.size + 1 + 1) 27 #[.int .u64 4611686018427387905, .int .u64 4611686018427387906] ∧ Blk W (w.heap.size + 1 + 1 + 1) 3 #[.int .i64 1, .int .i64 1] ∧ Blk W (w.heap.size + 1 + 1 + 1 + 1) 27 #[.int .u64 5, .int .u64 6] ∧ Blk W (w.heap.size + 1 + 1 + 1 + 1 + 1) 26 #[.int .u64 7] ∧ Blk W (w.heap.size + 1 + 1 + 1 + 1 + 1 + 1) 26 #[.int .u64 8] ∧ Blk W (w.heap.size + 1 + 1 + 1 + 1 + 1 + 1 + 1) 44 #[.slice (some ⟨w.heap.size + 1 + 1 + 1 + 1 + 1, 0, none⟩) 1 1, .slice (some ⟨w.heap.size + 1 + 1 + 1 + 1 + 1 + 1, 0, none⟩) 1 1] ∧ Blk W (w.heap.size + 1 + 1 + 1 + 1 + 1 + 1 + 1 + 1) 26 #[.int .u64 9] ∧ Blk W (w.heap.size + 1 + 1 + 1 + 1 + 1 + 1 + 1 + 1 + 1) 26 #[.int .u64 10] ∧ Blk W (w.heap.size + 1 + 1 + 1 + 1 + 1 + 1 + 1 + 1 + 1 + 1) 44 #[.slice (some ⟨w.heap.size + 1 + 1 + 1 + 1 + 1 + 1 + 1 + 1, 0, none⟩) 1 1, .slice (some ⟨w.heap.size + 1 + 1 + 1 + 1 + 1 + 1 + 1 + 1 + 1, 0, none⟩) 1 1] ∧ Blk W (w.heap.size + 1 + 1 + 1 + 1 + 1 + 1 + 1 + 1 + 1 + 1 + 1) 28 #[.slice (some ⟨w.heap.size + 1 + 1 + 1 + 1 + 1 + 1 + 1, 0, none⟩) 2 2, .slice (some ⟨w.heap.size + 1 + 1 + 1 + 1 + 1 + 1 + 1 + 1 + 1 + 1, 0, none⟩) 2 2] ∧ W.heap.size = w.heap.size + 1 + 1 + 1 + 1 + 1 + 1 + 1 + 1 + 1 + 1 + 1 + 1 ∧ Below w.heap.size w W := by
  refine ⟨_, rfl, ?_, ?_, ?_, ?_, ?_, ?_, ?_, ?_, ?_, ?_, ?_, ?_, ?_, ?_⟩
  · have h := Blk.new w 25 #[.slice none 0 0, .slice none 0 0, .slice none 0 0]
    exact (((((((((((h.alloc _).alloc _).alloc _).alloc _).alloc _).alloc _).alloc _).alloc _).alloc _).alloc _).alloc _)
  · have h := Blk.new (w.alloc (.cells #[.slice none 0 0, .slice none 0 0, .slice none 0 0] 25)) 25 #[.slice none 0 0, .slice none 0 0, .slice none 0 0]
    rw [World.size_alloc] at h
    exact ((((((((((h.alloc _).alloc _).alloc _).alloc _).alloc _).alloc _).alloc _).alloc _).alloc _).alloc _)
  · have h := Blk.new ((w.alloc (.cells #[.slice none 0 0, .slice none 0 0, .slice none 0 0] 25)).alloc (.cells #[.slice none 0 0, .slice none 0 0, .slice none 0 0] 25)) 27 #[.int .u64 4611686018427387905, .int .u64 4611686018427387906]
    rw [World.size_alloc, World.size_alloc] at h
    exact (((((((((h.alloc _).alloc _).alloc _).alloc _).alloc _).alloc _).alloc _).alloc _).alloc _)
  · have h := Blk.new (((w.alloc (.cells #[.slice none 0 0, .slice none 0 0, .slice none 0 0] 25)).alloc (.cells #[.slice none 0 0, .slice none 0 0, .slice none 0 0] 25)).alloc (.cells #[.int .u64 4611686018427387905, .int .u64 4611686018427387906] 27)) 3 #[.int .i64 1, .int .i64 1]
    rw [World.size_alloc, World.size_alloc, World.size_alloc] at h
    exact ((((((((h.alloc _).alloc _).alloc _).alloc _).alloc _).alloc _).alloc _).alloc _)
  · have h := Blk.new ((((w.alloc (.cells #[.slice none 0 0, .slice none 0 0, .slice none 0 0] 25)).alloc (.cells #[.slice none 0 0, .slice none 0 0, .slice none 0 0] 25)).alloc (.cells #[.int .u64 4611686018427387905, .int .u64 4611686018427387906] 27)).alloc (.cells #[.int .i64 1, .int .i64 1] 3)) 27 #[.int .u64 5, .int .u64 6]
    rw [World.size_alloc, World.size_alloc, World.size_alloc, World.size_alloc] at h
    exact (((((((h.alloc _).alloc _).alloc _).alloc _).alloc _).alloc _).alloc _)
  · have h := Blk.new (((((w.alloc (.cells #[.slice none 0 0, .slice none 0 0, .slice none 0 0] 25)).alloc (.cells #[.slice none 0 0, .slice none 0 0, .slice none 0 0] 25)).alloc (.cells #[.int .u64 4611686018427387905, .int .u64 4611686018427387906] 27)).alloc (.cells #[.int .i64 1, .int .i64 1] 3)).alloc (.cells #[.int .u64 5, .int .u64 6] 27)) 26 #[.int .u64 7]
    rw [World.size_alloc, World.size_alloc, World.size_alloc, World.size_alloc, World.size_alloc] at h
    exact ((((((h.alloc _).alloc _).alloc _).alloc _).alloc _).alloc _)
  · have h := Blk.new ((((((w.alloc (.cells #[.slice none 0 0, .slice none 0 0, .slice none 0 0] 25)).alloc (.cells #[.slice none 0 0, .slice none 0 0, .slice none 0 0] 25)).alloc (.cells #[.int .u64 4611686018427387905, .int .u64 4611686018427387906] 27)).alloc (.cells #[.int .i64 1, .int .i64 1] 3)).alloc (.cells #[.int .u64 5, .int .u64 6] 27)).alloc (.cells #[.int .u64 7] 26)) 26 #[.int .u64 8]
    rw [World.size_alloc, World.size_alloc, World.size_alloc, World.size_alloc, World.size_alloc, World.size_alloc] at h
    exact (((((h.alloc _).alloc _).alloc _).alloc _).alloc _)
  · have h := Blk.new (((((((w.alloc (.cells #[.slice none 0 0, .slice none 0 0, .slice none 0 0] 25)).alloc (.cells #[.slice none 0 0, .slice none 0 0, .slice none 0 0] 25)).alloc (.cells #[.int .u64 4611686018427387905, .int .u64 4611686018427387906] 27)).alloc (.cells #[.int .i64 1, .int .i64 1] 3)).alloc (.cells #[.int .u64 5, .int .u64 6] 27)).alloc (.cells #[.int .u64 7] 26)).alloc (.cells #[.int .u64 8] 26)) 44 #[.slice (some ⟨w.heap.size + 1 + 1 + 1 + 1 + 1, 0, none⟩) 1 1, .slice (some ⟨w.heap.size + 1 + 1 + 1 + 1 + 1 + 1, 0, none⟩) 1 1]
    rw [World.size_alloc, World.size_alloc, World.size_alloc, World.size_alloc, World.size_alloc, World.size_alloc, World.size_alloc] at h
    exact ((((h.alloc _).alloc _).alloc _).alloc _)
  · have h := Blk.new ((((((((w.alloc (.cells #[.slice none 0 0, .slice none 0 0, .slice none 0 0] 25)).alloc (.cells #[.slice none 0 0, .slice none 0 0, .slice none 0 0] 25)).alloc (.cells #[.int .u64 4611686018427387905, .int .u64 4611686018427387906] 27)).alloc (.cells #[.int .i64 1, .int .i64 1] 3)).alloc (.cells #[.int .u64 5, .int .u64 6] 27)).alloc (.cells #[.int .u64 7] 26)).alloc (.cells #[.int .u64 8] 26)).alloc (.cells #[.slice (some ⟨w.heap.size + 1 + 1 + 1 + 1 + 1, 0, none⟩) 1 1, .slice (some ⟨w.heap.size + 1 + 1 + 1 + 1 + 1 + 1, 0, none⟩) 1 1] 44)) 26 #[.int .u64 9]
    rw [World.size_alloc, World.size_alloc, World.size_alloc, World.size_alloc, World.size_alloc, World.size_alloc, World.size_alloc, World.size_alloc] at h
    exact (((h.alloc _).alloc _).alloc _)
  · have h := Blk.new (((((((((w.alloc (.cells #[.slice none 0 0, .slice none 0 0, .slice none 0 0] 25)).alloc (.cells #[.slice none 0 0, .slice none 0 0, .slice none 0 0] 25)).alloc (.cells #[.int .u64 4611686018427387905, .int .u64 4611686018427387906] 27)).alloc (.cells #[.int .i64 1, .int .i64 1] 3)).alloc (.cells #[.int .u64 5, .int .u64 6] 27)).alloc (.cells #[.int .u64 7] 26)).alloc (.cells #[.int .u64 8] 26)).alloc (.cells #[.slice (some ⟨w.heap.size + 1 + 1 + 1 + 1 + 1, 0, none⟩) 1 1, .slice (some ⟨w.heap.size + 1 + 1 + 1 + 1 + 1 + 1, 0, none⟩) 1 1] 44)).alloc (.cells #[.int .u64 9] 26)) 26 #[.int .u64 10]
    rw [World.size_alloc, World.size_alloc, World.size_alloc, World.size_alloc, World.size_alloc, World.size_alloc, World.size_alloc, World.size_alloc, World.size_alloc] at h
    exact ((h.alloc _).alloc _)
  · have h := Blk.new ((((((((((w.alloc (.cells #[.slice none 0 0, .slice none 0 0, .slice none 0 0] 25)).alloc (.cells #[.slice none 0 0, .slice none 0 0, .slice none 0 0] 25)).alloc (.cells #[.int .u64 4611686018427387905, .int .u64 4611686018427387906] 27)).alloc (.cells #[.int .i64 1, .int .i64 1] 3)).alloc (.cells #[.int .u64 5, .int .u64 6] 27)).alloc (.cells #[.int .u64 7] 26)).alloc (.cells #[.int .u64 8] 26)).alloc (.cells #[.slice (some ⟨w.heap.size + 1 + 1 + 1 + 1 + 1, 0, none⟩) 1 1, .slice (some ⟨w.heap.size + 1 + 1 + 1 + 1 + 1 + 1, 0, none⟩) 1 1] 44)).alloc (.cells #[.int .u64 9] 26)).alloc (.cells #[.int .u64 10] 26)) 44 #[.slice (some ⟨w.heap.size + 1 + 1 + 1 + 1 + 1 + 1 + 1 + 1, 0, none⟩) 1 1, .slice (some ⟨w.heap.size + 1 + 1 + 1 + 1 + 1 + 1 + 1 + 1 + 1, 0, none⟩) 1 1]
    rw [World.size_alloc, World.size_alloc, World.size_alloc, World.size_alloc, World.size_alloc, World.size_alloc, World.size_alloc, World.size_alloc, World.size_alloc, World.size_alloc] at h
    exact (h.alloc _)
  · have h := Blk.new (((((((((((w.alloc (.cells #[.slice none 0 0, .slice none 0 0, .slice none 0 0] 25)).alloc (.cells #[.slice none 0 0, .slice none 0 0, .slice none 0 0] 25)).alloc (.cells #[.int .u64 4611686018427387905, .int .u64 4611686018427387906] 27)).alloc (.cells #[.int .i64 1, .int .i64 1] 3)).alloc (.cells #[.int .u64 5, .int .u64 6] 27)).alloc (.cells #[.int .u64 7] 26)).alloc (.cells #[.int .u64 8] 26)).alloc (.cells #[.slice (some ⟨w.heap.size + 1 + 1 + 1 + 1 + 1, 0, none⟩) 1 1, .slice (some ⟨w.heap.size + 1 + 1 + 1 + 1 + 1 + 1, 0, none⟩) 1 1] 44)).alloc (.cells #[.int .u64 9] 26)).alloc (.cells #[.int .u64 10] 26)).alloc (.cells #[.slice (some ⟨w.heap.size + 1 + 1 + 1 + 1 + 1 + 1 + 1 + 1, 0, none⟩) 1 1, .slice (some ⟨w.heap.size + 1 + 1 + 1 + 1 + 1 + 1 + 1 + 1 + 1, 0, none⟩) 1 1] 44)) 28 #[.slice (some ⟨w.heap.size + 1 + 1 + 1 + 1 + 1 + 1 + 1, 0, none⟩) 2 2, .slice (some ⟨w.heap.size + 1 + 1 + 1 + 1 + 1 + 1 + 1 + 1 + 1 + 1, 0, none⟩) 2 2]
    rw [World.size_alloc, World.size_alloc, World.size_alloc, World.size_alloc, World.size_alloc, World.size_alloc, World.size_alloc, World.size_alloc, World.size_alloc, World.size_alloc, World.size_alloc] at h
    exact h
  · simp only [World.size_alloc]
  · exact (((((((((((((Below.refl w.heap.size w).alloc (by first | exact Nat.le_refl _ | (simp only [World.size_alloc]; omega)) _).alloc (by first | exact Nat.le_refl _ | (simp only [World.size_alloc]; omega)) _).alloc (by first | exact Nat.le_refl _ | (simp only [World.size_alloc]; omega)) _).alloc (by first | exact Nat.le_refl _ | (simp only [World.size_alloc]; omega)) _).alloc (by first | exact Nat.le_refl _ | (simp only [World.size_alloc]; omega)) _).alloc (by first | exact Nat.le_refl _ | (simp only [World.size_alloc]; omega)) _).alloc (by first | exact Nat.le_refl _ | (simp only [World.size_alloc]; omega)) _).alloc (by first | exact Nat.le_refl _ | (simp only [World.size_alloc]; omega)) _).alloc (by first | exact Nat.le_refl _ | (simp only [World.size_alloc]; omega)) _).alloc (by first | exact Nat.le_refl _ | (simp only [World.size_alloc]; omega)) _).alloc (by first | exact Nat.le_refl _ | (simp only [World.size_alloc]; omega)) _).alloc (by first | exact Nat.le_refl _ | (simp only [World.size_alloc]; omega)) _)
/-- two tables -/
def Got2 (p q : PT) (w : World) (e : Ending) (w' : World) : Prop := ∃ a b : Tab, e = .returned (.tuple #[a.V, b.V]) ∧ a.p = p ∧ b.p = q ∧ TabOk w' w'.heap.size a ∧ TabOk w' w'.heap.size b ∧ Below w.heap.size w w'
set_option maxRecDepth 100000 in
set_option maxHeartbeats 8000000 in
theorem small11_any (w : World) : Calls Try.prog 97 #[] w (Got2 sP1 sP2 w) := by
  obtain ⟨W, hW, k0, k1, k2, k3, k4, k5, k6, k7, k8, k9, k10, k11, hsz, hB⟩ := small11_world w
  have r5 := rwOk_blk (l := [7]) (n := 1) k5 rfl rfl rfl (by omega)
  have r6 := rwOk_blk (l := [8]) (n := 1) k6 rfl rfl rfl (by omega)
  have r8 := rwOk_blk (l := [9]) (n := 1) k8 rfl rfl rfl (by omega)
  have r9 := rwOk_blk (l := [10]) (n := 1) k9 rfl rfl rfl (by omega)
  have co := of_any (some ⟨w.heap.size + 1 + 1, 0, none⟩) 2 2 (some ⟨w.heap.size + 1 + 1 + 1, 0, none⟩) 2 2 [1, 1] (some ⟨w.heap.size + 1 + 1 + 1 + 1, 0, none⟩) 2 2 (some ⟨w.heap.size + 1 + 1 + 1 + 1 + 1 + 1 + 1 + 1 + 1 + 1 + 1, 0, none⟩) 2 2
    [⟨some ⟨w.heap.size + 1 + 1 + 1 + 1 + 1 + 1 + 1, 0, none⟩, 2, 2, [⟨some ⟨w.heap.size + 1 + 1 + 1 + 1 + 1, 0, none⟩, 1, 1, [7]⟩, ⟨some ⟨w.heap.size + 1 + 1 + 1 + 1 + 1 + 1, 0, none⟩, 1, 1, [8]⟩]⟩, ⟨some ⟨w.heap.size + 1 + 1 + 1 + 1 + 1 + 1 + 1 + 1 + 1 + 1, 0, none⟩, 2, 2, [⟨some ⟨w.heap.size + 1 + 1 + 1 + 1 + 1 + 1 + 1 + 1, 0, none⟩, 1, 1, [9]⟩, ⟨some ⟨w.heap.size + 1 + 1 + 1 + 1 + 1 + 1 + 1 + 1 + 1, 0, none⟩, 1, 1, [10]⟩]⟩] W
    (blk_reads k3 rfl) (blk_reads k11 rfl)
    (by
      intro g hg
      simp only [List.mem_cons, List.not_mem_nil, or_false] at hg
      rcases hg with rfl | rfl
      · exact ⟨blk_reads k7 rfl, ⟨by simp, by simp only [maxLen]; omega⟩, fun v hv => by
          simp only [List.mem_cons, List.not_mem_nil, or_false] at hv
          rcases hv with rfl | rfl
          · exact r5
          · exact r6⟩
      · exact ⟨blk_reads k10 rfl, ⟨by simp, by simp only [maxLen]; omega⟩, fun v hv => by
          simp only [List.mem_cons, List.not_mem_nil, or_false] at hv
          rcases hv with rfl | rfl
          · exact r8
          · exact r9⟩)
    (by intro g hg; simp only [List.mem_cons, List.not_mem_nil, or_false] at hg; rcases hg with rfl | rfl <;> simp)
    (by
      intro k
      unfold colOf vls Gr.vl
      match k with
      | 0 => simp
      | 1 => simp
      | k + 2 => simp)
    (by omega) (by omega) (by omega)
  have e2 : ofL (vls [⟨some ⟨w.heap.size + 1 + 1 + 1 + 1 + 1 + 1 + 1, 0, none⟩, 2, 2, [⟨some ⟨w.heap.size + 1 + 1 + 1 + 1 + 1, 0, none⟩, 1, 1, [7]⟩, ⟨some ⟨w.heap.size + 1 + 1 + 1 + 1 + 1 + 1, 0, none⟩, 1, 1, [8]⟩]⟩, ⟨some ⟨w.heap.size + 1 + 1 + 1 + 1 + 1 + 1 + 1 + 1 + 1 + 1, 0, none⟩, 2, 2, [⟨some ⟨w.heap.size + 1 + 1 + 1 + 1 + 1 + 1 + 1 + 1, 0, none⟩, 1, 1, [9]⟩, ⟨some ⟨w.heap.size + 1 + 1 + 1 + 1 + 1 + 1 + 1 + 1 + 1, 0, none⟩, 1, 1, [10]⟩]⟩]) ((2 : Nat) : Int) 0 [1, 1] = [(1, 2, [7, 9]), (1, 2, [8, 10])] := rfl
  rw [e2] at co
  unfold OfR at co
  have cc1 := small1_any 1 4611686018427387905 ⟨by decide, by decide⟩ (by decide)
  have cc2 := small1_any 2 4611686018427387906 ⟨by decide, by decide⟩ (by decide)
  have cc3 := small1_any 3 4611686018427387907 ⟨by decide, by decide⟩ (by decide)
  have cm5 : ∀ w, Calls Try.prog 30 #[.int .u64 0, .int .i64 0, .int .i64 5] w fun e w' => e = .returned (.int .u64 5) ∧ w = w' := fun w => made_any 0 0 5 (.inl rfl) ⟨by decide, by decide⟩ ⟨by decide, by decide⟩ w
  have cm6 : ∀ w, Calls Try.prog 30 #[.int .u64 0, .int .i64 0, .int .i64 6] w fun e w' => e = .returned (.int .u64 6) ∧ w = w' := fun w => made_any 0 0 6 (.inl rfl) ⟨by decide, by decide⟩ ⟨by decide, by decide⟩ w
  have HW := Lib.hid hW
  have K0 := Lib.hid k0
  have K1 := Lib.hid k1
  have K2 := Lib.hid k2
  have K4 := Lib.hid k4
  have HB := Lib.hid hB
  have HSZ := Lib.hid hsz
  clear hW k0 k1 k2 k3 k4 k5 k6 k7 k8 k9 k10 k11 r5 r6 r8 r9 e2 hsz hB
  go_enter Try.func97, Try.ntmps97
  go_upto_region 3 with (first
    | (go_at_call 125; (first | (with_reducible refine (cc1 _).mono ?_) | (with_reducible refine (cc2 _).mono ?_)); rintro en w2 ⟨rfl, rfl⟩)
    | (go_at_call 30; (first | (with_reducible refine (cm5 _).mono ?_) | (with_reducible refine (cm6 _).mono ?_)); rintro en w2 ⟨rfl, rfl⟩)
    | (go_at_call 47; ((rw [← HW.out]); (with_reducible refine co.mono ?_); rintro en w2 ⟨v, F, rfl, ho, hp, hf, hb2⟩; obtain ⟨CA, Cc, rfl⟩ := own_slice ho))
    | fail)
  have HHP := Lib.hid hp
  obtain ⟨X0, hX0⟩ : ∃ X0, X0 = w2.alloc (.cells #[.slice (some ⟨w.heap.size + 1 + 1, 0, none⟩) 2 2, .slice CA F.length Cc, .slice (some ⟨w.heap.size + 1 + 1 + 1 + 1, 0, none⟩) 2 2] 25) := ⟨_, rfl⟩
  have hX : Below w2.heap.size w2 X0 := by rw [hX0]; exact (Below.refl _ _).alloc (Nat.le_refl _) _
  have kX : Blk X0 w2.heap.size 25 #[.slice (some ⟨w.heap.size + 1 + 1, 0, none⟩) 2 2, .slice CA F.length Cc, .slice (some ⟨w.heap.size + 1 + 1 + 1 + 1, 0, none⟩) 2 2] := by rw [hX0]; exact Blk.new w2 _ _
  rw [← hX0]
  have HB2 := Lib.hid hb2
  have HX := Lib.hid hX
  have HO := Lib.hid ho
  have HF := Lib.hid hf
  have HKX := Lib.hid (fun (Y : World) (h : Below X0.heap.size X0 Y) => (blk_cells3 (blk_below kX h)).1)
  have HK := Lib.hid (fun (Y : World) (h : Below X0.heap.size X0 Y) => And.intro (blk_below (blk_below (blk_below K0.out hb2) hX) h) (And.intro (blk_below (blk_below (blk_below K1.out hb2) hX) h) ((HB.out.trans (hb2.mono HB.out.size)).trans ((hX.mono (Nat.le_trans HB.out.size hb2.size)).trans (h.mono (Nat.le_trans (Nat.le_trans HB.out.size hb2.size) hX.size))))))
  obtain ⟨t0, t1, t2⟩ := (blk_cells3 kX).1
  clear hX0 hX kX hb2 ho hf hp co cc1 cm5 cm6
  refine wp_region_stop 8 (fun b w' => match b with | true => True | false => w'.cell? ⟨w2.heap.size, 0, none⟩ = some (.slice (some ⟨w.heap.size + 1 + 1, 0, none⟩) 2 2) ∧ w'.cell? ⟨w2.heap.size, 1, none⟩ = some (.slice CA F.length Cc) ∧ w'.cell? ⟨w2.heap.size, 2, none⟩ = some (.slice (some ⟨w.heap.size + 1 + 1 + 1 + 1, 0, none⟩) 2 2)) (by kernel_rfl) ⟨t0, t1, t2⟩ (fun hHeld => ?_)
  obtain ⟨Y0, hY0⟩ : ∃ Y0, Y0 = X0.drew := ⟨_, rfl⟩
  have hb0 : Below X0.heap.size X0 Y0 := by rw [hY0]; exact (Below.refl _ _).drew
  rw [← hY0] at hHeld
  rw [← hY0]
  clear hY0 t0 t1 t2
  refine wpAnyS_take (i := 0) (oi := _) (v := ?_) rfl (by kernel_rfl) (by kernel_rfl) (by kernel_rfl) (by kernel_rfl) (by kernel_rfl) (fun _ _ _ h => h) (Or.inl ⟨by rfl, ?_⟩) hHeld ?_
  rotate_left
  · intro w hSw; obtain ⟨s0, s1, s2⟩ := hSw; go_simp; try with_reducible rfl
  simp only [Act.put, List.getElem_toArray, List.getElem_cons_succ, List.getElem_cons_zero, List.setIfInBounds_toArray, List.set_cons_zero, List.set_cons_succ]
  refine wpAnyS_take' (i := 1) (oi := _) (v := ?_) rfl (by kernel_rfl) (by kernel_rfl) (by kernel_rfl) (by kernel_rfl) false (by kernel_rfl) (fun _ _ _ h => h) (Or.inl ⟨by rfl, ?_⟩) hHeld ?_
  rotate_left
  · intro w hSw; clear hSw; go_simp; try with_reducible rfl
  simp only [Act.put, List.getElem_toArray, List.getElem_cons_succ, List.getElem_cons_zero, List.setIfInBounds_toArray, List.set_cons_zero, List.set_cons_succ]
  refine wpAnyS_take' (i := 3) (oi := _) (v := ?_) rfl (by kernel_rfl) (by kernel_rfl) (by kernel_rfl) (by kernel_rfl) false (by kernel_rfl) (fun _ _ _ h => h) (Or.inl ⟨by rfl, ?_⟩) hHeld ?_
  rotate_left
  · intro w hSw; clear hSw; go_simp; try with_reducible rfl
  simp only [Act.put, List.getElem_toArray, List.getElem_cons_succ, List.getElem_cons_zero, List.setIfInBounds_toArray, List.set_cons_zero, List.set_cons_succ]
  refine wpAnyS_ready (rs := [2, 6]) (by kernel_rfl) (by simp) (AllReadyS.cons false (by kernel_rfl) (o := _) rfl (fun K hK => ?_) (AllReadyS.cons false (by kernel_rfl) (o := _) rfl (fun K hK => ?_) AllReadyS.nil))
  · skip
    go_simp
    refine (cc2 _).mono ?_
    rintro en wq ⟨rfl, rfl⟩
    refine hK.out _ _ (HKX.out _ hb0) (fun hHeld => ?_)
    clear hK K
    try simp only [Act.put, List.getElem_toArray, List.getElem_cons_succ, List.getElem_cons_zero, List.setIfInBounds_toArray, List.set_cons_zero, List.set_cons_succ]

    refine wpAnyS_ready (rs := [4, 6]) (by kernel_rfl) (by simp) (AllReadyS.cons false (by kernel_rfl) (o := _) rfl (fun K hK => ?_) (AllReadyS.cons false (by kernel_rfl) (o := _) rfl (fun K hK => ?_) AllReadyS.nil))
    · skip
      go_simp
      refine (cc3 _).mono ?_
      rintro en wq ⟨rfl, rfl⟩
      refine hK.out _ _ (HKX.out _ hb0) (fun hHeld => ?_)
      clear hK K
      try simp only [Act.put, List.getElem_toArray, List.getElem_cons_succ, List.getElem_cons_zero, List.setIfInBounds_toArray, List.set_cons_zero, List.set_cons_succ]

      refine wpAnyS_ready (rs := [5, 6]) (by kernel_rfl) (by simp) (AllReadyS.cons false (by kernel_rfl) (o := _) rfl (fun K hK => ?_) (AllReadyS.cons false (by kernel_rfl) (o := _) rfl (fun K hK => ?_) AllReadyS.nil))
      · skip
        go_simp
        obtain ⟨Y0i, hny⟩ : ∃ Y, Y = Y0.alloc (.cells #[.int .u64 4611686018427387906, .int .u64 4611686018427387907] 27) := ⟨_, rfl⟩
        have hst : Below Y0.heap.size Y0 Y0i := by rw [hny]; exact (Below.refl _ _).alloc (Nat.le_refl _) _
        have hbi : Blk Y0i Y0.heap.size 27 #[.int .u64 4611686018427387906, .int .u64 4611686018427387907] := by rw [hny]; exact Blk.new Y0 _ _
        have hb_Y0i : Below X0.heap.size X0 Y0i := hb0.trans (hst.mono hb0.size)
        rw [← hny]
        generalize Y0.heap.size = bi at *
        refine hK.out _ _ (HKX.out _ hb_Y0i) (fun hHeld => ?_)
        clear hK K hny hst
        try simp only [Act.put, List.getElem_toArray, List.getElem_cons_succ, List.getElem_cons_zero, List.setIfInBounds_toArray, List.set_cons_zero, List.set_cons_succ]

        refine wpAnyS_ready (rs := [6]) (by kernel_rfl) (by simp) (AllReadyS.cons false (by kernel_rfl) (o := _) rfl (fun K hK => ?_) AllReadyS.nil)
        go_simp
        obtain ⟨Y0in, hny⟩ : ∃ Y, Y = Y0i.alloc (.cells #[.int .i64 1, .int .i64 2] 3) := ⟨_, rfl⟩
        have hst : Below Y0i.heap.size Y0i Y0in := by rw [hny]; exact (Below.refl _ _).alloc (Nat.le_refl _) _
        have hbn : Blk Y0in Y0i.heap.size 3 #[.int .i64 1, .int .i64 2] := by rw [hny]; exact Blk.new Y0i _ _
        have hbi := blk_below hbi hst
        have hb_Y0in : Below X0.heap.size X0 Y0in := hb_Y0i.trans (hst.mono hb_Y0i.size)
        rw [← hny]
        generalize Y0i.heap.size = bn at *
        refine hK.out _ _ (HKX.out _ hb_Y0in) (fun hHeld => ?_)
        clear hK K hny hst
        try simp only [Act.put, List.getElem_toArray, List.getElem_cons_succ, List.getElem_cons_zero, List.setIfInBounds_toArray, List.set_cons_zero, List.set_cons_succ]

        have hb := hb_Y0in
        generalize Y0in = Y at *
        refine wpAnyS_ready (rs := [7]) (by kernel_rfl) (by simp) (AllReadyS.cons false (by kernel_rfl) (o := _) rfl (fun K hK => ?_) AllReadyS.nil)
        go_simp
        refine (of_none' (some ⟨bi, 0, none⟩) 2 2 (some ⟨bn, 0, none⟩) 2 2 [1, 2] Y (blk_reads hbn rfl) (by omega)).mono ?_
        rintro en Z ⟨v2, F2, rfl, ho2, hp2, hf2, hbz⟩
        obtain ⟨CA2, Cc2, rfl⟩ := own_slice ho2
        have hZ : Below X0.heap.size X0 Z := hb.trans (hbz.mono hb.size)
        have hbi2 := blk_below hbi hbz
        obtain ⟨k0, k1, hbw⟩ := HK.out Z hZ
        obtain ⟨⟨t0, t1, t2⟩, zf⟩ := blk_cells3 k0
        have zf0 := zf 0
        have zf1 := zf 1
        have zf2 := zf 2
        clear zf
        refine hK.out _ _ (HKX.out _ hZ) (fun hHeld => ?_)
        clear hK K
        try simp only [Act.put, List.getElem_toArray, List.getElem_cons_succ, List.getElem_cons_zero, List.setIfInBounds_toArray, List.set_cons_zero, List.set_cons_succ]
        refine wpAnyS_ready (rs := [8]) (by kernel_rfl) (by simp) (AllReadyS.cons true (by kernel_rfl) (o := _) rfl (fun K hK => ?_) AllReadyS.nil)
        go_simp
        obtain ⟨x3, hx3⟩ : ∃ x3, x3 = set3 Z w.heap.size (.slice (some ⟨w.heap.size + 1 + 1, 0, none⟩) 2 2) (.slice CA F.length Cc) (.slice (some ⟨w.heap.size + 1 + 1 + 1 + 1, 0, none⟩) 2 2) := ⟨_, rfl⟩
        have j0 := set3_blk k0 (.slice (some ⟨w.heap.size + 1 + 1, 0, none⟩) 2 2) (.slice CA F.length Cc) (.slice (some ⟨w.heap.size + 1 + 1 + 1 + 1, 0, none⟩) 2 2)
        have j1 := set3_far (g := w.heap.size) k1 (by omega) (.slice (some ⟨w.heap.size + 1 + 1, 0, none⟩) 2 2) (.slice CA F.length Cc) (.slice (some ⟨w.heap.size + 1 + 1 + 1 + 1, 0, none⟩) 2 2)
        have jk := set3_keep k0 (.slice (some ⟨w.heap.size + 1 + 1, 0, none⟩) 2 2) (.slice CA F.length Cc) (.slice (some ⟨w.heap.size + 1 + 1 + 1 + 1, 0, none⟩) 2 2)
        have jb := hbw.trans (set3_below (W := Z) (Nat.le_refl w.heap.size) (.slice (some ⟨w.heap.size + 1 + 1, 0, none⟩) 2 2) (.slice CA F.length Cc) (.slice (some ⟨w.heap.size + 1 + 1 + 1 + 1, 0, none⟩) 2 2))
        rw [← hx3] at j0 j1 jk jb
        change K _ (set3 Z w.heap.size (.slice (some ⟨w.heap.size + 1 + 1, 0, none⟩) 2 2) (.slice CA F.length Cc) (.slice (some ⟨w.heap.size + 1 + 1 + 1 + 1, 0, none⟩) 2 2))
        rw [← hx3]
        clear t0 t1 t2 zf0 zf1 zf2 hx3
        obtain ⟨⟨t0, t1, t2⟩, zf⟩ := blk_cells3 j1
        have zf0 := zf 0
        have zf1 := zf 1
        have zf2 := zf 2
        clear zf
        refine hK.out _ _ trivial (fun hHeld => ?_)
        clear hK K
        try simp only [Act.put, List.getElem_toArray, List.getElem_cons_succ, List.getElem_cons_zero, List.setIfInBounds_toArray, List.set_cons_zero, List.set_cons_succ]
        refine wpAnyS_ready (rs := [9]) (by kernel_rfl) (by simp) (AllReadyS.cons true (by kernel_rfl) (o := _) rfl (fun K hK => ?_) AllReadyS.nil)
        go_simp
        obtain ⟨x4, hx4⟩ : ∃ x4, x4 = set3 x3 (w.heap.size + 1) (.slice (some ⟨bi, 0, none⟩) 2 2) (.slice CA2 F2.length Cc2) (.slice none 0 0) := ⟨_, rfl⟩
        have i0 := set3_far (g := w.heap.size + 1) j0 (by omega) (.slice (some ⟨bi, 0, none⟩) 2 2) (.slice CA2 F2.length Cc2) (.slice none 0 0)
        have i1 := set3_blk j1 (.slice (some ⟨bi, 0, none⟩) 2 2) (.slice CA2 F2.length Cc2) (.slice none 0 0)
        have ik := jk.trans (set3_keep j1 (.slice (some ⟨bi, 0, none⟩) 2 2) (.slice CA2 F2.length Cc2) (.slice none 0 0))
        have ib := jb.trans (set3_below (W := x3) (B := w.heap.size) (g := w.heap.size + 1) (by omega) (.slice (some ⟨bi, 0, none⟩) 2 2) (.slice CA2 F2.length Cc2) (.slice none 0 0))
        rw [← hx4] at i0 i1 ik ib
        change K _ (set3 x3 (w.heap.size + 1) (.slice (some ⟨bi, 0, none⟩) 2 2) (.slice CA2 F2.length Cc2) (.slice none 0 0))
        rw [← hx4]
        clear hx4 t0 t1 t2 zf0 zf1 zf2
        refine hK.out _ _ trivial (fun hHeld => ?_)
        clear hK K
        try simp only [Act.put, List.getElem_toArray, List.getElem_cons_succ, List.getElem_cons_zero, List.setIfInBounds_toArray, List.set_cons_zero, List.set_cons_succ]
        refine wpAnyS_done (by kernel_rfl) ?_ _
        obtain ⟨⟨m0, m1, m2⟩, _⟩ := blk_cells3 i0
        obtain ⟨⟨m3, m4, m5⟩, _⟩ := blk_cells3 i1
        have IK := Lib.hid ik
        have IB := Lib.hid ib
        have BI := Lib.hid hbi2
        have HZ := Lib.hid hZ
        have HBZ := Lib.hid hbz
        have HO2 := Lib.hid ho2
        have HF2 := Lib.hid hf2
        have HP2 := Lib.hid hp2
        clear ik ib hbi2 hZ hbz ho2 hf2 hp2 i0 i1 j0 j1 jk jb k0 k1 hbw hHeld hbi hbn
        go_wp2_with fail
        refine bodyPost_ret (v := .tuple #[.agg #[.slice (some ⟨w.heap.size + 1 + 1, 0, none⟩) 2 2, .slice CA F.length Cc, .slice (some ⟨w.heap.size + 1 + 1 + 1 + 1, 0, none⟩) 2 2], .agg #[.slice (some ⟨bi, 0, none⟩) 2 2, .slice CA2 F2.length Cc2, .slice none 0 0]]) (by simp [results, Try.results97, go_sem, m0, m1, m2, m3, m4, m5]) rfl ?_
        have hkt : KeepT w2 x4 := ((KeepT.below HX.out).trans (KeepT.below HZ.out)).trans IK.out
        have hkW : KeepT W x4 := (KeepT.below HB2.out).trans hkt
        have k2' := hkW.2 _ _ _ (.inr (.inl rfl)) K2.out
        have k4' := hkW.2 _ _ _ (.inr (.inl rfl)) K4.out
        obtain ⟨ta, hta, htap, htao⟩ := tabOk_of (w := W) (l := [4611686018427387905, 4611686018427387906]) (m := [5, 6]) (An := 2) (Bn := 2) (Ac := 2) (Bc := 2) HHP.out (blk_reads k2' rfl) ⟨by omega, by simp only [maxLen]; omega⟩ (word_all rfl) (blk_reads k4' rfl) ⟨by omega, by simp only [maxLen]; omega⟩ (word_all rfl) (ownCol_keep hkt HO.out) (fun x hx => colFresh_keep hkt (HF.out x hx))
        obtain ⟨tb, htb, htbp, htbo⟩ := tabOk_of (w := Y) (l := [4611686018427387906, 4611686018427387907]) (m := []) (An := 2) (Bn := 0) (Ac := 2) (Bc := 0) HP2.out (blk_reads (IK.out.2 _ _ _ (.inr (.inl rfl)) BI.out) rfl) ⟨by omega, by simp only [maxLen]; omega⟩ (word_all rfl) Reads.none_ ⟨by omega, by simp only [maxLen]; omega⟩ (by simp) (ownCol_keep IK.out HO2.out) (fun x hx => colFresh_keep IK.out (HF2.out x hx))
        exact ⟨ta, tb, by rw [hta, htb], htap, htbp, htao, htbo, IB.out⟩
      · skip
        go_simp
        obtain ⟨Y0n, hny⟩ : ∃ Y, Y = Y0.alloc (.cells #[.int .i64 1, .int .i64 2] 3) := ⟨_, rfl⟩
        have hst : Below Y0.heap.size Y0 Y0n := by rw [hny]; exact (Below.refl _ _).alloc (Nat.le_refl _) _
        have hbn : Blk Y0n Y0.heap.size 3 #[.int .i64 1, .int .i64 2] := by rw [hny]; exact Blk.new Y0 _ _
        have hb_Y0n : Below X0.heap.size X0 Y0n := hb0.trans (hst.mono hb0.size)
        rw [← hny]
        generalize Y0.heap.size = bn at *
        refine hK.out _ _ (HKX.out _ hb_Y0n) (fun hHeld => ?_)
        clear hK K hny hst
        try simp only [Act.put, List.getElem_toArray, List.getElem_cons_succ, List.getElem_cons_zero, List.setIfInBounds_toArray, List.set_cons_zero, List.set_cons_succ]

        refine wpAnyS_ready (rs := [5]) (by kernel_rfl) (by simp) (AllReadyS.cons false (by kernel_rfl) (o := _) rfl (fun K hK => ?_) AllReadyS.nil)
        go_simp
        obtain ⟨Y0ni, hny⟩ : ∃ Y, Y = Y0n.alloc (.cells #[.int .u64 4611686018427387906, .int .u64 4611686018427387907] 27) := ⟨_, rfl⟩
        have hst : Below Y0n.heap.size Y0n Y0ni := by rw [hny]; exact (Below.refl _ _).alloc (Nat.le_refl _) _
        have hbi : Blk Y0ni Y0n.heap.size 27 #[.int .u64 4611686018427387906, .int .u64 4611686018427387907] := by rw [hny]; exact Blk.new Y0n _ _
        have hbn := blk_below hbn hst
        have hb_Y0ni : Below X0.heap.size X0 Y0ni := hb_Y0n.trans (hst.mono hb_Y0n.size)
        rw [← hny]
        generalize Y0n.heap.size = bi at *
        refine hK.out _ _ (HKX.out _ hb_Y0ni) (fun hHeld => ?_)
        clear hK K hny hst
        try simp only [Act.put, List.getElem_toArray, List.getElem_cons_succ, List.getElem_cons_zero, List.setIfInBounds_toArray, List.set_cons_zero, List.set_cons_succ]

        have hb := hb_Y0ni
        generalize Y0ni = Y at *
        refine wpAnyS_ready (rs := [7]) (by kernel_rfl) (by simp) (AllReadyS.cons false (by kernel_rfl) (o := _) rfl (fun K hK => ?_) AllReadyS.nil)
        go_simp
        refine (of_none' (some ⟨bi, 0, none⟩) 2 2 (some ⟨bn, 0, none⟩) 2 2 [1, 2] Y (blk_reads hbn rfl) (by omega)).mono ?_
        rintro en Z ⟨v2, F2, rfl, ho2, hp2, hf2, hbz⟩
        obtain ⟨CA2, Cc2, rfl⟩ := own_slice ho2
        have hZ : Below X0.heap.size X0 Z := hb.trans (hbz.mono hb.size)
        have hbi2 := blk_below hbi hbz
        obtain ⟨k0, k1, hbw⟩ := HK.out Z hZ
        obtain ⟨⟨t0, t1, t2⟩, zf⟩ := blk_cells3 k0
        have zf0 := zf 0
        have zf1 := zf 1
        have zf2 := zf 2
        clear zf
        refine hK.out _ _ (HKX.out _ hZ) (fun hHeld => ?_)
        clear hK K
        try simp only [Act.put, List.getElem_toArray, List.getElem_cons_succ, List.getElem_cons_zero, List.setIfInBounds_toArray, List.set_cons_zero, List.set_cons_succ]
        refine wpAnyS_ready (rs := [8]) (by kernel_rfl) (by simp) (AllReadyS.cons true (by kernel_rfl) (o := _) rfl (fun K hK => ?_) AllReadyS.nil)
        go_simp
        obtain ⟨x3, hx3⟩ : ∃ x3, x3 = set3 Z w.heap.size (.slice (some ⟨w.heap.size + 1 + 1, 0, none⟩) 2 2) (.slice CA F.length Cc) (.slice (some ⟨w.heap.size + 1 + 1 + 1 + 1, 0, none⟩) 2 2) := ⟨_, rfl⟩
        have j0 := set3_blk k0 (.slice (some ⟨w.heap.size + 1 + 1, 0, none⟩) 2 2) (.slice CA F.length Cc) (.slice (some ⟨w.heap.size + 1 + 1 + 1 + 1, 0, none⟩) 2 2)
        have j1 := set3_far (g := w.heap.size) k1 (by omega) (.slice (some ⟨w.heap.size + 1 + 1, 0, none⟩) 2 2) (.slice CA F.length Cc) (.slice (some ⟨w.heap.size + 1 + 1 + 1 + 1, 0, none⟩) 2 2)
        have jk := set3_keep k0 (.slice (some ⟨w.heap.size + 1 + 1, 0, none⟩) 2 2) (.slice CA F.length Cc) (.slice (some ⟨w.heap.size + 1 + 1 + 1 + 1, 0, none⟩) 2 2)
        have jb := hbw.trans (set3_below (W := Z) (Nat.le_refl w.heap.size) (.slice (some ⟨w.heap.size + 1 + 1, 0, none⟩) 2 2) (.slice CA F.length Cc) (.slice (some ⟨w.heap.size + 1 + 1 + 1 + 1, 0, none⟩) 2 2))
        rw [← hx3] at j0 j1 jk jb
        change K _ (set3 Z w.heap.size (.slice (some ⟨w.heap.size + 1 + 1, 0, none⟩) 2 2) (.slice CA F.length Cc) (.slice (some ⟨w.heap.size + 1 + 1 + 1 + 1, 0, none⟩) 2 2))
        rw [← hx3]
        clear t0 t1 t2 zf0 zf1 zf2 hx3
        obtain ⟨⟨t0, t1, t2⟩, zf⟩ := blk_cells3 j1
        have zf0 := zf 0
        have zf1 := zf 1
        have zf2 := zf 2
        clear zf
        refine hK.out _ _ trivial (fun hHeld => ?_)
        clear hK K
        try simp only [Act.put, List.getElem_toArray, List.getElem_cons_succ, List.getElem_cons_zero, List.setIfInBounds_toArray, List.set_cons_zero, List.set_cons_succ]
        refine wpAnyS_ready (rs := [9]) (by kernel_rfl) (by simp) (AllReadyS.cons true (by kernel_rfl) (o := _) rfl (fun K hK => ?_) AllReadyS.nil)
        go_simp
        obtain ⟨x4, hx4⟩ : ∃ x4, x4 = set3 x3 (w.heap.size + 1) (.slice (some ⟨bi, 0, none⟩) 2 2) (.slice CA2 F2.length Cc2) (.slice none 0 0) := ⟨_, rfl⟩
        have i0 := set3_far (g := w.heap.size + 1) j0 (by omega) (.slice (some ⟨bi, 0, none⟩) 2 2) (.slice CA2 F2.length Cc2) (.slice none 0 0)
        have i1 := set3_blk j1 (.slice (some ⟨bi, 0, none⟩) 2 2) (.slice CA2 F2.length Cc2) (.slice none 0 0)
        have ik := jk.trans (set3_keep j1 (.slice (some ⟨bi, 0, none⟩) 2 2) (.slice CA2 F2.length Cc2) (.slice none 0 0))
        have ib := jb.trans (set3_below (W := x3) (B := w.heap.size) (g := w.heap.size + 1) (by omega) (.slice (some ⟨bi, 0, none⟩) 2 2) (.slice CA2 F2.length Cc2) (.slice none 0 0))
        rw [← hx4] at i0 i1 ik ib
        change K _ (set3 x3 (w.heap.size + 1) (.slice (some ⟨bi, 0, none⟩) 2 2) (.slice CA2 F2.length Cc2) (.slice none 0 0))
        rw [← hx4]
        clear hx4 t0 t1 t2 zf0 zf1 zf2
        refine hK.out _ _ trivial (fun hHeld => ?_)
        clear hK K
        try simp only [Act.put, List.getElem_toArray, List.getElem_cons_succ, List.getElem_cons_zero, List.setIfInBounds_toArray, List.set_cons_zero, List.set_cons_succ]
        refine wpAnyS_done (by kernel_rfl) ?_ _
        obtain ⟨⟨m0, m1, m2⟩, _⟩ := blk_cells3 i0
        obtain ⟨⟨m3, m4, m5⟩, _⟩ := blk_cells3 i1
        have IK := Lib.hid ik
        have IB := Lib.hid ib
        have BI := Lib.hid hbi2
        have HZ := Lib.hid hZ
        have HBZ := Lib.hid hbz
        have HO2 := Lib.hid ho2
        have HF2 := Lib.hid hf2
        have HP2 := Lib.hid hp2
        clear ik ib hbi2 hZ hbz ho2 hf2 hp2 i0 i1 j0 j1 jk jb k0 k1 hbw hHeld hbi hbn
        go_wp2_with fail
        refine bodyPost_ret (v := .tuple #[.agg #[.slice (some ⟨w.heap.size + 1 + 1, 0, none⟩) 2 2, .slice CA F.length Cc, .slice (some ⟨w.heap.size + 1 + 1 + 1 + 1, 0, none⟩) 2 2], .agg #[.slice (some ⟨bi, 0, none⟩) 2 2, .slice CA2 F2.length Cc2, .slice none 0 0]]) (by simp [results, Try.results97, go_sem, m0, m1, m2, m3, m4, m5]) rfl ?_
        have hkt : KeepT w2 x4 := ((KeepT.below HX.out).trans (KeepT.below HZ.out)).trans IK.out
        have hkW : KeepT W x4 := (KeepT.below HB2.out).trans hkt
        have k2' := hkW.2 _ _ _ (.inr (.inl rfl)) K2.out
        have k4' := hkW.2 _ _ _ (.inr (.inl rfl)) K4.out
        obtain ⟨ta, hta, htap, htao⟩ := tabOk_of (w := W) (l := [4611686018427387905, 4611686018427387906]) (m := [5, 6]) (An := 2) (Bn := 2) (Ac := 2) (Bc := 2) HHP.out (blk_reads k2' rfl) ⟨by omega, by simp only [maxLen]; omega⟩ (word_all rfl) (blk_reads k4' rfl) ⟨by omega, by simp only [maxLen]; omega⟩ (word_all rfl) (ownCol_keep hkt HO.out) (fun x hx => colFresh_keep hkt (HF.out x hx))
        obtain ⟨tb, htb, htbp, htbo⟩ := tabOk_of (w := Y) (l := [4611686018427387906, 4611686018427387907]) (m := []) (An := 2) (Bn := 0) (Ac := 2) (Bc := 0) HP2.out (blk_reads (IK.out.2 _ _ _ (.inr (.inl rfl)) BI.out) rfl) ⟨by omega, by simp only [maxLen]; omega⟩ (word_all rfl) Reads.none_ ⟨by omega, by simp only [maxLen]; omega⟩ (by simp) (ownCol_keep IK.out HO2.out) (fun x hx => colFresh_keep IK.out (HF2.out x hx))
        exact ⟨ta, tb, by rw [hta, htb], htap, htbp, htao, htbo, IB.out⟩
    · skip
      go_simp
      obtain ⟨Y0n, hny⟩ : ∃ Y, Y = Y0.alloc (.cells #[.int .i64 1, .int .i64 2] 3) := ⟨_, rfl⟩
      have hst : Below Y0.heap.size Y0 Y0n := by rw [hny]; exact (Below.refl _ _).alloc (Nat.le_refl _) _
      have hbn : Blk Y0n Y0.heap.size 3 #[.int .i64 1, .int .i64 2] := by rw [hny]; exact Blk.new Y0 _ _
      have hb_Y0n : Below X0.heap.size X0 Y0n := hb0.trans (hst.mono hb0.size)
      rw [← hny]
      generalize Y0.heap.size = bn at *
      refine hK.out _ _ (HKX.out _ hb_Y0n) (fun hHeld => ?_)
      clear hK K hny hst
      try simp only [Act.put, List.getElem_toArray, List.getElem_cons_succ, List.getElem_cons_zero, List.setIfInBounds_toArray, List.set_cons_zero, List.set_cons_succ]

      refine wpAnyS_ready (rs := [4]) (by kernel_rfl) (by simp) (AllReadyS.cons false (by kernel_rfl) (o := _) rfl (fun K hK => ?_) AllReadyS.nil)
      go_simp
      refine (cc3 _).mono ?_
      rintro en wq ⟨rfl, rfl⟩
      refine hK.out _ _ (HKX.out _ hb_Y0n) (fun hHeld => ?_)
      clear hK K
      try simp only [Act.put, List.getElem_toArray, List.getElem_cons_succ, List.getElem_cons_zero, List.setIfInBounds_toArray, List.set_cons_zero, List.set_cons_succ]

      refine wpAnyS_ready (rs := [5]) (by kernel_rfl) (by simp) (AllReadyS.cons false (by kernel_rfl) (o := _) rfl (fun K hK => ?_) AllReadyS.nil)
      go_simp
      obtain ⟨Y0ni, hny⟩ : ∃ Y, Y = Y0n.alloc (.cells #[.int .u64 4611686018427387906, .int .u64 4611686018427387907] 27) := ⟨_, rfl⟩
      have hst : Below Y0n.heap.size Y0n Y0ni := by rw [hny]; exact (Below.refl _ _).alloc (Nat.le_refl _) _
      have hbi : Blk Y0ni Y0n.heap.size 27 #[.int .u64 4611686018427387906, .int .u64 4611686018427387907] := by rw [hny]; exact Blk.new Y0n _ _
      have hbn := blk_below hbn hst
      have hb_Y0ni : Below X0.heap.size X0 Y0ni := hb_Y0n.trans (hst.mono hb_Y0n.size)
      rw [← hny]
      generalize Y0n.heap.size = bi at *
      refine hK.out _ _ (HKX.out _ hb_Y0ni) (fun hHeld => ?_)
      clear hK K hny hst
      try simp only [Act.put, List.getElem_toArray, List.getElem_cons_succ, List.getElem_cons_zero, List.setIfInBounds_toArray, List.set_cons_zero, List.set_cons_succ]

      have hb := hb_Y0ni
      generalize Y0ni = Y at *
      refine wpAnyS_ready (rs := [7]) (by kernel_rfl) (by simp) (AllReadyS.cons false (by kernel_rfl) (o := _) rfl (fun K hK => ?_) AllReadyS.nil)
      go_simp
      refine (of_none' (some ⟨bi, 0, none⟩) 2 2 (some ⟨bn, 0, none⟩) 2 2 [1, 2] Y (blk_reads hbn rfl) (by omega)).mono ?_
      rintro en Z ⟨v2, F2, rfl, ho2, hp2, hf2, hbz⟩
      obtain ⟨CA2, Cc2, rfl⟩ := own_slice ho2
      have hZ : Below X0.heap.size X0 Z := hb.trans (hbz.mono hb.size)
      have hbi2 := blk_below hbi hbz
      obtain ⟨k0, k1, hbw⟩ := HK.out Z hZ
      obtain ⟨⟨t0, t1, t2⟩, zf⟩ := blk_cells3 k0
      have zf0 := zf 0
      have zf1 := zf 1
      have zf2 := zf 2
      clear zf
      refine hK.out _ _ (HKX.out _ hZ) (fun hHeld => ?_)
      clear hK K
      try simp only [Act.put, List.getElem_toArray, List.getElem_cons_succ, List.getElem_cons_zero, List.setIfInBounds_toArray, List.set_cons_zero, List.set_cons_succ]
      refine wpAnyS_ready (rs := [8]) (by kernel_rfl) (by simp) (AllReadyS.cons true (by kernel_rfl) (o := _) rfl (fun K hK => ?_) AllReadyS.nil)
      go_simp
      obtain ⟨x3, hx3⟩ : ∃ x3, x3 = set3 Z w.heap.size (.slice (some ⟨w.heap.size + 1 + 1, 0, none⟩) 2 2) (.slice CA F.length Cc) (.slice (some ⟨w.heap.size + 1 + 1 + 1 + 1, 0, none⟩) 2 2) := ⟨_, rfl⟩
      have j0 := set3_blk k0 (.slice (some ⟨w.heap.size + 1 + 1, 0, none⟩) 2 2) (.slice CA F.length Cc) (.slice (some ⟨w.heap.size + 1 + 1 + 1 + 1, 0, none⟩) 2 2)
      have j1 := set3_far (g := w.heap.size) k1 (by omega) (.slice (some ⟨w.heap.size + 1 + 1, 0, none⟩) 2 2) (.slice CA F.length Cc) (.slice (some ⟨w.heap.size + 1 + 1 + 1 + 1, 0, none⟩) 2 2)
      have jk := set3_keep k0 (.slice (some ⟨w.heap.size + 1 + 1, 0, none⟩) 2 2) (.slice CA F.length Cc) (.slice (some ⟨w.heap.size + 1 + 1 + 1 + 1, 0, none⟩) 2 2)
      have jb := hbw.trans (set3_below (W := Z) (Nat.le_refl w.heap.size) (.slice (some ⟨w.heap.size + 1 + 1, 0, none⟩) 2 2) (.slice CA F.length Cc) (.slice (some ⟨w.heap.size + 1 + 1 + 1 + 1, 0, none⟩) 2 2))
      rw [← hx3] at j0 j1 jk jb
      change K _ (set3 Z w.heap.size (.slice (some ⟨w.heap.size + 1 + 1, 0, none⟩) 2 2) (.slice CA F.length Cc) (.slice (some ⟨w.heap.size + 1 + 1 + 1 + 1, 0, none⟩) 2 2))
      rw [← hx3]
      clear t0 t1 t2 zf0 zf1 zf2 hx3
      obtain ⟨⟨t0, t1, t2⟩, zf⟩ := blk_cells3 j1
      have zf0 := zf 0
      have zf1 := zf 1
      have zf2 := zf 2
      clear zf
      refine hK.out _ _ trivial (fun hHeld => ?_)
      clear hK K
      try simp only [Act.put, List.getElem_toArray, List.getElem_cons_succ, List.getElem_cons_zero, List.setIfInBounds_toArray, List.set_cons_zero, List.set_cons_succ]
      refine wpAnyS_ready (rs := [9]) (by kernel_rfl) (by simp) (AllReadyS.cons true (by kernel_rfl) (o := _) rfl (fun K hK => ?_) AllReadyS.nil)
      go_simp
      obtain ⟨x4, hx4⟩ : ∃ x4, x4 = set3 x3 (w.heap.size + 1) (.slice (some ⟨bi, 0, none⟩) 2 2) (.slice CA2 F2.length Cc2) (.slice none 0 0) := ⟨_, rfl⟩
      have i0 := set3_far (g := w.heap.size + 1) j0 (by omega) (.slice (some ⟨bi, 0, none⟩) 2 2) (.slice CA2 F2.length Cc2) (.slice none 0 0)
      have i1 := set3_blk j1 (.slice (some ⟨bi, 0, none⟩) 2 2) (.slice CA2 F2.length Cc2) (.slice none 0 0)
      have ik := jk.trans (set3_keep j1 (.slice (some ⟨bi, 0, none⟩) 2 2) (.slice CA2 F2.length Cc2) (.slice none 0 0))
      have ib := jb.trans (set3_below (W := x3) (B := w.heap.size) (g := w.heap.size + 1) (by omega) (.slice (some ⟨bi, 0, none⟩) 2 2) (.slice CA2 F2.length Cc2) (.slice none 0 0))
      rw [← hx4] at i0 i1 ik ib
      change K _ (set3 x3 (w.heap.size + 1) (.slice (some ⟨bi, 0, none⟩) 2 2) (.slice CA2 F2.length Cc2) (.slice none 0 0))
      rw [← hx4]
      clear hx4 t0 t1 t2 zf0 zf1 zf2
      refine hK.out _ _ trivial (fun hHeld => ?_)
      clear hK K
      try simp only [Act.put, List.getElem_toArray, List.getElem_cons_succ, List.getElem_cons_zero, List.setIfInBounds_toArray, List.set_cons_zero, List.set_cons_succ]
      refine wpAnyS_done (by kernel_rfl) ?_ _
      obtain ⟨⟨m0, m1, m2⟩, _⟩ := blk_cells3 i0
      obtain ⟨⟨m3, m4, m5⟩, _⟩ := blk_cells3 i1
      have IK := Lib.hid ik
      have IB := Lib.hid ib
      have BI := Lib.hid hbi2
      have HZ := Lib.hid hZ
      have HBZ := Lib.hid hbz
      have HO2 := Lib.hid ho2
      have HF2 := Lib.hid hf2
      have HP2 := Lib.hid hp2
      clear ik ib hbi2 hZ hbz ho2 hf2 hp2 i0 i1 j0 j1 jk jb k0 k1 hbw hHeld hbi hbn
      go_wp2_with fail
      refine bodyPost_ret (v := .tuple #[.agg #[.slice (some ⟨w.heap.size + 1 + 1, 0, none⟩) 2 2, .slice CA F.length Cc, .slice (some ⟨w.heap.size + 1 + 1 + 1 + 1, 0, none⟩) 2 2], .agg #[.slice (some ⟨bi, 0, none⟩) 2 2, .slice CA2 F2.length Cc2, .slice none 0 0]]) (by simp [results, Try.results97, go_sem, m0, m1, m2, m3, m4, m5]) rfl ?_
      have hkt : KeepT w2 x4 := ((KeepT.below HX.out).trans (KeepT.below HZ.out)).trans IK.out
      have hkW : KeepT W x4 := (KeepT.below HB2.out).trans hkt
      have k2' := hkW.2 _ _ _ (.inr (.inl rfl)) K2.out
      have k4' := hkW.2 _ _ _ (.inr (.inl rfl)) K4.out
      obtain ⟨ta, hta, htap, htao⟩ := tabOk_of (w := W) (l := [4611686018427387905, 4611686018427387906]) (m := [5, 6]) (An := 2) (Bn := 2) (Ac := 2) (Bc := 2) HHP.out (blk_reads k2' rfl) ⟨by omega, by simp only [maxLen]; omega⟩ (word_all rfl) (blk_reads k4' rfl) ⟨by omega, by simp only [maxLen]; omega⟩ (word_all rfl) (ownCol_keep hkt HO.out) (fun x hx => colFresh_keep hkt (HF.out x hx))
      obtain ⟨tb, htb, htbp, htbo⟩ := tabOk_of (w := Y) (l := [4611686018427387906, 4611686018427387907]) (m := []) (An := 2) (Bn := 0) (Ac := 2) (Bc := 0) HP2.out (blk_reads (IK.out.2 _ _ _ (.inr (.inl rfl)) BI.out) rfl) ⟨by omega, by simp only [maxLen]; omega⟩ (word_all rfl) Reads.none_ ⟨by omega, by simp only [maxLen]; omega⟩ (by simp) (ownCol_keep IK.out HO2.out) (fun x hx => colFresh_keep IK.out (HF2.out x hx))
      exact ⟨ta, tb, by rw [hta, htb], htap, htbp, htao, htbo, IB.out⟩
  · skip
    go_simp
    obtain ⟨Y0n, hny⟩ : ∃ Y, Y = Y0.alloc (.cells #[.int .i64 1, .int .i64 2] 3) := ⟨_, rfl⟩
    have hst : Below Y0.heap.size Y0 Y0n := by rw [hny]; exact (Below.refl _ _).alloc (Nat.le_refl _) _
    have hbn : Blk Y0n Y0.heap.size 3 #[.int .i64 1, .int .i64 2] := by rw [hny]; exact Blk.new Y0 _ _
    have hb_Y0n : Below X0.heap.size X0 Y0n := hb0.trans (hst.mono hb0.size)
    rw [← hny]
    generalize Y0.heap.size = bn at *
    refine hK.out _ _ (HKX.out _ hb_Y0n) (fun hHeld => ?_)
    clear hK K hny hst
    try simp only [Act.put, List.getElem_toArray, List.getElem_cons_succ, List.getElem_cons_zero, List.setIfInBounds_toArray, List.set_cons_zero, List.set_cons_succ]

    refine wpAnyS_ready (rs := [2]) (by kernel_rfl) (by simp) (AllReadyS.cons false (by kernel_rfl) (o := _) rfl (fun K hK => ?_) AllReadyS.nil)
    go_simp
    refine (cc2 _).mono ?_
    rintro en wq ⟨rfl, rfl⟩
    refine hK.out _ _ (HKX.out _ hb_Y0n) (fun hHeld => ?_)
    clear hK K
    try simp only [Act.put, List.getElem_toArray, List.getElem_cons_succ, List.getElem_cons_zero, List.setIfInBounds_toArray, List.set_cons_zero, List.set_cons_succ]

    refine wpAnyS_ready (rs := [4]) (by kernel_rfl) (by simp) (AllReadyS.cons false (by kernel_rfl) (o := _) rfl (fun K hK => ?_) AllReadyS.nil)
    go_simp
    refine (cc3 _).mono ?_
    rintro en wq ⟨rfl, rfl⟩
    refine hK.out _ _ (HKX.out _ hb_Y0n) (fun hHeld => ?_)
    clear hK K
    try simp only [Act.put, List.getElem_toArray, List.getElem_cons_succ, List.getElem_cons_zero, List.setIfInBounds_toArray, List.set_cons_zero, List.set_cons_succ]

    refine wpAnyS_ready (rs := [5]) (by kernel_rfl) (by simp) (AllReadyS.cons false (by kernel_rfl) (o := _) rfl (fun K hK => ?_) AllReadyS.nil)
    go_simp
    obtain ⟨Y0ni, hny⟩ : ∃ Y, Y = Y0n.alloc (.cells #[.int .u64 4611686018427387906, .int .u64 4611686018427387907] 27) := ⟨_, rfl⟩
    have hst : Below Y0n.heap.size Y0n Y0ni := by rw [hny]; exact (Below.refl _ _).alloc (Nat.le_refl _) _
    have hbi : Blk Y0ni Y0n.heap.size 27 #[.int .u64 4611686018427387906, .int .u64 4611686018427387907] := by rw [hny]; exact Blk.new Y0n _ _
    have hbn := blk_below hbn hst
    have hb_Y0ni : Below X0.heap.size X0 Y0ni := hb_Y0n.trans (hst.mono hb_Y0n.size)
    rw [← hny]
    generalize Y0n.heap.size = bi at *
    refine hK.out _ _ (HKX.out _ hb_Y0ni) (fun hHeld => ?_)
    clear hK K hny hst
    try simp only [Act.put, List.getElem_toArray, List.getElem_cons_succ, List.getElem_cons_zero, List.setIfInBounds_toArray, List.set_cons_zero, List.set_cons_succ]

    have hb := hb_Y0ni
    generalize Y0ni = Y at *
    refine wpAnyS_ready (rs := [7]) (by kernel_rfl) (by simp) (AllReadyS.cons false (by kernel_rfl) (o := _) rfl (fun K hK => ?_) AllReadyS.nil)
    go_simp
    refine (of_none' (some ⟨bi, 0, none⟩) 2 2 (some ⟨bn, 0, none⟩) 2 2 [1, 2] Y (blk_reads hbn rfl) (by omega)).mono ?_
    rintro en Z ⟨v2, F2, rfl, ho2, hp2, hf2, hbz⟩
    obtain ⟨CA2, Cc2, rfl⟩ := own_slice ho2
    have hZ : Below X0.heap.size X0 Z := hb.trans (hbz.mono hb.size)
    have hbi2 := blk_below hbi hbz
    obtain ⟨k0, k1, hbw⟩ := HK.out Z hZ
    obtain ⟨⟨t0, t1, t2⟩, zf⟩ := blk_cells3 k0
    have zf0 := zf 0
    have zf1 := zf 1
    have zf2 := zf 2
    clear zf
    refine hK.out _ _ (HKX.out _ hZ) (fun hHeld => ?_)
    clear hK K
    try simp only [Act.put, List.getElem_toArray, List.getElem_cons_succ, List.getElem_cons_zero, List.setIfInBounds_toArray, List.set_cons_zero, List.set_cons_succ]
    refine wpAnyS_ready (rs := [8]) (by kernel_rfl) (by simp) (AllReadyS.cons true (by kernel_rfl) (o := _) rfl (fun K hK => ?_) AllReadyS.nil)
    go_simp
    obtain ⟨x3, hx3⟩ : ∃ x3, x3 = set3 Z w.heap.size (.slice (some ⟨w.heap.size + 1 + 1, 0, none⟩) 2 2) (.slice CA F.length Cc) (.slice (some ⟨w.heap.size + 1 + 1 + 1 + 1, 0, none⟩) 2 2) := ⟨_, rfl⟩
    have j0 := set3_blk k0 (.slice (some ⟨w.heap.size + 1 + 1, 0, none⟩) 2 2) (.slice CA F.length Cc) (.slice (some ⟨w.heap.size + 1 + 1 + 1 + 1, 0, none⟩) 2 2)
    have j1 := set3_far (g := w.heap.size) k1 (by omega) (.slice (some ⟨w.heap.size + 1 + 1, 0, none⟩) 2 2) (.slice CA F.length Cc) (.slice (some ⟨w.heap.size + 1 + 1 + 1 + 1, 0, none⟩) 2 2)
    have jk := set3_keep k0 (.slice (some ⟨w.heap.size + 1 + 1, 0, none⟩) 2 2) (.slice CA F.length Cc) (.slice (some ⟨w.heap.size + 1 + 1 + 1 + 1, 0, none⟩) 2 2)
    have jb := hbw.trans (set3_below (W := Z) (Nat.le_refl w.heap.size) (.slice (some ⟨w.heap.size + 1 + 1, 0, none⟩) 2 2) (.slice CA F.length Cc) (.slice (some ⟨w.heap.size + 1 + 1 + 1 + 1, 0, none⟩) 2 2))
    rw [← hx3] at j0 j1 jk jb
    change K _ (set3 Z w.heap.size (.slice (some ⟨w.heap.size + 1 + 1, 0, none⟩) 2 2) (.slice CA F.length Cc) (.slice (some ⟨w.heap.size + 1 + 1 + 1 + 1, 0, none⟩) 2 2))
    rw [← hx3]
    clear t0 t1 t2 zf0 zf1 zf2 hx3
    obtain ⟨⟨t0, t1, t2⟩, zf⟩ := blk_cells3 j1
    have zf0 := zf 0
    have zf1 := zf 1
    have zf2 := zf 2
    clear zf
    refine hK.out _ _ trivial (fun hHeld => ?_)
    clear hK K
    try simp only [Act.put, List.getElem_toArray, List.getElem_cons_succ, List.getElem_cons_zero, List.setIfInBounds_toArray, List.set_cons_zero, List.set_cons_succ]
    refine wpAnyS_ready (rs := [9]) (by kernel_rfl) (by simp) (AllReadyS.cons true (by kernel_rfl) (o := _) rfl (fun K hK => ?_) AllReadyS.nil)
    go_simp
    obtain ⟨x4, hx4⟩ : ∃ x4, x4 = set3 x3 (w.heap.size + 1) (.slice (some ⟨bi, 0, none⟩) 2 2) (.slice CA2 F2.length Cc2) (.slice none 0 0) := ⟨_, rfl⟩
    have i0 := set3_far (g := w.heap.size + 1) j0 (by omega) (.slice (some ⟨bi, 0, none⟩) 2 2) (.slice CA2 F2.length Cc2) (.slice none 0 0)
    have i1 := set3_blk j1 (.slice (some ⟨bi, 0, none⟩) 2 2) (.slice CA2 F2.length Cc2) (.slice none 0 0)
    have ik := jk.trans (set3_keep j1 (.slice (some ⟨bi, 0, none⟩) 2 2) (.slice CA2 F2.length Cc2) (.slice none 0 0))
    have ib := jb.trans (set3_below (W := x3) (B := w.heap.size) (g := w.heap.size + 1) (by omega) (.slice (some ⟨bi, 0, none⟩) 2 2) (.slice CA2 F2.length Cc2) (.slice none 0 0))
    rw [← hx4] at i0 i1 ik ib
    change K _ (set3 x3 (w.heap.size + 1) (.slice (some ⟨bi, 0, none⟩) 2 2) (.slice CA2 F2.length Cc2) (.slice none 0 0))
    rw [← hx4]
    clear hx4 t0 t1 t2 zf0 zf1 zf2
    refine hK.out _ _ trivial (fun hHeld => ?_)
    clear hK K
    try simp only [Act.put, List.getElem_toArray, List.getElem_cons_succ, List.getElem_cons_zero, List.setIfInBounds_toArray, List.set_cons_zero, List.set_cons_succ]
    refine wpAnyS_done (by kernel_rfl) ?_ _
    obtain ⟨⟨m0, m1, m2⟩, _⟩ := blk_cells3 i0
    obtain ⟨⟨m3, m4, m5⟩, _⟩ := blk_cells3 i1
    have IK := Lib.hid ik
    have IB := Lib.hid ib
    have BI := Lib.hid hbi2
    have HZ := Lib.hid hZ
    have HBZ := Lib.hid hbz
    have HO2 := Lib.hid ho2
    have HF2 := Lib.hid hf2
    have HP2 := Lib.hid hp2
    clear ik ib hbi2 hZ hbz ho2 hf2 hp2 i0 i1 j0 j1 jk jb k0 k1 hbw hHeld hbi hbn
    go_wp2_with fail
    refine bodyPost_ret (v := .tuple #[.agg #[.slice (some ⟨w.heap.size + 1 + 1, 0, none⟩) 2 2, .slice CA F.length Cc, .slice (some ⟨w.heap.size + 1 + 1 + 1 + 1, 0, none⟩) 2 2], .agg #[.slice (some ⟨bi, 0, none⟩) 2 2, .slice CA2 F2.length Cc2, .slice none 0 0]]) (by simp [results, Try.results97, go_sem, m0, m1, m2, m3, m4, m5]) rfl ?_
    have hkt : KeepT w2 x4 := ((KeepT.below HX.out).trans (KeepT.below HZ.out)).trans IK.out
    have hkW : KeepT W x4 := (KeepT.below HB2.out).trans hkt
    have k2' := hkW.2 _ _ _ (.inr (.inl rfl)) K2.out
    have k4' := hkW.2 _ _ _ (.inr (.inl rfl)) K4.out
    obtain ⟨ta, hta, htap, htao⟩ := tabOk_of (w := W) (l := [4611686018427387905, 4611686018427387906]) (m := [5, 6]) (An := 2) (Bn := 2) (Ac := 2) (Bc := 2) HHP.out (blk_reads k2' rfl) ⟨by omega, by simp only [maxLen]; omega⟩ (word_all rfl) (blk_reads k4' rfl) ⟨by omega, by simp only [maxLen]; omega⟩ (word_all rfl) (ownCol_keep hkt HO.out) (fun x hx => colFresh_keep hkt (HF.out x hx))
    obtain ⟨tb, htb, htbp, htbo⟩ := tabOk_of (w := Y) (l := [4611686018427387906, 4611686018427387907]) (m := []) (An := 2) (Bn := 0) (Ac := 2) (Bc := 0) HP2.out (blk_reads (IK.out.2 _ _ _ (.inr (.inl rfl)) BI.out) rfl) ⟨by omega, by simp only [maxLen]; omega⟩ (word_all rfl) Reads.none_ ⟨by omega, by simp only [maxLen]; omega⟩ (by simp) (ownCol_keep IK.out HO2.out) (fun x hx => colFresh_keep IK.out (HF2.out x hx))
    exact ⟨ta, tb, by rw [hta, htb], htap, htbp, htao, htbo, IB.out⟩
end Go.Proofs.Ytbcbknajhdaneaa
