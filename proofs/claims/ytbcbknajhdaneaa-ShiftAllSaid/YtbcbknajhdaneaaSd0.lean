/- What is proved: slices.Grow of nil, slices.Concat of two rows of ids. -/
import Derived.Test.YtbcbknajhdaneaaSc3
import Derived.Lib.AppendZerosOnto
namespace Go.Proofs.Ytbcbknajhdaneaa
open Go.RowKit Go.Maps
set_option linter.unusedVariables false
set_option linter.unusedSimpArgs false
theorem wpList_append_run {P : Program} {ops : Array Oper} {rest : List Oper} {o : Oper} {a : Act} {w : World} {Q : Exit → Act → World → Prop} (hgd : o.guard = none) (d s : Operand) (dT sT : TypeId)
    (ho : o.op = .call { callee := .builtin .append, args := #[d, s], argTypes := #[dT, sT] }) (vd vs v : Value) (w' : World) (hd : a.eval d = vd) (hs : a.eval s = vs) (hrun : ∀ ty, (Builtin.append_ #[dT, sT] ty #[vd, vs]).run P w = .ok v w')
    (h : wpList P ops Q rest (a.put o.dst v) w') : wpList P ops Q (o :: rest) a w := by
  refine wpList_plain hgd fun K hK => ?_
  unfold Oper.wp
  simp [execOp, ho, resolve, invoke, builtin, hd, hs, hrun, Result.andThen]
  exact hK _ _ h
def GrowR (w : World) (e : Ending) (w' : World) : Prop := ∃ A c, e = .returned (.slice A 0 c) ∧ w'.ownsRow w.heap.size 27 1 (.slice A 0 c) 0 [] ∧ Below w.heap.size w w'
set_option maxRecDepth 100000 in
set_option maxHeartbeats 4000000 in
theorem grow0_any (k : Nat) (w : World) (hk : k ≤ 200000) : Calls Try.prog 102 #[.slice none 0 0, .int .i64 (k : Int)] w (GrowR w) := by
  by_cases h0 : k = 0
  · subst h0
    go_enter Try.func102, Try.ntmps102
    go_wp2_with fail
    go_ret
    exact ⟨_, _, rfl, World.ownsRow_nil _ _ _ _, Below.refl _ _⟩
  · obtain ⟨i0, hi0, hz0, hz1, hz2⟩ := info_parts info_id
    have h1 : ¬ ((k : Int) < 0) := by omega
    have h2 : ((k : Int) > 0) := by omega
    have h3 : (0 : Int) < (k : Int) := by omega
    have hn : Builtin.nextslicecap (0 + k) 0 = k := by
      unfold Builtin.nextslicecap
      simp
      omega
    have hold : (Builtin.firstCells i0.size 0 (.slice none 0 0)).run Try.prog w.drew = .ok ([] : List Value).toArray w.drew := run_firstCells_none w.drew i0.size 0 0 0
    have hap : ∀ ty, (Builtin.append_ #[22, 3] ty #[.slice none 0 0, .int .i64 (k : Int)]).run Try.prog w =
        .ok (.slice (some ⟨w.heap.size, 0, none⟩) (0 + k) (grownCap w (0 + k) 0 27)) (w.drew.alloc (.cells (([] : List Value).toArray ++ Builtin.zeroCells (Value.int .u64 0).cells k ++ Builtin.zeroCells (Value.int .u64 0).cells (grownCap w (0 + k) 0 27 - (0 + k))) 27)) := fun ty =>
      Lib.run_append_grow_zeros w 22 3 ty 27 i0 (.int .u64 0) .i64 .i64 Try.underlying22 Try.underlying3 hi0 hz0 none 0 0 [] hold k (by omega) (by rw [hz1]; omega) (by omega) (by omega) (by rw [hz2]; omega) (by rw [hn, hz2]; omega)
    have hge := grownCap_ge w (0 + k) 0 27
    have hle := grownCap_le_maxLen w (0 + k) 0 27 (by simp only [maxLen]; omega)
    generalize grownCap w (0 + k) 0 27 = gc at *
    have hc1 : (0 : Int) ≤ (gc : Int) := by omega
    obtain ⟨cs, hcs⟩ : ∃ cs, cs = (([] : List Value).toArray ++ Builtin.zeroCells (Value.int .u64 0).cells k ++ Builtin.zeroCells (Value.int .u64 0).cells (gc - (0 + k))) := ⟨_, rfl⟩
    have hsz : cs.size = gc := by
      rw [hcs]
      simp only [Array.size_append, size_zeroCells]
      show 0 + k * 1 + (gc - (0 + k)) * 1 = gc
      omega
    rw [← hcs] at hap
    have hown : (w.drew.alloc (.cells cs 27)).ownsRow w.heap.size 27 1 (.slice (some ⟨w.heap.size, 0, none⟩) 0 gc) 0 [] :=
      ⟨rfl, .inr ⟨w.heap.size, gc, cs, rfl, Nat.le_refl _, last_blk _ _, Nat.zero_le _, hle, by omega, by simp⟩⟩
    have hb : Below w.heap.size w (w.drew.alloc (.cells cs 27)) := (Below.refl _ _).drew.alloc (Nat.le_refl _) _
    have HO := Lib.hid hown
    have HB := Lib.hid hb
    have hk63 : (k : Int) ≤ 200000 := by omega
    clear hcs hsz hown hb hold hi0 hz0 hz1 hz2
    generalize w.drew.alloc (.cells cs 27) = w9 at *
    go_enter Try.func102, Try.ntmps102
    go_wp2_with (first
      | (at_builtin; refine wpList_append_run rfl (.tmp 20) (.tmp 21) 22 3 rfl _ _ _ _ rfl rfl hap ?_)
      | fail)
    go_ret
    refine ⟨_, gc, rfl, ?_, HB.out⟩
    first | exact HO.out | simpa using HO.out
def CatR (L : List Int) (w : World) (e : Ending) (w' : World) : Prop := ∃ A n c, e = .returned (.slice A n c) ∧ Reads w' w'.heap.size 1 A n (ids L) ∧ Below w.heap.size w w'
set_option maxRecDepth 100000 in
set_option maxHeartbeats 8000000 in
theorem concat_any (bl : Nat) (A1 : Option Addr) (n1 c1 : Nat) (l1 : List Int) (A2 : Option Addr) (n2 c2 : Nat) (l2 : List Int) (w : World) (hk : Blk w bl 22 #[.slice A1 n1 c1, .slice A2 n2 c2])
    (h1 : Reads w w.heap.size 1 A1 n1 (ids l1)) (h2 : Reads w w.heap.size 1 A2 n2 (ids l2)) (hn1 : n1 ≤ 65536) (hn2 : n2 ≤ 65536) :
    Calls Try.prog 56 #[.slice (some ⟨bl, 0, none⟩) 2 2] w (CatR (l1 ++ l2) w) := by
  obtain ⟨i0, hi0, hz0, hz1, hz2⟩ := info_parts info_id
  have hl1 : l1.length = n1 := by have := h1.1; rw [ids_len] at this; omega
  have hl2 : l2.length = n2 := by have := h2.1; rw [ids_len] at this; omega
  have g0 : w.cell? ⟨bl, 0, none⟩ = some (.slice A1 n1 c1) := hk.cell 0
  have g1 : w.cell? ⟨bl, 1, none⟩ = some (.slice A2 n2 c2) := hk.cell 1
  have hlt := hk.lt
  have cg := fun (k : Nat) (hk : k ≤ 200000) => grow0_any k w hk
  have HC := Lib.hid (fun (W : World) (h : Below w.heap.size w W) => And.intro (cell_below' h g0 hlt) (cell_below' h g1 hlt))
  have H1 := Lib.hid h1
  have H2 := Lib.hid h2
  have HL := Lib.hid (And.intro hl1 hl2)
  unfold GrowR at cg
  clear hk h1 h2 hl1 hl2 hlt
  go_enter Try.func56, Try.ntmps56
  go_upto_region 3 with fail
  go_loopw [3, 11] (fun s i wr => w = wr ∧ ((i = .int .i64 0 ∧ s = .int .i64 0) ∨ (i = .int .i64 1 ∧ s = .int .i64 (n1 : Int)) ∨ (i = .int .i64 2 ∧ s = .int .i64 ((n1 + n2 : Nat) : Int))))
    (fun _ i _ => 2 - (intOf i).toNat)
  case atStart => exact ⟨rfl, .inl ⟨rfl, rfl⟩⟩
  case round =>
    obtain ⟨rfl, hcase⟩ := hrel
    rcases hcase with ⟨rfl, rfl⟩ | ⟨rfl, rfl⟩ | ⟨rfl, rfl⟩
    · have d1 : ¬ ((n1 : Int) < 0) := by omega
      clear cg
      go_wp2_with fail
      go_roundw
      case rel => exact ⟨trivial, .inr (.inl ⟨rfl, rfl⟩)⟩
      case measure => simp [intOf]
    · have d1 : ¬ ((n1 : Int) + (n2 : Int) < 0) := by omega
      have e1 : ((n1 + n2 : Nat) : Int) = (n1 : Int) + (n2 : Int) := by omega
      clear cg
      go_wp2_with fail
      go_roundw
      case rel => exact ⟨trivial, .inr (.inr ⟨rfl, by rw [e1]⟩)⟩
      case measure => simp [intOf]
    · have cg2 := cg (n1 + n2) (by omega)
      clear cg
      generalize hq : ((n1 + n2 : Nat) : Int) = sz at *
      go_upto_region 11 with (first
        | (go_at_call 102; ((with_reducible refine cg2.mono ?_); rintro en w2 ⟨GA, Gc, rfl, ho, hb2⟩))
        | fail)
      have HO := Lib.hid ho
      have HB := Lib.hid hb2
      clear ho hb2 cg2 g0 g1
      go_loopw [6, 27] (fun s i wr => ∃ (A : Option Addr) (c : Nat) (L : List Int), s = .slice A L.length c ∧ wr.ownsRow w.heap.size 27 1 (.slice A L.length c) L.length (ids L) ∧ Below w.heap.size w wr ∧ ((i = .int .i64 0 ∧ L = []) ∨ (i = .int .i64 1 ∧ L = l1) ∨ (i = .int .i64 2 ∧ L = l1 ++ l2)))
        (fun _ i _ => 2 - (intOf i).toNat)
      case atStart => exact ⟨GA, Gc, [], rfl, HO.out, HB.out, .inl ⟨rfl, rfl⟩⟩
      case round =>
        obtain ⟨A, c, L, rfl, ho, hb, hcase⟩ := hrel
        obtain ⟨g0, g1⟩ := HC.out _ hb
        have HOW := Lib.hid ho
        have HBB := Lib.hid hb
        have hr1 := (H1.out.below hb).more hb.size
        have hr2 := (H2.out.below hb).more hb.size
        rcases hcase with ⟨rfl, rfl⟩ | ⟨rfl, rfl⟩ | ⟨rfl, rfl⟩
        · clear ho hb
          go_wp2_with (first
            | (at_builtin
               refine wpList_append_any _ rfl (.tmp 31) (.tmp 32) _ rfl w.heap.size 27 i0 _ 1 8 Try.underlying22 hi0 hz0 hz1 hz2 rfl (by omega) _ 0 [] rfl
                 HOW.out wr.heap.size A1 n1 c1 (ids l1) rfl hr1 (ids_one l1) (by simp only [maxLen]; omega) (by omega) HBB.out.size ?_
               intro v1 w1 ho1 hg1 hat1; obtain ⟨A9, c9, rfl⟩ := own_slice ho1)
            | fail)
          have hb9 := own_grown_below HBB.out HOW.out hg1
          rw [Nat.zero_add, List.nil_append] at ho1
          have HO9 := Lib.hid ho1
          have HB9 := Lib.hid hb9
          clear ho1 hg1 hat1 hb9 hr1 hr2
          go_wp2_with fail
          go_roundw
          case rel => exact ⟨A9, c9, l1, by rw [HL.out.1], by rw [HL.out.1]; exact HO9.out, HB9.out, .inr (.inl ⟨by go_num, rfl⟩)⟩
          case measure => simp [intOf]
        · clear ho hb
          have hn1' := HL.out.1
          go_wp2_with (first
            | (at_builtin
               refine wpList_append_any _ rfl (.tmp 31) (.tmp 32) _ rfl w.heap.size 27 i0 _ 1 8 Try.underlying22 hi0 hz0 hz1 hz2 rfl (by omega) _ L.length (ids L) rfl
                 HOW.out wr.heap.size A2 n2 c2 (ids l2) rfl hr2 (ids_one l2) (by simp only [maxLen]; omega) (by omega) HBB.out.size ?_
               intro v1 w1 ho1 hg1 hat1; obtain ⟨A9, c9, rfl⟩ := own_slice ho1)
            | fail)
          have hb9 := own_grown_below HBB.out HOW.out hg1
          rw [← ids_app] at ho1
          have HO9 := Lib.hid ho1
          have HB9 := Lib.hid hb9
          clear ho1 hg1 hat1 hb9 hr1 hr2
          go_wp2_with fail
          go_roundw
          case rel => exact ⟨A9, c9, L ++ l2, by rw [List.length_append, HL.out.2, HL.out.1], by rw [List.length_append, HL.out.2]; exact HO9.out, HB9.out, .inr (.inr ⟨by go_num, rfl⟩)⟩
          case measure => simp [intOf]
        · clear ho hb hr1 hr2
          go_wp2_with fail
          go_ret
          exact ⟨_, _, _, rfl, Reads.of_own HOW.out, HBB.out⟩
end Go.Proofs.Ytbcbknajhdaneaa
