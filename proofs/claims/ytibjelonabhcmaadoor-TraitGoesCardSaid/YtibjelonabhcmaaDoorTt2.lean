/- What is proved: the law's TraitGoes returns true. -/
import Derived.Test.YtibjelonabhcmaaDoorTt1
namespace Go.Proofs.YtibjelonabhcmaaDoor
open Go.RowKit
set_option linter.unusedVariables false
set_option linter.unusedSimpArgs false
set_option maxRecDepth 100000 in
set_option maxHeartbeats 16000000 in
theorem goes_false (A : Option Addr) (n c : Nat) (l : List Rel) (A1 : Option Addr) (n1 c1 : Nat) (l1 : List Rel) (A2 : Option Addr) (n2 c2 : Nat) (l2 : List Int) (w : World) (hE : Env w) (hR : Reads w w.heap.size 6 A n (rels l)) (hnc : n ≤ c) (hn : c ≤ 281474976710656)
    (hR1 : Reads w w.heap.size 6 A1 n1 (rels l1)) (hn1 : n1 ≤ 281474976710656) (hw1 : ∀ x ∈ l1, RelWf x) (hR2 : Reads w w.heap.size 1 A2 n2 (i64s l2)) (hn2 : n2 ≤ 281474976710656) (hw2 : ∀ x ∈ l2, -9223372036854775808 ≤ x ∧ x ≤ 9223372036854775807) (hrt : right (l.take 201) = false) :
    Calls Tryd.prog 5 #[.slice A n c, .slice A1 n1 c1, .slice A2 n2 c2] w fun e w' => e = .returned (.bool true) ∧ Below w.heap.size w w' := by
  obtain ⟨L, hL⟩ : ∃ L, l.take 201 = L := ⟨_, rfl⟩
  rw [hL] at hrt
  obtain ⟨m, hm⟩ : ∃ m, L.length = m := ⟨_, rfl⟩
  have hm2 : m ≤ 201 := by rw [← hm, ← hL, List.length_take]; omega
  have hl1 : l1.length = n1 := by have := hR1.1; rw [rels_len] at this; omega
  have hl2 : l2.length = n2 := by have := hR2.1; unfold i64s at this; rw [List.length_map] at this; omega
  have hB := Below.refl w.heap.size w
  have cw := fun (W : World) (h : Below w.heap.size w W) => wakes_any W (hE.below h)
  have cf := fun (W : World) (h : Below w.heap.size w W) => few_c (w := W) (c := c) ((hR.below h).more h.size) hnc hn hL hm
  have cr := fun (W : World) (A : Option Addr) (c : Nat) (hR : Reads W W.heap.size 6 A m (rels L)) => rright_any A m c L W hR (by omega)
  have hF := Lib.hid cf
  have hen := Lib.hid (fun (W : World) (h : Below w.heap.size w W) => hE.below h)
  have H1 := Lib.hid hR1
  have H2 := Lib.hid hR2
  have HW1 := Lib.hid hw1
  have HW2 := Lib.hid hw2
  have HL1 := Lib.hid hl1
  have HL2 := Lib.hid hl2
  have HM := Lib.hid hm
  clear hE hR hR1 hR2 hw1 hw2 hl1 hl2 hm hL
  rw [hrt] at cr
  · have hrt2 := hrt
    go_enter Tryd.func5, Tryd.ntmps5
    go_wp2_with (first
      | (go_at_call 8; ((with_reducible refine (cw _ hB).mono ?_); rintro e w1 ⟨rfl, hb1⟩; have hB := hB.trans (hb1.mono hB.size)))
      | (go_at_call 9; ((with_reducible refine (cf _ hB).mono ?_); rintro e w2 ⟨A3, c3, rfl, HR, hc3, hb2⟩; have hB := hB.trans (hb2.mono hB.size)))
      | (go_at_call 11; ((with_reducible refine (cr _ _ _ HR).mono ?_); rintro e w4 ⟨rfl, hb4⟩; have hB := hB.trans (hb4.mono hB.size); have HR4 := Lib.hid ((HR.below hb4).more hb4.size)))
      | fail)
    clear cw cf cr HR
    go_loopw [37] (fun i wr => ∃ k : Nat, k ≤ n1 ∧ i = .int .i64 k ∧ Below w.heap.size w wr ∧ Below w4.heap.size w4 wr)
      (fun i _ => n1 - (intOf i).toNat)
    case atStart => exact ⟨0, Nat.zero_le _, rfl, hB, Below.refl _ _⟩
    case round =>
      clear hB
      obtain ⟨k, hk, rfl, hB, hb⟩ := hrel
      by_cases hlt : k < n1
      · have hl := HL1.out
        have e1 := List.getElem?_eq_getElem (l := l1) (i := k) (by omega)
        generalize l1[k]'(by omega) = x at e1
        obtain ⟨b, off, rfl, hbl, g⟩ := rels_cells H1.out e1
        obtain ⟨g10, g11, g12, g13, g14, g15⟩ := g.below hB hbl
        have i1 : (k : Int) < (n1 : Int) := by omega
        have hwf := HW1.out x (List.mem_of_getElem? e1)
        clear hl e1 g
        cases h6 : ((k : Int) == 6)
        · have hRL := (HR4.out.below hb).more hb.size
          have hE := hen.out wr hB
          obtain ⟨W0, hW0⟩ : ∃ W0, W0 = wr.alloc (Obj.cells #[.int .i64 x.i, .bool x.a, .bool x.e, .int .i64 x.w, .int .i64 x.t, .int .i64 x.r] 31) := ⟨_, rfl⟩
          obtain ⟨hb0, hsz, y0, y1, y2, y3, y4, y5⟩ := new6 hW0
          have HX := Lib.hid (fun (W : World) (h : Below W0.heap.size W0 W) => (⟨Nat.lt_of_lt_of_le hsz h.size, cell_below' h y0 hsz, cell_below' h y1 hsz, cell_below' h y2 hsz, cell_below' h y3 hsz, cell_below' h y4 hsz, cell_below' h y5 hsz⟩ : (wr.heap.size < W.heap.size ∧ W.cell? ⟨wr.heap.size, 0, none⟩ = some (.int .i64 x.i) ∧ W.cell? ⟨wr.heap.size, 1, none⟩ = some (.bool x.a) ∧ W.cell? ⟨wr.heap.size, 2, none⟩ = some (.bool x.e) ∧ W.cell? ⟨wr.heap.size, 3, none⟩ = some (.int .i64 x.w) ∧ W.cell? ⟨wr.heap.size, 4, none⟩ = some (.int .i64 x.t) ∧ W.cell? ⟨wr.heap.size, 5, none⟩ = some (.int .i64 x.r))))
          have hs0 := Below.refl W0.heap.size W0
          have HR5 := Lib.hid (fun (W : World) (h : Below W0.heap.size W0 W) => ((((hRL.below hb0).more hb0.size).below h).more h.size))
          have HE5 := Lib.hid (fun (W : World) (h : Below W0.heap.size W0 W) => ((hE.below hb0).below h))
          have hfin := Lib.hid (fun (W : World) (h : Below W0.heap.size W0 W) => (show Below w.heap.size w W ∧ Below w4.heap.size w4 W from ⟨hB.trans ((hb0.trans (h.mono hb0.size)).mono hB.size), hb.trans ((hb0.trans (h.mono hb0.size)).mono hb.size)⟩))
          clear hRL hE y0 y1 y2 y3 y4 y5 hB hb
          subst hW0
          have gw := goes_with L x hwf
          rw [hrt] at gw
          rcases gw with ⟨_, k8, k9⟩ | ⟨h, _⟩ | ⟨h, _⟩ | ⟨h, _⟩ | ⟨h, _⟩ | ⟨h, _⟩ | ⟨h, _⟩
          rotate_left
          all_goals (first | (exfalso; exact absurd h (by simp)) | skip)
          have ci := fun (W : World) (h : Below _ _ W) => (with_any A3 m c3 L x W (HE5.out W h) (HR5.out W h) hc3.1 (by omega) hc3.2).mono (fun e w' h => OwnE.row (n := 0) h (by rw [k9]; rfl))
          rw [k8, k9] at ci
          unfold relV at ci
          clear k8 k9 hwf
          go_wp2_with (first
            | (go_at_call 23; ((with_reducible refine (ci _ hs0).mono ?_); rintro e w7 ⟨A7, c7, rfl, HM7, hb7⟩; have hs0 := hs0.trans (hb7.mono hs0.size); obtain ⟨x8, x0, x1, x2, x3, x4, x5⟩ := HX.out _ hs0))
            | (go_at_call 15; ((with_reducible refine (nil_eq _ _ _).mono ?_); rintro e w10 ⟨rfl, hb10⟩; have hs0 := hs0.trans (hb10.mono hs0.size)))
            | fail)
          go_hide hQ
          go_loopw [89] (fun i wr' => i = .int .i64 0 ∧ wr' = w10) (fun i _ => 0)
          case atStart => exact ⟨rfl, rfl⟩
          case round =>
            obtain ⟨rfl, rfl⟩ := hrel
            go_wp2_with fail
            subst hQ
            go_wp2_with fail
            go_roundw
            case rel => exact ⟨k + 1, by omega, by go_num, (hfin.out _ hs0).1, (hfin.out _ hs0).2⟩
            case measure => simp [intOf]; omega
        · have hB := hB.alloc hB.size (Obj.cells #[.int .i64 x.i, .bool x.a, .bool x.e, .int .i64 x.w, .int .i64 x.t, .int .i64 x.r] 31)
          have hb := hb.alloc hb.size (Obj.cells #[.int .i64 x.i, .bool x.a, .bool x.e, .int .i64 x.w, .int .i64 x.t, .int .i64 x.r] 31)
          clear hwf
          go_wp2_with fail
          go_loopw [104] (fun i wr => ∃ k : Nat, k ≤ n2 ∧ i = .int .i64 k ∧ Below w.heap.size w wr ∧ Below w4.heap.size w4 wr)
            (fun i _ => n2 - (intOf i).toNat)
          case atStart => exact ⟨0, Nat.zero_le _, rfl, hB, hb⟩
          case round =>
            clear hB hb
            obtain ⟨k, hk, rfl, hB, hb⟩ := hrel
            by_cases hlt : k < n2
            · have hl := HL2.out
              have e1 := List.getElem?_eq_getElem (l := l2) (i := k) (by omega)
              generalize l2[k]'(by omega) = v at e1
              obtain ⟨b2, off2, rfl, hbl2, gv⟩ := i64s_cell H2.out e1
              have gv := cell_below' hB gv hbl2
              have i1 : (k : Int) < (n2 : Int) := by omega
              have hwf := HW2.out v (List.mem_of_getElem? e1)
              clear hl e1
              cases h8 : ((k : Int) == 8)
              · have hRL := (HR4.out.below hb).more hb.size
                have hE := hen.out wr hB
                have hs0 := Below.refl wr.heap.size wr
                have HR5 := Lib.hid (fun (W : World) (h : Below wr.heap.size wr W) => ((hRL.below h).more h.size))
                have HE5 := Lib.hid (fun (W : World) (h : Below wr.heap.size wr W) => (hE.below h))
                have hfin := Lib.hid (fun (W : World) (h : Below wr.heap.size wr W) => (show Below w.heap.size w W ∧ Below w4.heap.size w4 W from ⟨hB.trans (h.mono hB.size), hb.trans (h.mono hb.size)⟩))
                clear hRL hE hB hb
                have gw := goes_without L v hwf
                rw [hrt] at gw
                rcases gw with ⟨_, k0, k8, k9⟩ | ⟨h, _⟩ | ⟨h, _⟩ | ⟨h, _⟩ | ⟨h, _⟩
                rotate_left
                all_goals (first | (exfalso; exact absurd h (by simp)) | skip)
                have ctf := fun (W : World) (h : Below _ _ W) => tfind_any A3 m c3 L v W (HE5.out W h) (HR5.out W h) (by omega)
                rw [k0] at ctf
                have hy : trOf none = .agg #[.bool zr.a, .bool zr.e, .int .i64 zr.w, .int .i64 zr.t, .int .i64 zr.r] := rfl
                rw [hy] at ctf
                dsimp only [Option.isSome] at ctf
                obtain ⟨y, hyz⟩ : ∃ y, zr = y := ⟨_, rfl⟩
                have hN := fun w => run_neq_tr w zr
                unfold zr at ctf hN
                dsimp only at ctf hN
                have co := fun (W : World) (h : Below _ _ W) => (without_any A3 m c3 L v W (HE5.out W h) (HR5.out W h) (by omega)).mono (fun e w' h => OwnE.row (n := 0) h (by rw [k9]; rfl))
                rw [k8, k9] at co
                clear k8 k9 hwf
                go_wp2_with (first
                  | (go_at_call 27; ((with_reducible refine (ctf _ hs0).mono ?_); rintro e w20 ⟨rfl, hb20⟩; have hs0 := hs0.trans (hb20.mono hs0.size); have hs0 := hs0.alloc hs0.size (Obj.cells #[.bool false, .bool false, .int .i64 0, .int .i64 0, .int .i64 0] 29); have hY := Blk.new w20 29 #[.bool false, .bool false, .int .i64 0, .int .i64 0, .int .i64 0]))
                  | (go_at_call 28; ((with_reducible refine (co _ hs0).mono ?_); rintro e w21 ⟨A7, c7, rfl, HM7, hb21⟩; have hs0 := hs0.trans (hb21.mono hs0.size); have hY := hY.below hb21 hY.lt; have hlt20 := hY.lt; obtain ⟨x0, x1, x2, x3, x4⟩ := blk5 hY; have hg21 := hs0.size; have hs0 := hs0.alloc hs0.size (Obj.cells #[.bool false, .bool false, .int .i64 0, .int .i64 0, .int .i64 0] 29); have hY := hY.alloc (Obj.cells #[.bool false, .bool false, .int .i64 0, .int .i64 0, .int .i64 0] 29); have hZ := Blk.new w21 29 #[.bool false, .bool false, .int .i64 0, .int .i64 0, .int .i64 0]))
                  | (go_at_call 15; ((refine (nil_eq2 hs0 hs0.size).mono ?_); rintro e w10 ⟨rfl, hs0⟩))
                  | fail)
                go_hide hQ
                go_loopw [164] (fun i wr' => i = .int .i64 0 ∧ wr' = w10) (fun i _ => 0)
                case atStart => exact ⟨rfl, rfl⟩
                case round =>
                  obtain ⟨rfl, rfl⟩ := hrel
                  go_wp2_with fail
                  subst hQ
                  go_wp2_with fail
                  go_roundw
                  case rel => exact ⟨k + 1, by omega, by go_num, (hfin.out _ hs0).1, (hfin.out _ hs0).2⟩
                  case measure => simp [intOf]; omega
              · have hkk := h8
                clear HL1 HL2 HW1 HW2 H1 H2
                have cf := hF.out
                have HRF := HR4.out
                go_wp2_with (first
                  | (go_at_call 9; ((with_reducible refine (cf _ hB).mono ?_); rintro e w30 ⟨A30, c30, rfl, HR30, hc30, hb30⟩; have hB := hB.trans (hb30.mono hB.size); have hb := hb.trans (hb30.mono hb.size)))
                  | (go_at_call 15; ((with_reducible refine (same_eq ((HRF.below hb).more hb.size) HR30 (by omega)).mono ?_); rintro e w31 ⟨rfl, hb31⟩; have hB := hB.trans (hb31.mono hB.size)))
                  | fail)
                try rw [Exit.noGoto_ret]
                go_ret
                exact ⟨rfl, hB⟩
            · have hkn : k = n2 := by omega
              subst hkn
              have cf := hF.out
              have HRF := HR4.out
              go_wp2_with (first
                | (go_at_call 9; ((with_reducible refine (cf _ hB).mono ?_); rintro e w30 ⟨A30, c30, rfl, HR30, hc30, hb30⟩; have hB := hB.trans (hb30.mono hB.size); have hb := hb.trans (hb30.mono hb.size)))
                | (go_at_call 15; ((with_reducible refine (same_eq ((HRF.below hb).more hb.size) HR30 (by omega)).mono ?_); rintro e w31 ⟨rfl, hb31⟩; have hB := hB.trans (hb31.mono hB.size)))
                | fail)
              try rw [Exit.noGoto_ret]
              go_ret
              exact ⟨rfl, hB⟩
      · have hkn : k = n1 := by omega
        subst hkn
        go_wp2_with fail
        go_loopw [104] (fun i wr => ∃ k : Nat, k ≤ n2 ∧ i = .int .i64 k ∧ Below w.heap.size w wr ∧ Below w4.heap.size w4 wr)
          (fun i _ => n2 - (intOf i).toNat)
        case atStart => exact ⟨0, Nat.zero_le _, rfl, hB, hb⟩
        case round =>
          clear hB hb
          obtain ⟨k, hk, rfl, hB, hb⟩ := hrel
          by_cases hlt : k < n2
          · have hl := HL2.out
            have e1 := List.getElem?_eq_getElem (l := l2) (i := k) (by omega)
            generalize l2[k]'(by omega) = v at e1
            obtain ⟨b2, off2, rfl, hbl2, gv⟩ := i64s_cell H2.out e1
            have gv := cell_below' hB gv hbl2
            have i1 : (k : Int) < (n2 : Int) := by omega
            have hwf := HW2.out v (List.mem_of_getElem? e1)
            clear hl e1
            cases h8 : ((k : Int) == 8)
            · have hRL := (HR4.out.below hb).more hb.size
              have hE := hen.out wr hB
              have hs0 := Below.refl wr.heap.size wr
              have HR5 := Lib.hid (fun (W : World) (h : Below wr.heap.size wr W) => ((hRL.below h).more h.size))
              have HE5 := Lib.hid (fun (W : World) (h : Below wr.heap.size wr W) => (hE.below h))
              have hfin := Lib.hid (fun (W : World) (h : Below wr.heap.size wr W) => (show Below w.heap.size w W ∧ Below w4.heap.size w4 W from ⟨hB.trans (h.mono hB.size), hb.trans (h.mono hb.size)⟩))
              clear hRL hE hB hb
              have gw := goes_without L v hwf
              rw [hrt] at gw
              rcases gw with ⟨_, k0, k8, k9⟩ | ⟨h, _⟩ | ⟨h, _⟩ | ⟨h, _⟩ | ⟨h, _⟩
              rotate_left
              all_goals (first | (exfalso; exact absurd h (by simp)) | skip)
              have ctf := fun (W : World) (h : Below _ _ W) => tfind_any A3 m c3 L v W (HE5.out W h) (HR5.out W h) (by omega)
              rw [k0] at ctf
              have hy : trOf none = .agg #[.bool zr.a, .bool zr.e, .int .i64 zr.w, .int .i64 zr.t, .int .i64 zr.r] := rfl
              rw [hy] at ctf
              dsimp only [Option.isSome] at ctf
              obtain ⟨y, hyz⟩ : ∃ y, zr = y := ⟨_, rfl⟩
              have hN := fun w => run_neq_tr w zr
              unfold zr at ctf hN
              dsimp only at ctf hN
              have co := fun (W : World) (h : Below _ _ W) => (without_any A3 m c3 L v W (HE5.out W h) (HR5.out W h) (by omega)).mono (fun e w' h => OwnE.row (n := 0) h (by rw [k9]; rfl))
              rw [k8, k9] at co
              clear k8 k9 hwf
              go_wp2_with (first
                | (go_at_call 27; ((with_reducible refine (ctf _ hs0).mono ?_); rintro e w20 ⟨rfl, hb20⟩; have hs0 := hs0.trans (hb20.mono hs0.size); have hs0 := hs0.alloc hs0.size (Obj.cells #[.bool false, .bool false, .int .i64 0, .int .i64 0, .int .i64 0] 29); have hY := Blk.new w20 29 #[.bool false, .bool false, .int .i64 0, .int .i64 0, .int .i64 0]))
                | (go_at_call 28; ((with_reducible refine (co _ hs0).mono ?_); rintro e w21 ⟨A7, c7, rfl, HM7, hb21⟩; have hs0 := hs0.trans (hb21.mono hs0.size); have hY := hY.below hb21 hY.lt; have hlt20 := hY.lt; obtain ⟨x0, x1, x2, x3, x4⟩ := blk5 hY; have hg21 := hs0.size; have hs0 := hs0.alloc hs0.size (Obj.cells #[.bool false, .bool false, .int .i64 0, .int .i64 0, .int .i64 0] 29); have hY := hY.alloc (Obj.cells #[.bool false, .bool false, .int .i64 0, .int .i64 0, .int .i64 0] 29); have hZ := Blk.new w21 29 #[.bool false, .bool false, .int .i64 0, .int .i64 0, .int .i64 0]))
                | (go_at_call 15; ((refine (nil_eq2 hs0 hs0.size).mono ?_); rintro e w10 ⟨rfl, hs0⟩))
                | fail)
              go_hide hQ
              go_loopw [164] (fun i wr' => i = .int .i64 0 ∧ wr' = w10) (fun i _ => 0)
              case atStart => exact ⟨rfl, rfl⟩
              case round =>
                obtain ⟨rfl, rfl⟩ := hrel
                go_wp2_with fail
                subst hQ
                go_wp2_with fail
                go_roundw
                case rel => exact ⟨k + 1, by omega, by go_num, (hfin.out _ hs0).1, (hfin.out _ hs0).2⟩
                case measure => simp [intOf]; omega
            · have hkk := h8
              clear HL1 HL2 HW1 HW2 H1 H2
              have cf := hF.out
              have HRF := HR4.out
              go_wp2_with (first
                | (go_at_call 9; ((with_reducible refine (cf _ hB).mono ?_); rintro e w30 ⟨A30, c30, rfl, HR30, hc30, hb30⟩; have hB := hB.trans (hb30.mono hB.size); have hb := hb.trans (hb30.mono hb.size)))
                | (go_at_call 15; ((with_reducible refine (same_eq ((HRF.below hb).more hb.size) HR30 (by omega)).mono ?_); rintro e w31 ⟨rfl, hb31⟩; have hB := hB.trans (hb31.mono hB.size)))
                | fail)
              try rw [Exit.noGoto_ret]
              go_ret
              exact ⟨rfl, hB⟩
          · have hkn : k = n2 := by omega
            subst hkn
            have cf := hF.out
            have HRF := HR4.out
            go_wp2_with (first
              | (go_at_call 9; ((with_reducible refine (cf _ hB).mono ?_); rintro e w30 ⟨A30, c30, rfl, HR30, hc30, hb30⟩; have hB := hB.trans (hb30.mono hB.size); have hb := hb.trans (hb30.mono hb.size)))
              | (go_at_call 15; ((with_reducible refine (same_eq ((HRF.below hb).more hb.size) HR30 (by omega)).mono ?_); rintro e w31 ⟨rfl, hb31⟩; have hB := hB.trans (hb31.mono hB.size)))
              | fail)
            try rw [Exit.noGoto_ret]
            go_ret
            exact ⟨rfl, hB⟩
end Go.Proofs.YtibjelonabhcmaaDoor
