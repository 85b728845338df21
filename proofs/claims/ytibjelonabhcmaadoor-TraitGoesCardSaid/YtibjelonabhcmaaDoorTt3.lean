/- What is proved: the law's TraitGoes returns true. -/
import Derived.Test.YtibjelonabhcmaaDoorTt1
namespace Go.Proofs.YtibjelonabhcmaaDoor
open Go.RowKit
set_option linter.unusedVariables false
set_option linter.unusedSimpArgs false
set_option maxRecDepth 100000 in
set_option maxHeartbeats 16000000 in
theorem goes_true (A : Option Addr) (n c : Nat) (l : List Rel) (A1 : Option Addr) (n1 c1 : Nat) (l1 : List Rel) (A2 : Option Addr) (n2 c2 : Nat) (l2 : List Int) (w : World) (hE : Env w) (hR : Reads w w.heap.size 6 A n (rels l)) (hnc : n ≤ c) (hn : c ≤ 281474976710656)
    (hR1 : Reads w w.heap.size 6 A1 n1 (rels l1)) (hn1 : n1 ≤ 281474976710656) (hw1 : ∀ x ∈ l1, RelWf x) (hR2 : Reads w w.heap.size 1 A2 n2 (i64s l2)) (hn2 : n2 ≤ 281474976710656) (hw2 : ∀ x ∈ l2, -9223372036854775808 ≤ x ∧ x ≤ 9223372036854775807) (hrt : right (l.take 201) = true) :
    Calls Tryd.prog 5 #[.slice A n c, .slice A1 n1 c1, .slice A2 n2 c2] w fun e w' => e = .returned (.bool true) ∧ Below w.heap.size w w' := by
  obtain ⟨L, hL⟩ : ∃ L, l.take 201 = L := ⟨_, rfl⟩
  rw [hL] at hrt
  obtain ⟨m, hm⟩ : ∃ m, L.length = m := ⟨_, rfl⟩
  have hm2 : m ≤ 201 := by rw [← hm, ← hL, List.length_take]; omega
  have hl1 : l1.length = n1 := by have := hR1.1; rw [rels_len] at this; omega
  have hl2 : l2.length = n2 := by have := hR2.1; unfold i64s at this; rw [List.length_map] at this; omega
  have hB := Below.refl w.heap.size w
  have cw := fun (W : World) (h : Below w.heap.size w W) => wakes_any W (hE.below h)
  have cf := fun (W : World) (h : Below w.heap.size w W) => few_c (w := W) (c := c) ((hR.below h).more h.size) hnc hn hL hm
  have cr := fun (W : World) (A : Option Addr) (c : Nat) (hR : Reads W W.heap.size 6 A m (rels L)) => rright_any A m c L W hR (by omega)
  have hF := Lib.hid cf
  have hen := Lib.hid (fun (W : World) (h : Below w.heap.size w W) => hE.below h)
  have H1 := Lib.hid hR1
  have H2 := Lib.hid hR2
  have HW1 := Lib.hid hw1
  have HW2 := Lib.hid hw2
  have HL1 := Lib.hid hl1
  have HL2 := Lib.hid hl2
  have HM := Lib.hid hm
  clear hE hR hR1 hR2 hw1 hw2 hl1 hl2 hm hL
  rw [hrt] at cr
  · have hrt2 := hrt
    go_enter Tryd.func5, Tryd.ntmps5
    go_wp2_with (first
      | (go_at_call 8; ((with_reducible refine (cw _ hB).mono ?_); rintro e w1 ⟨rfl, hb1⟩; have hB := hB.trans (hb1.mono hB.size)))
      | (go_at_call 9; ((with_reducible refine (cf _ hB).mono ?_); rintro e w2 ⟨A3, c3, rfl, HR, hc3, hb2⟩; have hB := hB.trans (hb2.mono hB.size)))
      | (go_at_call 11; ((with_reducible refine (cr _ _ _ HR).mono ?_); rintro e w4 ⟨rfl, hb4⟩; have hB := hB.trans (hb4.mono hB.size); have HR4 := Lib.hid ((HR.below hb4).more hb4.size)))
      | fail)
    clear cw cf cr HR
    go_loopw [37] (fun i wr => ∃ k : Nat, k ≤ n1 ∧ i = .int .i64 k ∧ Below w.heap.size w wr ∧ Below w4.heap.size w4 wr)
      (fun i _ => n1 - (intOf i).toNat)
    case atStart => exact ⟨0, Nat.zero_le _, rfl, hB, Below.refl _ _⟩
    case round =>
      clear hB
      obtain ⟨k, hk, rfl, hB, hb⟩ := hrel
      by_cases hlt : k < n1
      · have hl := HL1.out
        have e1 := List.getElem?_eq_getElem (l := l1) (i := k) (by omega)
        generalize l1[k]'(by omega) = x at e1
        obtain ⟨b, off, rfl, hbl, g⟩ := rels_cells H1.out e1
        obtain ⟨g10, g11, g12, g13, g14, g15⟩ := g.below hB hbl
        have i1 : (k : Int) < (n1 : Int) := by omega
        have hwf := HW1.out x (List.mem_of_getElem? e1)
        clear hl e1 g
        cases h6 : ((k : Int) == 6)
        · have hRL := (HR4.out.below hb).more hb.size
          have hE := hen.out wr hB
          obtain ⟨W0, hW0⟩ : ∃ W0, W0 = wr.alloc (Obj.cells #[.int .i64 x.i, .bool x.a, .bool x.e, .int .i64 x.w, .int .i64 x.t, .int .i64 x.r] 31) := ⟨_, rfl⟩
          obtain ⟨hb0, hsz, y0, y1, y2, y3, y4, y5⟩ := new6 hW0
          have HX := Lib.hid (fun (W : World) (h : Below W0.heap.size W0 W) => (⟨Nat.lt_of_lt_of_le hsz h.size, cell_below' h y0 hsz, cell_below' h y1 hsz, cell_below' h y2 hsz, cell_below' h y3 hsz, cell_below' h y4 hsz, cell_below' h y5 hsz⟩ : (wr.heap.size < W.heap.size ∧ W.cell? ⟨wr.heap.size, 0, none⟩ = some (.int .i64 x.i) ∧ W.cell? ⟨wr.heap.size, 1, none⟩ = some (.bool x.a) ∧ W.cell? ⟨wr.heap.size, 2, none⟩ = some (.bool x.e) ∧ W.cell? ⟨wr.heap.size, 3, none⟩ = some (.int .i64 x.w) ∧ W.cell? ⟨wr.heap.size, 4, none⟩ = some (.int .i64 x.t) ∧ W.cell? ⟨wr.heap.size, 5, none⟩ = some (.int .i64 x.r))))
          have hs0 := Below.refl W0.heap.size W0
          have HR5 := Lib.hid (fun (W : World) (h : Below W0.heap.size W0 W) => ((((hRL.below hb0).more hb0.size).below h).more h.size))
          have HE5 := Lib.hid (fun (W : World) (h : Below W0.heap.size W0 W) => ((hE.below hb0).below h))
          have hfin := Lib.hid (fun (W : World) (h : Below W0.heap.size W0 W) => (show Below w.heap.size w W ∧ Below w4.heap.size w4 W from ⟨hB.trans ((hb0.trans (h.mono hb0.size)).mono hB.size), hb.trans ((hb0.trans (h.mono hb0.size)).mono hb.size)⟩))
          clear hRL hE y0 y1 y2 y3 y4 y5 hB hb
          subst hW0
          have gw := goes_with L x hwf
          rw [hrt] at gw
          rcases gw with ⟨h, _⟩ | ⟨_, k1, k8, k9⟩ | ⟨_, k1, k8, k9⟩ | ⟨_, k1, k2, k8, k9⟩ | ⟨_, k1, k2, k3, k8, k9⟩ | ⟨_, k1, k2, k3, k4, k8, k9⟩ | ⟨_, k1, k2, k3, k4, k8, k9, k10⟩
          · exact absurd h (by simp)
          · skip
            obtain ⟨y, hy⟩ := trOf_ex (rfind L x.i)
            have crf := fun (W : World) (h : Below _ _ W) => rfind_any A3 m c3 L x.i W (HR5.out W h) (by omega)
            rw [hy] at crf
            have crt := fun W => rmay_any x.a x.e x.w x.t x.r W
            rw [k1] at crt
            unfold trV at crt
            have gis := fun W => gis_any x.i W
            generalize (rfind L x.i).isSome = sb at crf
            have ci := fun (W : World) (h : Below _ _ W) => (with_any A3 m c3 L x W (HE5.out W h) (HR5.out W h) hc3.1 (by omega) hc3.2).mono (fun e w' h => OwnE.row (n := 0) h (by rw [k9]; rfl))
            rw [k8, k9] at ci
            unfold relV at ci
            clear k8 k9 hwf
            go_wp2_with (first
              | (go_at_call 23; ((with_reducible refine (ci _ hs0).mono ?_); rintro e w7 ⟨A7, c7, rfl, HM7, hb7⟩; have hs0 := hs0.trans (hb7.mono hs0.size); obtain ⟨x8, x0, x1, x2, x3, x4, x5⟩ := HX.out _ hs0))
              | (go_at_call 24; ((with_reducible refine (crf _ hs0).mono ?_); rintro e w8 ⟨rfl, hb8⟩; have hs0 := hs0.trans (hb8.mono hs0.size); obtain ⟨x8, x0, x1, x2, x3, x4, x5⟩ := HX.out _ hs0; have hs0 := hs0.alloc hs0.size (Obj.cells #[.bool y.a, .bool y.e, .int .i64 y.w, .int .i64 y.t, .int .i64 y.r] 29)))
              | (go_at_call 13; ((with_reducible refine (crt _).mono ?_); rintro e w9 ⟨rfl, hb9⟩; have hs0 := hs0.trans (hb9.mono hs0.size); obtain ⟨x8, x0, x1, x2, x3, x4, x5⟩ := HX.out _ hs0))
              | (go_at_call 25; ((with_reducible refine (gis _).mono ?_); rintro e w11 ⟨rfl, rfl⟩))
              | (go_at_call 15; ((with_reducible refine (nil_eq _ _ _).mono ?_); rintro e w10 ⟨rfl, hb10⟩; have hs0 := hs0.trans (hb10.mono hs0.size)))
              | fail)
            go_hide hQ
            go_loopw [89] (fun i wr' => i = .int .i64 0 ∧ wr' = w10) (fun i _ => 0)
            case atStart => exact ⟨rfl, rfl⟩
            case round =>
              obtain ⟨rfl, rfl⟩ := hrel
              go_wp2_with fail
              subst hQ
              go_wp2_with fail
              go_roundw
              case rel => exact ⟨k + 1, by omega, by go_num, (hfin.out _ hs0).1, (hfin.out _ hs0).2⟩
              case measure => simp [intOf]; omega
          · skip
            obtain ⟨y, hy⟩ := trOf_ex (rfind L x.i)
            have crf := fun (W : World) (h : Below _ _ W) => rfind_any A3 m c3 L x.i W (HR5.out W h) (by omega)
            rw [hy] at crf
            have crt := fun W => rmay_any x.a x.e x.w x.t x.r W
            rw [k1] at crt
            unfold trV at crt
            have gis := fun W => gis_any x.i W
            generalize (rfind L x.i).isSome = sb at crf
            have ci := fun (W : World) (h : Below _ _ W) => (with_any A3 m c3 L x W (HE5.out W h) (HR5.out W h) hc3.1 (by omega) hc3.2).mono (fun e w' h => OwnE.row (n := 0) h (by rw [k9]; rfl))
            rw [k8, k9] at ci
            unfold relV at ci
            clear k8 k9 hwf
            go_wp2_with (first
              | (go_at_call 23; ((with_reducible refine (ci _ hs0).mono ?_); rintro e w7 ⟨A7, c7, rfl, HM7, hb7⟩; have hs0 := hs0.trans (hb7.mono hs0.size); obtain ⟨x8, x0, x1, x2, x3, x4, x5⟩ := HX.out _ hs0))
              | (go_at_call 24; ((with_reducible refine (crf _ hs0).mono ?_); rintro e w8 ⟨rfl, hb8⟩; have hs0 := hs0.trans (hb8.mono hs0.size); obtain ⟨x8, x0, x1, x2, x3, x4, x5⟩ := HX.out _ hs0; have hs0 := hs0.alloc hs0.size (Obj.cells #[.bool y.a, .bool y.e, .int .i64 y.w, .int .i64 y.t, .int .i64 y.r] 29)))
              | (go_at_call 13; ((with_reducible refine (crt _).mono ?_); rintro e w9 ⟨rfl, hb9⟩; have hs0 := hs0.trans (hb9.mono hs0.size); obtain ⟨x8, x0, x1, x2, x3, x4, x5⟩ := HX.out _ hs0))
              | (go_at_call 25; ((with_reducible refine (gis _).mono ?_); rintro e w11 ⟨rfl, rfl⟩))
              | (go_at_call 15; ((with_reducible refine (nil_eq _ _ _).mono ?_); rintro e w10 ⟨rfl, hb10⟩; have hs0 := hs0.trans (hb10.mono hs0.size)))
              | fail)
            go_hide hQ
            go_loopw [89] (fun i wr' => i = .int .i64 0 ∧ wr' = w10) (fun i _ => 0)
            case atStart => exact ⟨rfl, rfl⟩
            case round =>
              obtain ⟨rfl, rfl⟩ := hrel
              go_wp2_with fail
              subst hQ
              go_wp2_with fail
              go_roundw
              case rel => exact ⟨k + 1, by omega, by go_num, (hfin.out _ hs0).1, (hfin.out _ hs0).2⟩
              case measure => simp [intOf]; omega
          · skip
            obtain ⟨y, hy⟩ := trOf_ex (rfind L x.i)
            have crf := fun (W : World) (h : Below _ _ W) => rfind_any A3 m c3 L x.i W (HR5.out W h) (by omega)
            rw [hy] at crf
            have crt := fun W => rmay_any x.a x.e x.w x.t x.r W
            rw [k1] at crt
            unfold trV at crt
            have gis := fun W => gis_any x.i W
            generalize (rfind L x.i).isSome = sb at crf
            rw [k2] at gis
            have ci := fun (W : World) (h : Below _ _ W) => (with_any A3 m c3 L x W (HE5.out W h) (HR5.out W h) hc3.1 (by omega) hc3.2).mono (fun e w' h => OwnE.row (n := 0) h (by rw [k9]; rfl))
            rw [k8, k9] at ci
            unfold relV at ci
            clear k8 k9 hwf
            go_wp2_with (first
              | (go_at_call 23; ((with_reducible refine (ci _ hs0).mono ?_); rintro e w7 ⟨A7, c7, rfl, HM7, hb7⟩; have hs0 := hs0.trans (hb7.mono hs0.size); obtain ⟨x8, x0, x1, x2, x3, x4, x5⟩ := HX.out _ hs0))
              | (go_at_call 24; ((with_reducible refine (crf _ hs0).mono ?_); rintro e w8 ⟨rfl, hb8⟩; have hs0 := hs0.trans (hb8.mono hs0.size); obtain ⟨x8, x0, x1, x2, x3, x4, x5⟩ := HX.out _ hs0; have hs0 := hs0.alloc hs0.size (Obj.cells #[.bool y.a, .bool y.e, .int .i64 y.w, .int .i64 y.t, .int .i64 y.r] 29)))
              | (go_at_call 13; ((with_reducible refine (crt _).mono ?_); rintro e w9 ⟨rfl, hb9⟩; have hs0 := hs0.trans (hb9.mono hs0.size); obtain ⟨x8, x0, x1, x2, x3, x4, x5⟩ := HX.out _ hs0))
              | (go_at_call 25; ((with_reducible refine (gis _).mono ?_); rintro e w11 ⟨rfl, rfl⟩))
              | (go_at_call 15; ((with_reducible refine (nil_eq _ _ _).mono ?_); rintro e w10 ⟨rfl, hb10⟩; have hs0 := hs0.trans (hb10.mono hs0.size)))
              | fail)
            go_hide hQ
            go_loopw [89] (fun i wr' => i = .int .i64 0 ∧ wr' = w10) (fun i _ => 0)
            case atStart => exact ⟨rfl, rfl⟩
            case round =>
              obtain ⟨rfl, rfl⟩ := hrel
              go_wp2_with fail
              subst hQ
              go_wp2_with fail
              go_roundw
              case rel => exact ⟨k + 1, by omega, by go_num, (hfin.out _ hs0).1, (hfin.out _ hs0).2⟩
              case measure => simp [intOf]; omega
          · skip
            obtain ⟨y, hy⟩ := trOf_ex (rfind L x.i)
            have crf := fun (W : World) (h : Below _ _ W) => rfind_any A3 m c3 L x.i W (HR5.out W h) (by omega)
            rw [hy] at crf
            have crt := fun W => rmay_any x.a x.e x.w x.t x.r W
            rw [k1] at crt
            unfold trV at crt
            have gis := fun W => gis_any x.i W
            rw [k3] at crf
            rw [k2] at gis
            have ci := fun (W : World) (h : Below _ _ W) => (with_any A3 m c3 L x W (HE5.out W h) (HR5.out W h) hc3.1 (by omega) hc3.2).mono (fun e w' h => OwnE.row (n := 0) h (by rw [k9]; rfl))
            rw [k8, k9] at ci
            unfold relV at ci
            clear k8 k9 hwf
            go_wp2_with (first
              | (go_at_call 23; ((with_reducible refine (ci _ hs0).mono ?_); rintro e w7 ⟨A7, c7, rfl, HM7, hb7⟩; have hs0 := hs0.trans (hb7.mono hs0.size); obtain ⟨x8, x0, x1, x2, x3, x4, x5⟩ := HX.out _ hs0))
              | (go_at_call 24; ((with_reducible refine (crf _ hs0).mono ?_); rintro e w8 ⟨rfl, hb8⟩; have hs0 := hs0.trans (hb8.mono hs0.size); obtain ⟨x8, x0, x1, x2, x3, x4, x5⟩ := HX.out _ hs0; have hs0 := hs0.alloc hs0.size (Obj.cells #[.bool y.a, .bool y.e, .int .i64 y.w, .int .i64 y.t, .int .i64 y.r] 29)))
              | (go_at_call 13; ((with_reducible refine (crt _).mono ?_); rintro e w9 ⟨rfl, hb9⟩; have hs0 := hs0.trans (hb9.mono hs0.size); obtain ⟨x8, x0, x1, x2, x3, x4, x5⟩ := HX.out _ hs0))
              | (go_at_call 25; ((with_reducible refine (gis _).mono ?_); rintro e w11 ⟨rfl, rfl⟩))
              | (go_at_call 15; ((with_reducible refine (nil_eq _ _ _).mono ?_); rintro e w10 ⟨rfl, hb10⟩; have hs0 := hs0.trans (hb10.mono hs0.size)))
              | fail)
            go_hide hQ
            go_loopw [89] (fun i wr' => i = .int .i64 0 ∧ wr' = w10) (fun i _ => 0)
            case atStart => exact ⟨rfl, rfl⟩
            case round =>
              obtain ⟨rfl, rfl⟩ := hrel
              go_wp2_with fail
              subst hQ
              go_wp2_with fail
              go_roundw
              case rel => exact ⟨k + 1, by omega, by go_num, (hfin.out _ hs0).1, (hfin.out _ hs0).2⟩
              case measure => simp [intOf]; omega
          · skip
            obtain ⟨y, hy⟩ := trOf_ex (rfind L x.i)
            have crf := fun (W : World) (h : Below _ _ W) => rfind_any A3 m c3 L x.i W (HR5.out W h) (by omega)
            rw [hy] at crf
            have crt := fun W => rmay_any x.a x.e x.w x.t x.r W
            rw [k1] at crt
            unfold trV at crt
            have gis := fun W => gis_any x.i W
            rw [k3] at crf
            rw [k2] at gis
            have hm9 := HM.out
            rw [hm9] at k4
            have hm8 : ((m : Int) == 200) = true := by rw [k4]; rfl
            clear hm9 k4
            have ci := fun (W : World) (h : Below _ _ W) => (with_any A3 m c3 L x W (HE5.out W h) (HR5.out W h) hc3.1 (by omega) hc3.2).mono (fun e w' h => OwnE.row (n := 0) h (by rw [k9]; rfl))
            rw [k8, k9] at ci
            unfold relV at ci
            clear k8 k9 hwf
            go_wp2_with (first
              | (go_at_call 23; ((with_reducible refine (ci _ hs0).mono ?_); rintro e w7 ⟨A7, c7, rfl, HM7, hb7⟩; have hs0 := hs0.trans (hb7.mono hs0.size); obtain ⟨x8, x0, x1, x2, x3, x4, x5⟩ := HX.out _ hs0))
              | (go_at_call 24; ((with_reducible refine (crf _ hs0).mono ?_); rintro e w8 ⟨rfl, hb8⟩; have hs0 := hs0.trans (hb8.mono hs0.size); obtain ⟨x8, x0, x1, x2, x3, x4, x5⟩ := HX.out _ hs0; have hs0 := hs0.alloc hs0.size (Obj.cells #[.bool y.a, .bool y.e, .int .i64 y.w, .int .i64 y.t, .int .i64 y.r] 29)))
              | (go_at_call 13; ((with_reducible refine (crt _).mono ?_); rintro e w9 ⟨rfl, hb9⟩; have hs0 := hs0.trans (hb9.mono hs0.size); obtain ⟨x8, x0, x1, x2, x3, x4, x5⟩ := HX.out _ hs0))
              | (go_at_call 25; ((with_reducible refine (gis _).mono ?_); rintro e w11 ⟨rfl, rfl⟩))
              | (go_at_call 15; ((with_reducible refine (nil_eq _ _ _).mono ?_); rintro e w10 ⟨rfl, hb10⟩; have hs0 := hs0.trans (hb10.mono hs0.size)))
              | fail)
            go_hide hQ
            go_loopw [89] (fun i wr' => i = .int .i64 0 ∧ wr' = w10) (fun i _ => 0)
            case atStart => exact ⟨rfl, rfl⟩
            case round =>
              obtain ⟨rfl, rfl⟩ := hrel
              go_wp2_with fail
              subst hQ
              go_wp2_with fail
              go_roundw
              case rel => exact ⟨k + 1, by omega, by go_num, (hfin.out _ hs0).1, (hfin.out _ hs0).2⟩
              case measure => simp [intOf]; omega
          · have hm9 := HM.out
            obtain ⟨y, hy⟩ := trOf_ex (rfind L x.i)
            have crf := fun (W : World) (h : Below _ _ W) => rfind_any A3 m c3 L x.i W (HR5.out W h) (by omega)
            rw [hy] at crf
            have crt := fun W => rmay_any x.a x.e x.w x.t x.r W
            rw [k1] at crt
            unfold trV at crt
            have gis := fun W => gis_any x.i W
            rw [k3] at crf
            rw [k2] at gis
            rw [hm9] at k10 k4
            have hm8 : ((m : Int) == 200) = false := by simp; omega
            have ci := fun (W : World) (h : Below _ _ W) => (with_any A3 m c3 L x W (HE5.out W h) (HR5.out W h) hc3.1 (by omega) hc3.2)
            rw [k8] at ci
            have ci := fun (W : World) (h : Below _ _ W) => (ci W h).mono (fun e w' h => OwnE.rowG (n := m + 1) h k10 (by omega))
            have cd := fun (W : World) (h : Below _ _ W) => (rwith_any A3 m c3 L x W (HR5.out W h) (by omega))
            rw [← k9] at cd
            have cd := fun (W : World) (h : Below _ _ W) => (cd W h).mono (fun e w' h => OwnR.row (n := m + 1) h k10)
            obtain ⟨N, hN⟩ : ∃ N, withL L x = N := ⟨_, rfl⟩
            rw [hN] at ci cd
            unfold relV at ci cd
            clear k8 k9 k10 k4 hm9 hN hwf
            go_wp2_with (first
              | (go_at_call 23; ((with_reducible refine (ci _ hs0).mono ?_); rintro e w7 ⟨g7, c7, cur, rfl, HM7, hg7, hbk7, hnum7, hb7⟩; have hs0 := hs0.trans (hb7.mono hs0.size); obtain ⟨x8, x0, x1, x2, x3, x4, x5⟩ := HX.out _ hs0; have h7 := Below.refl w7.heap.size w7))
              | (go_at_call 24; ((with_reducible refine (crf _ hs0).mono ?_); rintro e w8 ⟨rfl, hb8⟩; have hs0 := hs0.trans (hb8.mono hs0.size); obtain ⟨x8, x0, x1, x2, x3, x4, x5⟩ := HX.out _ hs0; have hs0 := hs0.alloc hs0.size (Obj.cells #[.bool y.a, .bool y.e, .int .i64 y.w, .int .i64 y.t, .int .i64 y.r] 29); have h7 := h7.trans (hb8.mono h7.size); have h7 := h7.alloc h7.size (Obj.cells #[.bool y.a, .bool y.e, .int .i64 y.w, .int .i64 y.t, .int .i64 y.r] 29)))
              | (go_at_call 13; ((with_reducible refine (crt _).mono ?_); rintro e w9 ⟨rfl, hb9⟩; have hs0 := hs0.trans (hb9.mono hs0.size); obtain ⟨x8, x0, x1, x2, x3, x4, x5⟩ := HX.out _ hs0; have h7 := h7.trans (hb9.mono h7.size)))
              | (go_at_call 25; ((with_reducible refine (gis _).mono ?_); rintro e w11 ⟨rfl, rfl⟩))
              | (go_at_call 26; ((with_reducible refine (cd _ hs0).mono ?_); rintro e w12 ⟨A12, c12, rfl, HM12, hb12⟩; have hs0 := hs0.trans (hb12.mono hs0.size); have h7 := h7.trans (hb12.mono h7.size)))
              | (go_at_call 15; ((with_reducible refine (same_eq ((HM7.below h7).more h7.size) HM12 (by omega)).mono ?_); rintro e w10 ⟨rfl, hb10⟩; have hs0 := hs0.trans (hb10.mono hs0.size); have h7 := h7.trans (hb10.mono h7.size)))
              | fail)
            have hbk := hbk7.below h7 hbk7.lt
            have HNUM := Lib.hid hnum7
            clear hnum7 hbk7 HM7
            go_hide hQ
            go_loopw [89] (fun i wr' => ∃ k2 : Nat, k2 ≤ m + 1 ∧ i = .int .i64 k2 ∧ (∃ cu : Array Value, Blk wr' g7 31 cu ∧ ∀ j, k2 ≤ j → j < m + 1 → ∃ x : Int, cu[j * 6]? = some (.int .i64 x)) ∧ Below (wr.alloc (Obj.cells #[.int .i64 x.i, .bool x.a, .bool x.e, .int .i64 x.w, .int .i64 x.t, .int .i64 x.r] 31)).heap.size (wr.alloc (Obj.cells #[.int .i64 x.i, .bool x.a, .bool x.e, .int .i64 x.w, .int .i64 x.t, .int .i64 x.r] 31)) wr') (fun i _ => m + 1 - (intOf i).toNat)
            case atStart => exact ⟨0, Nat.zero_le _, rfl, ⟨_, hbk, fun j _ hj => HNUM.out j hj⟩, hs0⟩
            case round =>
              obtain ⟨k2, hk2, rfl, ⟨cu, hcu, hnum⟩, hs3⟩ := hrel
              by_cases hlt2 : k2 < m + 1
              · obtain ⟨v, hv⟩ := hnum k2 (Nat.le_refl _) hlt2
                have hc1 := (hcu.cell (k2 * 6)).trans hv
                have hc2 := hcu.frozen (k2 * 6)
                have HN2 := Lib.hid hnum
                have i2 : (k2 : Int) < (((m + 1 : Nat)) : Int) := by omega
                clear hnum hv
                go_wp2_with fail
                go_roundw
                case rel => exact ⟨k2 + 1, by omega, by go_num, ⟨_, hcu.set_ (k2 * 6) _, fun j h1 h2 => by obtain ⟨u, hu⟩ := HN2.out j (by omega) h2; exact ⟨u, by rw [Array.getElem?_setIfInBounds_ne (by omega)]; exact hu⟩⟩, hs3.setCell (p := ⟨g7, k2 * 6, none⟩) hg7 _⟩
                case measure => simp [intOf]; omega
              · have hk3 : k2 = m + 1 := by omega
                subst hk3
                go_wp2_with fail
                subst hQ
                go_wp2_with fail
                go_roundw
                case rel => exact ⟨k + 1, by omega, by go_num, (hfin.out _ hs3).1, (hfin.out _ hs3).2⟩
                case measure => simp [intOf]; omega
        · have hB := hB.alloc hB.size (Obj.cells #[.int .i64 x.i, .bool x.a, .bool x.e, .int .i64 x.w, .int .i64 x.t, .int .i64 x.r] 31)
          have hb := hb.alloc hb.size (Obj.cells #[.int .i64 x.i, .bool x.a, .bool x.e, .int .i64 x.w, .int .i64 x.t, .int .i64 x.r] 31)
          clear hwf
          go_wp2_with fail
          go_loopw [104] (fun i wr => ∃ k : Nat, k ≤ n2 ∧ i = .int .i64 k ∧ Below w.heap.size w wr ∧ Below w4.heap.size w4 wr)
            (fun i _ => n2 - (intOf i).toNat)
          case atStart => exact ⟨0, Nat.zero_le _, rfl, hB, hb⟩
          case round =>
            clear hB hb
            obtain ⟨k, hk, rfl, hB, hb⟩ := hrel
            by_cases hlt : k < n2
            · have hl := HL2.out
              have e1 := List.getElem?_eq_getElem (l := l2) (i := k) (by omega)
              generalize l2[k]'(by omega) = v at e1
              obtain ⟨b2, off2, rfl, hbl2, gv⟩ := i64s_cell H2.out e1
              have gv := cell_below' hB gv hbl2
              have i1 : (k : Int) < (n2 : Int) := by omega
              have hwf := HW2.out v (List.mem_of_getElem? e1)
              clear hl e1
              cases h8 : ((k : Int) == 8)
              · have hRL := (HR4.out.below hb).more hb.size
                have hE := hen.out wr hB
                have hs0 := Below.refl wr.heap.size wr
                have HR5 := Lib.hid (fun (W : World) (h : Below wr.heap.size wr W) => ((hRL.below h).more h.size))
                have HE5 := Lib.hid (fun (W : World) (h : Below wr.heap.size wr W) => (hE.below h))
                have hfin := Lib.hid (fun (W : World) (h : Below wr.heap.size wr W) => (show Below w.heap.size w W ∧ Below w4.heap.size w4 W from ⟨hB.trans (h.mono hB.size), hb.trans (h.mono hb.size)⟩))
                clear hRL hE hB hb
                have gw := goes_without L v hwf
                rw [hrt] at gw
                rcases gw with ⟨h, _⟩ | ⟨_, k0, k1, k8, k9⟩ | ⟨_, k0, k1, k2, k8, k9⟩ | ⟨_, k0, k1, k2, k3, k8, k9⟩ | ⟨_, k0, k1, k2, k3, k8, k9, k10, k11⟩
                · exact absurd h (by simp)
                · skip
                  have ctf := fun (W : World) (h : Below _ _ W) => tfind_any A3 m c3 L v W (HE5.out W h) (HR5.out W h) (by omega)
                  rw [k0] at ctf
                  obtain ⟨y, hy⟩ := trOf_ex (rfind L v)
                  have crf := fun (W : World) (h : Below _ _ W) => rfind_any A3 m c3 L v W (HR5.out W h) (by omega)
                  rw [hy] at crf ctf
                  have hN := fun w => run_neq_tr w y
                  generalize (rfind L v).isSome = sb at crf ctf
                  have co := fun (W : World) (h : Below _ _ W) => (without_any A3 m c3 L v W (HE5.out W h) (HR5.out W h) (by omega)).mono (fun e w' h => OwnE.row (n := 0) h (by rw [k9]; rfl))
                  rw [k8, k9] at co
                  clear k8 k9 hwf
                  go_wp2_with (first
                    | (go_at_call 27; ((with_reducible refine (ctf _ hs0).mono ?_); rintro e w20 ⟨rfl, hb20⟩; have hs0 := hs0.trans (hb20.mono hs0.size); have hs0 := hs0.alloc hs0.size (Obj.cells #[.bool y.a, .bool y.e, .int .i64 y.w, .int .i64 y.t, .int .i64 y.r] 29); have hY := Blk.new w20 29 #[.bool y.a, .bool y.e, .int .i64 y.w, .int .i64 y.t, .int .i64 y.r]))
                    | (go_at_call 28; ((with_reducible refine (co _ hs0).mono ?_); rintro e w21 ⟨A7, c7, rfl, HM7, hb21⟩; have hs0 := hs0.trans (hb21.mono hs0.size); have hY := hY.below hb21 hY.lt; have hlt20 := hY.lt; obtain ⟨x0, x1, x2, x3, x4⟩ := blk5 hY; have hg21 := hs0.size; have hs0 := hs0.alloc hs0.size (Obj.cells #[.bool false, .bool false, .int .i64 0, .int .i64 0, .int .i64 0] 29); have hY := hY.alloc (Obj.cells #[.bool false, .bool false, .int .i64 0, .int .i64 0, .int .i64 0] 29); have hZ := Blk.new w21 29 #[.bool false, .bool false, .int .i64 0, .int .i64 0, .int .i64 0]))
                    | (go_at_call 24; ((with_reducible refine (crf _ hs0).mono ?_); rintro e w22 ⟨rfl, hb22⟩; have hs0 := st5_below (hs0.trans (hb22.mono hs0.size)) hg21 y; have hY0 := hY.below hb22 hY.lt; have hZ0 := hZ.below hb22 hZ.lt; obtain ⟨x0, x1, x2, x3, x4⟩ := blk5 hY0; obtain ⟨z0, z1, z2, z3, z4⟩ := blk5 hZ0; have f0 := hZ0.frozen 0; have f1 := hZ0.frozen 1; have f2 := hZ0.frozen 2; have f3 := hZ0.frozen 3; have f4 := hZ0.frozen 4; have hlt22 := hZ0.lt; have hne : w20.heap.size ≠ w21.heap.size := (by omega); have hne2 : w21.heap.size ≠ w20.heap.size := (by omega); have hY := st5_far hY0 hne y; have hZ := st5_blk hZ0 y; clear hY0 hZ0))
                    | (go_at_call 15; ((refine (nil_eq2 hs0 hs0.size).mono ?_); rintro e w10 ⟨rfl, hs0⟩))
                    | fail)
                  go_hide hQ
                  go_loopw [164] (fun i wr' => i = .int .i64 0 ∧ wr' = w10) (fun i _ => 0)
                  case atStart => exact ⟨rfl, rfl⟩
                  case round =>
                    obtain ⟨rfl, rfl⟩ := hrel
                    go_wp2_with fail
                    subst hQ
                    go_wp2_with fail
                    go_roundw
                    case rel => exact ⟨k + 1, by omega, by go_num, (hfin.out _ hs0).1, (hfin.out _ hs0).2⟩
                    case measure => simp [intOf]; omega
                · skip
                  have ctf := fun (W : World) (h : Below _ _ W) => tfind_any A3 m c3 L v W (HE5.out W h) (HR5.out W h) (by omega)
                  rw [k0] at ctf
                  obtain ⟨y, hy⟩ := trOf_ex (rfind L v)
                  have crf := fun (W : World) (h : Below _ _ W) => rfind_any A3 m c3 L v W (HR5.out W h) (by omega)
                  rw [hy] at crf ctf
                  have hN := fun w => run_neq_tr w y
                  generalize (rfind L v).isSome = sb at crf ctf
                  have co := fun (W : World) (h : Below _ _ W) => (without_any A3 m c3 L v W (HE5.out W h) (HR5.out W h) (by omega)).mono (fun e w' h => OwnE.row (n := 0) h (by rw [k9]; rfl))
                  rw [k8, k9] at co
                  clear k8 k9 hwf
                  go_wp2_with (first
                    | (go_at_call 27; ((with_reducible refine (ctf _ hs0).mono ?_); rintro e w20 ⟨rfl, hb20⟩; have hs0 := hs0.trans (hb20.mono hs0.size); have hs0 := hs0.alloc hs0.size (Obj.cells #[.bool y.a, .bool y.e, .int .i64 y.w, .int .i64 y.t, .int .i64 y.r] 29); have hY := Blk.new w20 29 #[.bool y.a, .bool y.e, .int .i64 y.w, .int .i64 y.t, .int .i64 y.r]))
                    | (go_at_call 28; ((with_reducible refine (co _ hs0).mono ?_); rintro e w21 ⟨A7, c7, rfl, HM7, hb21⟩; have hs0 := hs0.trans (hb21.mono hs0.size); have hY := hY.below hb21 hY.lt; have hlt20 := hY.lt; obtain ⟨x0, x1, x2, x3, x4⟩ := blk5 hY; have hg21 := hs0.size; have hs0 := hs0.alloc hs0.size (Obj.cells #[.bool false, .bool false, .int .i64 0, .int .i64 0, .int .i64 0] 29); have hY := hY.alloc (Obj.cells #[.bool false, .bool false, .int .i64 0, .int .i64 0, .int .i64 0] 29); have hZ := Blk.new w21 29 #[.bool false, .bool false, .int .i64 0, .int .i64 0, .int .i64 0]))
                    | (go_at_call 24; ((with_reducible refine (crf _ hs0).mono ?_); rintro e w22 ⟨rfl, hb22⟩; have hs0 := st5_below (hs0.trans (hb22.mono hs0.size)) hg21 y; have hY0 := hY.below hb22 hY.lt; have hZ0 := hZ.below hb22 hZ.lt; obtain ⟨x0, x1, x2, x3, x4⟩ := blk5 hY0; obtain ⟨z0, z1, z2, z3, z4⟩ := blk5 hZ0; have f0 := hZ0.frozen 0; have f1 := hZ0.frozen 1; have f2 := hZ0.frozen 2; have f3 := hZ0.frozen 3; have f4 := hZ0.frozen 4; have hlt22 := hZ0.lt; have hne : w20.heap.size ≠ w21.heap.size := (by omega); have hne2 : w21.heap.size ≠ w20.heap.size := (by omega); have hY := st5_far hY0 hne y; have hZ := st5_blk hZ0 y; clear hY0 hZ0))
                    | (go_at_call 15; ((refine (nil_eq2 hs0 hs0.size).mono ?_); rintro e w10 ⟨rfl, hs0⟩))
                    | fail)
                  go_hide hQ
                  go_loopw [164] (fun i wr' => i = .int .i64 0 ∧ wr' = w10) (fun i _ => 0)
                  case atStart => exact ⟨rfl, rfl⟩
                  case round =>
                    obtain ⟨rfl, rfl⟩ := hrel
                    go_wp2_with fail
                    subst hQ
                    go_wp2_with fail
                    go_roundw
                    case rel => exact ⟨k + 1, by omega, by go_num, (hfin.out _ hs0).1, (hfin.out _ hs0).2⟩
                    case measure => simp [intOf]; omega
                · skip
                  have ctf := fun (W : World) (h : Below _ _ W) => tfind_any A3 m c3 L v W (HE5.out W h) (HR5.out W h) (by omega)
                  rw [k0] at ctf
                  obtain ⟨y, hy⟩ := trOf_ex (rfind L v)
                  have crf := fun (W : World) (h : Below _ _ W) => rfind_any A3 m c3 L v W (HR5.out W h) (by omega)
                  rw [hy] at crf ctf
                  have hN := fun w => run_neq_tr w y
                  rw [k3] at crf ctf
                  have co := fun (W : World) (h : Below _ _ W) => (without_any A3 m c3 L v W (HE5.out W h) (HR5.out W h) (by omega)).mono (fun e w' h => OwnE.row (n := 0) h (by rw [k9]; rfl))
                  rw [k8, k9] at co
                  clear k8 k9 hwf
                  go_wp2_with (first
                    | (go_at_call 27; ((with_reducible refine (ctf _ hs0).mono ?_); rintro e w20 ⟨rfl, hb20⟩; have hs0 := hs0.trans (hb20.mono hs0.size); have hs0 := hs0.alloc hs0.size (Obj.cells #[.bool y.a, .bool y.e, .int .i64 y.w, .int .i64 y.t, .int .i64 y.r] 29); have hY := Blk.new w20 29 #[.bool y.a, .bool y.e, .int .i64 y.w, .int .i64 y.t, .int .i64 y.r]))
                    | (go_at_call 28; ((with_reducible refine (co _ hs0).mono ?_); rintro e w21 ⟨A7, c7, rfl, HM7, hb21⟩; have hs0 := hs0.trans (hb21.mono hs0.size); have hY := hY.below hb21 hY.lt; have hlt20 := hY.lt; obtain ⟨x0, x1, x2, x3, x4⟩ := blk5 hY; have hg21 := hs0.size; have hs0 := hs0.alloc hs0.size (Obj.cells #[.bool false, .bool false, .int .i64 0, .int .i64 0, .int .i64 0] 29); have hY := hY.alloc (Obj.cells #[.bool false, .bool false, .int .i64 0, .int .i64 0, .int .i64 0] 29); have hZ := Blk.new w21 29 #[.bool false, .bool false, .int .i64 0, .int .i64 0, .int .i64 0]))
                    | (go_at_call 24; ((with_reducible refine (crf _ hs0).mono ?_); rintro e w22 ⟨rfl, hb22⟩; have hs0 := st5_below (hs0.trans (hb22.mono hs0.size)) hg21 y; have hY0 := hY.below hb22 hY.lt; have hZ0 := hZ.below hb22 hZ.lt; obtain ⟨x0, x1, x2, x3, x4⟩ := blk5 hY0; obtain ⟨z0, z1, z2, z3, z4⟩ := blk5 hZ0; have f0 := hZ0.frozen 0; have f1 := hZ0.frozen 1; have f2 := hZ0.frozen 2; have f3 := hZ0.frozen 3; have f4 := hZ0.frozen 4; have hlt22 := hZ0.lt; have hne : w20.heap.size ≠ w21.heap.size := (by omega); have hne2 : w21.heap.size ≠ w20.heap.size := (by omega); have hY := st5_far hY0 hne y; have hZ := st5_blk hZ0 y; clear hY0 hZ0))
                    | (go_at_call 15; ((refine (nil_eq2 hs0 hs0.size).mono ?_); rintro e w10 ⟨rfl, hs0⟩))
                    | fail)
                  go_hide hQ
                  go_loopw [164] (fun i wr' => i = .int .i64 0 ∧ wr' = w10) (fun i _ => 0)
                  case atStart => exact ⟨rfl, rfl⟩
                  case round =>
                    obtain ⟨rfl, rfl⟩ := hrel
                    go_wp2_with fail
                    subst hQ
                    go_wp2_with fail
                    go_roundw
                    case rel => exact ⟨k + 1, by omega, by go_num, (hfin.out _ hs0).1, (hfin.out _ hs0).2⟩
                    case measure => simp [intOf]; omega
                · skip
                  have ctf := fun (W : World) (h : Below _ _ W) => tfind_any A3 m c3 L v W (HE5.out W h) (HR5.out W h) (by omega)
                  rw [k0] at ctf
                  obtain ⟨y, hy⟩ := trOf_ex (rfind L v)
                  have crf := fun (W : World) (h : Below _ _ W) => rfind_any A3 m c3 L v W (HR5.out W h) (by omega)
                  rw [hy] at crf ctf
                  have hN := fun w => run_neq_tr w y
                  rw [k3] at crf ctf
                  have hm9 := HM.out
                  rw [hm9] at k11 k10
                  have co := fun (W : World) (h : Below _ _ W) => without_any A3 m c3 L v W (HE5.out W h) (HR5.out W h) (by omega)
                  rw [k8] at co
                  have co := fun (W : World) (h : Below _ _ W) => (co W h).mono (fun e w' h => OwnE.rowG (n := m - 1) h k11 (by omega))
                  have cd := fun (W : World) (h : Below _ _ W) => rwo_any A3 m c3 L v W (HR5.out W h) (by omega)
                  rw [← k9] at cd
                  have cd := fun (W : World) (h : Below _ _ W) => (cd W h).mono (fun e w' h => OwnR.row (n := m - 1) h k11)
                  obtain ⟨N, hNN⟩ : ∃ N, withoutL L v = N := ⟨_, rfl⟩
                  rw [hNN] at co cd
                  obtain ⟨M1, hM1⟩ : ∃ M1, m - 1 = M1 := ⟨_, rfl⟩
                  rw [hM1] at co cd
                  have hM2 : M1 ≤ 201 := by omega
                  clear hm9 k11 k10 hNN hM1
                  clear k8 k9 hwf
                  go_wp2_with (first
                    | (go_at_call 27; ((with_reducible refine (ctf _ hs0).mono ?_); rintro e w20 ⟨rfl, hb20⟩; have hs0 := hs0.trans (hb20.mono hs0.size); have hs0 := hs0.alloc hs0.size (Obj.cells #[.bool y.a, .bool y.e, .int .i64 y.w, .int .i64 y.t, .int .i64 y.r] 29); have hY := Blk.new w20 29 #[.bool y.a, .bool y.e, .int .i64 y.w, .int .i64 y.t, .int .i64 y.r]))
                    | (go_at_call 28; ((with_reducible refine (co _ hs0).mono ?_); rintro e w21 ⟨g7, c7, cur, rfl, HM7, hg7, hbk7, hnum7, hb21⟩; have hg7 := Nat.le_trans hs0.size hg7; have hs0 := hs0.trans (hb21.mono hs0.size); have hY := hY.below hb21 hY.lt; have hlt20 := hY.lt; obtain ⟨x0, x1, x2, x3, x4⟩ := blk5 hY; have hg21 := hs0.size; have h7 := (Below.refl w21.heap.size w21).alloc (Nat.le_refl _) (Obj.cells #[.bool false, .bool false, .int .i64 0, .int .i64 0, .int .i64 0] 29); have hg7b := hbk7.lt; have hs0 := hs0.alloc hs0.size (Obj.cells #[.bool false, .bool false, .int .i64 0, .int .i64 0, .int .i64 0] 29); have hY := hY.alloc (Obj.cells #[.bool false, .bool false, .int .i64 0, .int .i64 0, .int .i64 0] 29); have hZ := Blk.new w21 29 #[.bool false, .bool false, .int .i64 0, .int .i64 0, .int .i64 0]))
                    | (go_at_call 24; ((with_reducible refine (crf _ hs0).mono ?_); rintro e w22 ⟨rfl, hb22⟩; have hs0 := st5_below (hs0.trans (hb22.mono hs0.size)) hg21 y; have hY0 := hY.below hb22 hY.lt; have hZ0 := hZ.below hb22 hZ.lt; have h7 := st5_below (h7.trans (hb22.mono h7.size)) (Nat.le_refl _) y; obtain ⟨x0, x1, x2, x3, x4⟩ := blk5 hY0; obtain ⟨z0, z1, z2, z3, z4⟩ := blk5 hZ0; have f0 := hZ0.frozen 0; have f1 := hZ0.frozen 1; have f2 := hZ0.frozen 2; have f3 := hZ0.frozen 3; have f4 := hZ0.frozen 4; have hlt22 := hZ0.lt; have hne : w20.heap.size ≠ w21.heap.size := (by omega); have hne2 : w21.heap.size ≠ w20.heap.size := (by omega); have hY := st5_far hY0 hne y; have hZ := st5_blk hZ0 y; clear hY0 hZ0))
                    | (go_at_call 29; ((refine (cd _ hs0).mono ?_); rintro e w23 ⟨A23, c23, rfl, HM23, hb23⟩; have hs0 := hs0.trans (hb23.mono hs0.size); have h7 := h7.trans (hb23.mono h7.size); have hY := hY.below hb23 hY.lt; have hZ := hZ.below hb23 hZ.lt; obtain ⟨x0, x1, x2, x3, x4⟩ := blk5 hY; obtain ⟨z0, z1, z2, z3, z4⟩ := blk5 hZ))
                    | (go_at_call 15; ((with_reducible refine (same_eq ((HM7.below h7).more h7.size) HM23 (by omega)).mono ?_); rintro e w10 ⟨rfl, hb10⟩; have hs0 := hs0.trans (hb10.mono hs0.size); have h7 := h7.trans (hb10.mono h7.size)))
                    | fail)
                  have hbk := hbk7.below h7 hbk7.lt
                  have HNUM := Lib.hid hnum7
                  clear hnum7 hbk7 HM7
                  go_hide hQ
                  go_loopw [164] (fun i wr' => ∃ k2 : Nat, k2 ≤ M1 ∧ i = .int .i64 k2 ∧ (∃ cu : Array Value, Blk wr' g7 31 cu ∧ ∀ j, k2 ≤ j → j < M1 → ∃ x : Int, cu[j * 6]? = some (.int .i64 x)) ∧ Below wr.heap.size wr wr') (fun i _ => M1 - (intOf i).toNat)
                  case atStart => exact ⟨0, Nat.zero_le _, rfl, ⟨_, hbk, fun j _ hj => HNUM.out j hj⟩, hs0⟩
                  case round =>
                    obtain ⟨k2, hk2, rfl, ⟨cu, hcu, hnum⟩, hs3⟩ := hrel
                    by_cases hlt2 : k2 < M1
                    · obtain ⟨v, hv⟩ := hnum k2 (Nat.le_refl _) hlt2
                      have hc1 := (hcu.cell (k2 * 6)).trans hv
                      have hc2 := hcu.frozen (k2 * 6)
                      have HN2 := Lib.hid hnum
                      have i2 : (k2 : Int) < (((M1 : Nat)) : Int) := by omega
                      clear hnum hv
                      go_wp2_with fail
                      go_roundw
                      case rel => exact ⟨k2 + 1, by omega, by go_num, ⟨_, hcu.set_ (k2 * 6) _, fun j h1 h2 => by obtain ⟨u, hu⟩ := HN2.out j (by omega) h2; exact ⟨u, by rw [Array.getElem?_setIfInBounds_ne (by omega)]; exact hu⟩⟩, hs3.setCell (p := ⟨g7, k2 * 6, none⟩) hg7 _⟩
                      case measure => simp [intOf]; omega
                    · have hk3 : k2 = M1 := by omega
                      subst hk3
                      go_wp2_with fail
                      subst hQ
                      go_wp2_with fail
                      go_roundw
                      case rel => exact ⟨k + 1, by omega, by go_num, (hfin.out _ hs3).1, (hfin.out _ hs3).2⟩
                      case measure => simp [intOf]; omega
              · have hkk := h8
                clear HL1 HL2 HW1 HW2 H1 H2
                have cf := hF.out
                have HRF := HR4.out
                go_wp2_with (first
                  | (go_at_call 9; ((with_reducible refine (cf _ hB).mono ?_); rintro e w30 ⟨A30, c30, rfl, HR30, hc30, hb30⟩; have hB := hB.trans (hb30.mono hB.size); have hb := hb.trans (hb30.mono hb.size)))
                  | (go_at_call 15; ((with_reducible refine (same_eq ((HRF.below hb).more hb.size) HR30 (by omega)).mono ?_); rintro e w31 ⟨rfl, hb31⟩; have hB := hB.trans (hb31.mono hB.size)))
                  | fail)
                try rw [Exit.noGoto_ret]
                go_ret
                exact ⟨rfl, hB⟩
            · have hkn : k = n2 := by omega
              subst hkn
              have cf := hF.out
              have HRF := HR4.out
              go_wp2_with (first
                | (go_at_call 9; ((with_reducible refine (cf _ hB).mono ?_); rintro e w30 ⟨A30, c30, rfl, HR30, hc30, hb30⟩; have hB := hB.trans (hb30.mono hB.size); have hb := hb.trans (hb30.mono hb.size)))
                | (go_at_call 15; ((with_reducible refine (same_eq ((HRF.below hb).more hb.size) HR30 (by omega)).mono ?_); rintro e w31 ⟨rfl, hb31⟩; have hB := hB.trans (hb31.mono hB.size)))
                | fail)
              try rw [Exit.noGoto_ret]
              go_ret
              exact ⟨rfl, hB⟩
      · have hkn : k = n1 := by omega
        subst hkn
        go_wp2_with fail
        go_loopw [104] (fun i wr => ∃ k : Nat, k ≤ n2 ∧ i = .int .i64 k ∧ Below w.heap.size w wr ∧ Below w4.heap.size w4 wr)
          (fun i _ => n2 - (intOf i).toNat)
        case atStart => exact ⟨0, Nat.zero_le _, rfl, hB, hb⟩
        case round =>
          clear hB hb
          obtain ⟨k, hk, rfl, hB, hb⟩ := hrel
          by_cases hlt : k < n2
          · have hl := HL2.out
            have e1 := List.getElem?_eq_getElem (l := l2) (i := k) (by omega)
            generalize l2[k]'(by omega) = v at e1
            obtain ⟨b2, off2, rfl, hbl2, gv⟩ := i64s_cell H2.out e1
            have gv := cell_below' hB gv hbl2
            have i1 : (k : Int) < (n2 : Int) := by omega
            have hwf := HW2.out v (List.mem_of_getElem? e1)
            clear hl e1
            cases h8 : ((k : Int) == 8)
            · have hRL := (HR4.out.below hb).more hb.size
              have hE := hen.out wr hB
              have hs0 := Below.refl wr.heap.size wr
              have HR5 := Lib.hid (fun (W : World) (h : Below wr.heap.size wr W) => ((hRL.below h).more h.size))
              have HE5 := Lib.hid (fun (W : World) (h : Below wr.heap.size wr W) => (hE.below h))
              have hfin := Lib.hid (fun (W : World) (h : Below wr.heap.size wr W) => (show Below w.heap.size w W ∧ Below w4.heap.size w4 W from ⟨hB.trans (h.mono hB.size), hb.trans (h.mono hb.size)⟩))
              clear hRL hE hB hb
              have gw := goes_without L v hwf
              rw [hrt] at gw
              rcases gw with ⟨h, _⟩ | ⟨_, k0, k1, k8, k9⟩ | ⟨_, k0, k1, k2, k8, k9⟩ | ⟨_, k0, k1, k2, k3, k8, k9⟩ | ⟨_, k0, k1, k2, k3, k8, k9, k10, k11⟩
              · exact absurd h (by simp)
              · skip
                have ctf := fun (W : World) (h : Below _ _ W) => tfind_any A3 m c3 L v W (HE5.out W h) (HR5.out W h) (by omega)
                rw [k0] at ctf
                obtain ⟨y, hy⟩ := trOf_ex (rfind L v)
                have crf := fun (W : World) (h : Below _ _ W) => rfind_any A3 m c3 L v W (HR5.out W h) (by omega)
                rw [hy] at crf ctf
                have hN := fun w => run_neq_tr w y
                generalize (rfind L v).isSome = sb at crf ctf
                have co := fun (W : World) (h : Below _ _ W) => (without_any A3 m c3 L v W (HE5.out W h) (HR5.out W h) (by omega)).mono (fun e w' h => OwnE.row (n := 0) h (by rw [k9]; rfl))
                rw [k8, k9] at co
                clear k8 k9 hwf
                go_wp2_with (first
                  | (go_at_call 27; ((with_reducible refine (ctf _ hs0).mono ?_); rintro e w20 ⟨rfl, hb20⟩; have hs0 := hs0.trans (hb20.mono hs0.size); have hs0 := hs0.alloc hs0.size (Obj.cells #[.bool y.a, .bool y.e, .int .i64 y.w, .int .i64 y.t, .int .i64 y.r] 29); have hY := Blk.new w20 29 #[.bool y.a, .bool y.e, .int .i64 y.w, .int .i64 y.t, .int .i64 y.r]))
                  | (go_at_call 28; ((with_reducible refine (co _ hs0).mono ?_); rintro e w21 ⟨A7, c7, rfl, HM7, hb21⟩; have hs0 := hs0.trans (hb21.mono hs0.size); have hY := hY.below hb21 hY.lt; have hlt20 := hY.lt; obtain ⟨x0, x1, x2, x3, x4⟩ := blk5 hY; have hg21 := hs0.size; have hs0 := hs0.alloc hs0.size (Obj.cells #[.bool false, .bool false, .int .i64 0, .int .i64 0, .int .i64 0] 29); have hY := hY.alloc (Obj.cells #[.bool false, .bool false, .int .i64 0, .int .i64 0, .int .i64 0] 29); have hZ := Blk.new w21 29 #[.bool false, .bool false, .int .i64 0, .int .i64 0, .int .i64 0]))
                  | (go_at_call 24; ((with_reducible refine (crf _ hs0).mono ?_); rintro e w22 ⟨rfl, hb22⟩; have hs0 := st5_below (hs0.trans (hb22.mono hs0.size)) hg21 y; have hY0 := hY.below hb22 hY.lt; have hZ0 := hZ.below hb22 hZ.lt; obtain ⟨x0, x1, x2, x3, x4⟩ := blk5 hY0; obtain ⟨z0, z1, z2, z3, z4⟩ := blk5 hZ0; have f0 := hZ0.frozen 0; have f1 := hZ0.frozen 1; have f2 := hZ0.frozen 2; have f3 := hZ0.frozen 3; have f4 := hZ0.frozen 4; have hlt22 := hZ0.lt; have hne : w20.heap.size ≠ w21.heap.size := (by omega); have hne2 : w21.heap.size ≠ w20.heap.size := (by omega); have hY := st5_far hY0 hne y; have hZ := st5_blk hZ0 y; clear hY0 hZ0))
                  | (go_at_call 15; ((refine (nil_eq2 hs0 hs0.size).mono ?_); rintro e w10 ⟨rfl, hs0⟩))
                  | fail)
                go_hide hQ
                go_loopw [164] (fun i wr' => i = .int .i64 0 ∧ wr' = w10) (fun i _ => 0)
                case atStart => exact ⟨rfl, rfl⟩
                case round =>
                  obtain ⟨rfl, rfl⟩ := hrel
                  go_wp2_with fail
                  subst hQ
                  go_wp2_with fail
                  go_roundw
                  case rel => exact ⟨k + 1, by omega, by go_num, (hfin.out _ hs0).1, (hfin.out _ hs0).2⟩
                  case measure => simp [intOf]; omega
              · skip
                have ctf := fun (W : World) (h : Below _ _ W) => tfind_any A3 m c3 L v W (HE5.out W h) (HR5.out W h) (by omega)
                rw [k0] at ctf
                obtain ⟨y, hy⟩ := trOf_ex (rfind L v)
                have crf := fun (W : World) (h : Below _ _ W) => rfind_any A3 m c3 L v W (HR5.out W h) (by omega)
                rw [hy] at crf ctf
                have hN := fun w => run_neq_tr w y
                generalize (rfind L v).isSome = sb at crf ctf
                have co := fun (W : World) (h : Below _ _ W) => (without_any A3 m c3 L v W (HE5.out W h) (HR5.out W h) (by omega)).mono (fun e w' h => OwnE.row (n := 0) h (by rw [k9]; rfl))
                rw [k8, k9] at co
                clear k8 k9 hwf
                go_wp2_with (first
                  | (go_at_call 27; ((with_reducible refine (ctf _ hs0).mono ?_); rintro e w20 ⟨rfl, hb20⟩; have hs0 := hs0.trans (hb20.mono hs0.size); have hs0 := hs0.alloc hs0.size (Obj.cells #[.bool y.a, .bool y.e, .int .i64 y.w, .int .i64 y.t, .int .i64 y.r] 29); have hY := Blk.new w20 29 #[.bool y.a, .bool y.e, .int .i64 y.w, .int .i64 y.t, .int .i64 y.r]))
                  | (go_at_call 28; ((with_reducible refine (co _ hs0).mono ?_); rintro e w21 ⟨A7, c7, rfl, HM7, hb21⟩; have hs0 := hs0.trans (hb21.mono hs0.size); have hY := hY.below hb21 hY.lt; have hlt20 := hY.lt; obtain ⟨x0, x1, x2, x3, x4⟩ := blk5 hY; have hg21 := hs0.size; have hs0 := hs0.alloc hs0.size (Obj.cells #[.bool false, .bool false, .int .i64 0, .int .i64 0, .int .i64 0] 29); have hY := hY.alloc (Obj.cells #[.bool false, .bool false, .int .i64 0, .int .i64 0, .int .i64 0] 29); have hZ := Blk.new w21 29 #[.bool false, .bool false, .int .i64 0, .int .i64 0, .int .i64 0]))
                  | (go_at_call 24; ((with_reducible refine (crf _ hs0).mono ?_); rintro e w22 ⟨rfl, hb22⟩; have hs0 := st5_below (hs0.trans (hb22.mono hs0.size)) hg21 y; have hY0 := hY.below hb22 hY.lt; have hZ0 := hZ.below hb22 hZ.lt; obtain ⟨x0, x1, x2, x3, x4⟩ := blk5 hY0; obtain ⟨z0, z1, z2, z3, z4⟩ := blk5 hZ0; have f0 := hZ0.frozen 0; have f1 := hZ0.frozen 1; have f2 := hZ0.frozen 2; have f3 := hZ0.frozen 3; have f4 := hZ0.frozen 4; have hlt22 := hZ0.lt; have hne : w20.heap.size ≠ w21.heap.size := (by omega); have hne2 : w21.heap.size ≠ w20.heap.size := (by omega); have hY := st5_far hY0 hne y; have hZ := st5_blk hZ0 y; clear hY0 hZ0))
                  | (go_at_call 15; ((refine (nil_eq2 hs0 hs0.size).mono ?_); rintro e w10 ⟨rfl, hs0⟩))
                  | fail)
                go_hide hQ
                go_loopw [164] (fun i wr' => i = .int .i64 0 ∧ wr' = w10) (fun i _ => 0)
                case atStart => exact ⟨rfl, rfl⟩
                case round =>
                  obtain ⟨rfl, rfl⟩ := hrel
                  go_wp2_with fail
                  subst hQ
                  go_wp2_with fail
                  go_roundw
                  case rel => exact ⟨k + 1, by omega, by go_num, (hfin.out _ hs0).1, (hfin.out _ hs0).2⟩
                  case measure => simp [intOf]; omega
              · skip
                have ctf := fun (W : World) (h : Below _ _ W) => tfind_any A3 m c3 L v W (HE5.out W h) (HR5.out W h) (by omega)
                rw [k0] at ctf
                obtain ⟨y, hy⟩ := trOf_ex (rfind L v)
                have crf := fun (W : World) (h : Below _ _ W) => rfind_any A3 m c3 L v W (HR5.out W h) (by omega)
                rw [hy] at crf ctf
                have hN := fun w => run_neq_tr w y
                rw [k3] at crf ctf
                have co := fun (W : World) (h : Below _ _ W) => (without_any A3 m c3 L v W (HE5.out W h) (HR5.out W h) (by omega)).mono (fun e w' h => OwnE.row (n := 0) h (by rw [k9]; rfl))
                rw [k8, k9] at co
                clear k8 k9 hwf
                go_wp2_with (first
                  | (go_at_call 27; ((with_reducible refine (ctf _ hs0).mono ?_); rintro e w20 ⟨rfl, hb20⟩; have hs0 := hs0.trans (hb20.mono hs0.size); have hs0 := hs0.alloc hs0.size (Obj.cells #[.bool y.a, .bool y.e, .int .i64 y.w, .int .i64 y.t, .int .i64 y.r] 29); have hY := Blk.new w20 29 #[.bool y.a, .bool y.e, .int .i64 y.w, .int .i64 y.t, .int .i64 y.r]))
                  | (go_at_call 28; ((with_reducible refine (co _ hs0).mono ?_); rintro e w21 ⟨A7, c7, rfl, HM7, hb21⟩; have hs0 := hs0.trans (hb21.mono hs0.size); have hY := hY.below hb21 hY.lt; have hlt20 := hY.lt; obtain ⟨x0, x1, x2, x3, x4⟩ := blk5 hY; have hg21 := hs0.size; have hs0 := hs0.alloc hs0.size (Obj.cells #[.bool false, .bool false, .int .i64 0, .int .i64 0, .int .i64 0] 29); have hY := hY.alloc (Obj.cells #[.bool false, .bool false, .int .i64 0, .int .i64 0, .int .i64 0] 29); have hZ := Blk.new w21 29 #[.bool false, .bool false, .int .i64 0, .int .i64 0, .int .i64 0]))
                  | (go_at_call 24; ((with_reducible refine (crf _ hs0).mono ?_); rintro e w22 ⟨rfl, hb22⟩; have hs0 := st5_below (hs0.trans (hb22.mono hs0.size)) hg21 y; have hY0 := hY.below hb22 hY.lt; have hZ0 := hZ.below hb22 hZ.lt; obtain ⟨x0, x1, x2, x3, x4⟩ := blk5 hY0; obtain ⟨z0, z1, z2, z3, z4⟩ := blk5 hZ0; have f0 := hZ0.frozen 0; have f1 := hZ0.frozen 1; have f2 := hZ0.frozen 2; have f3 := hZ0.frozen 3; have f4 := hZ0.frozen 4; have hlt22 := hZ0.lt; have hne : w20.heap.size ≠ w21.heap.size := (by omega); have hne2 : w21.heap.size ≠ w20.heap.size := (by omega); have hY := st5_far hY0 hne y; have hZ := st5_blk hZ0 y; clear hY0 hZ0))
                  | (go_at_call 15; ((refine (nil_eq2 hs0 hs0.size).mono ?_); rintro e w10 ⟨rfl, hs0⟩))
                  | fail)
                go_hide hQ
                go_loopw [164] (fun i wr' => i = .int .i64 0 ∧ wr' = w10) (fun i _ => 0)
                case atStart => exact ⟨rfl, rfl⟩
                case round =>
                  obtain ⟨rfl, rfl⟩ := hrel
                  go_wp2_with fail
                  subst hQ
                  go_wp2_with fail
                  go_roundw
                  case rel => exact ⟨k + 1, by omega, by go_num, (hfin.out _ hs0).1, (hfin.out _ hs0).2⟩
                  case measure => simp [intOf]; omega
              · skip
                have ctf := fun (W : World) (h : Below _ _ W) => tfind_any A3 m c3 L v W (HE5.out W h) (HR5.out W h) (by omega)
                rw [k0] at ctf
                obtain ⟨y, hy⟩ := trOf_ex (rfind L v)
                have crf := fun (W : World) (h : Below _ _ W) => rfind_any A3 m c3 L v W (HR5.out W h) (by omega)
                rw [hy] at crf ctf
                have hN := fun w => run_neq_tr w y
                rw [k3] at crf ctf
                have hm9 := HM.out
                rw [hm9] at k11 k10
                have co := fun (W : World) (h : Below _ _ W) => without_any A3 m c3 L v W (HE5.out W h) (HR5.out W h) (by omega)
                rw [k8] at co
                have co := fun (W : World) (h : Below _ _ W) => (co W h).mono (fun e w' h => OwnE.rowG (n := m - 1) h k11 (by omega))
                have cd := fun (W : World) (h : Below _ _ W) => rwo_any A3 m c3 L v W (HR5.out W h) (by omega)
                rw [← k9] at cd
                have cd := fun (W : World) (h : Below _ _ W) => (cd W h).mono (fun e w' h => OwnR.row (n := m - 1) h k11)
                obtain ⟨N, hNN⟩ : ∃ N, withoutL L v = N := ⟨_, rfl⟩
                rw [hNN] at co cd
                obtain ⟨M1, hM1⟩ : ∃ M1, m - 1 = M1 := ⟨_, rfl⟩
                rw [hM1] at co cd
                have hM2 : M1 ≤ 201 := by omega
                clear hm9 k11 k10 hNN hM1
                clear k8 k9 hwf
                go_wp2_with (first
                  | (go_at_call 27; ((with_reducible refine (ctf _ hs0).mono ?_); rintro e w20 ⟨rfl, hb20⟩; have hs0 := hs0.trans (hb20.mono hs0.size); have hs0 := hs0.alloc hs0.size (Obj.cells #[.bool y.a, .bool y.e, .int .i64 y.w, .int .i64 y.t, .int .i64 y.r] 29); have hY := Blk.new w20 29 #[.bool y.a, .bool y.e, .int .i64 y.w, .int .i64 y.t, .int .i64 y.r]))
                  | (go_at_call 28; ((with_reducible refine (co _ hs0).mono ?_); rintro e w21 ⟨g7, c7, cur, rfl, HM7, hg7, hbk7, hnum7, hb21⟩; have hg7 := Nat.le_trans hs0.size hg7; have hs0 := hs0.trans (hb21.mono hs0.size); have hY := hY.below hb21 hY.lt; have hlt20 := hY.lt; obtain ⟨x0, x1, x2, x3, x4⟩ := blk5 hY; have hg21 := hs0.size; have h7 := (Below.refl w21.heap.size w21).alloc (Nat.le_refl _) (Obj.cells #[.bool false, .bool false, .int .i64 0, .int .i64 0, .int .i64 0] 29); have hg7b := hbk7.lt; have hs0 := hs0.alloc hs0.size (Obj.cells #[.bool false, .bool false, .int .i64 0, .int .i64 0, .int .i64 0] 29); have hY := hY.alloc (Obj.cells #[.bool false, .bool false, .int .i64 0, .int .i64 0, .int .i64 0] 29); have hZ := Blk.new w21 29 #[.bool false, .bool false, .int .i64 0, .int .i64 0, .int .i64 0]))
                  | (go_at_call 24; ((with_reducible refine (crf _ hs0).mono ?_); rintro e w22 ⟨rfl, hb22⟩; have hs0 := st5_below (hs0.trans (hb22.mono hs0.size)) hg21 y; have hY0 := hY.below hb22 hY.lt; have hZ0 := hZ.below hb22 hZ.lt; have h7 := st5_below (h7.trans (hb22.mono h7.size)) (Nat.le_refl _) y; obtain ⟨x0, x1, x2, x3, x4⟩ := blk5 hY0; obtain ⟨z0, z1, z2, z3, z4⟩ := blk5 hZ0; have f0 := hZ0.frozen 0; have f1 := hZ0.frozen 1; have f2 := hZ0.frozen 2; have f3 := hZ0.frozen 3; have f4 := hZ0.frozen 4; have hlt22 := hZ0.lt; have hne : w20.heap.size ≠ w21.heap.size := (by omega); have hne2 : w21.heap.size ≠ w20.heap.size := (by omega); have hY := st5_far hY0 hne y; have hZ := st5_blk hZ0 y; clear hY0 hZ0))
                  | (go_at_call 29; ((refine (cd _ hs0).mono ?_); rintro e w23 ⟨A23, c23, rfl, HM23, hb23⟩; have hs0 := hs0.trans (hb23.mono hs0.size); have h7 := h7.trans (hb23.mono h7.size); have hY := hY.below hb23 hY.lt; have hZ := hZ.below hb23 hZ.lt; obtain ⟨x0, x1, x2, x3, x4⟩ := blk5 hY; obtain ⟨z0, z1, z2, z3, z4⟩ := blk5 hZ))
                  | (go_at_call 15; ((with_reducible refine (same_eq ((HM7.below h7).more h7.size) HM23 (by omega)).mono ?_); rintro e w10 ⟨rfl, hb10⟩; have hs0 := hs0.trans (hb10.mono hs0.size); have h7 := h7.trans (hb10.mono h7.size)))
                  | fail)
                have hbk := hbk7.below h7 hbk7.lt
                have HNUM := Lib.hid hnum7
                clear hnum7 hbk7 HM7
                go_hide hQ
                go_loopw [164] (fun i wr' => ∃ k2 : Nat, k2 ≤ M1 ∧ i = .int .i64 k2 ∧ (∃ cu : Array Value, Blk wr' g7 31 cu ∧ ∀ j, k2 ≤ j → j < M1 → ∃ x : Int, cu[j * 6]? = some (.int .i64 x)) ∧ Below wr.heap.size wr wr') (fun i _ => M1 - (intOf i).toNat)
                case atStart => exact ⟨0, Nat.zero_le _, rfl, ⟨_, hbk, fun j _ hj => HNUM.out j hj⟩, hs0⟩
                case round =>
                  obtain ⟨k2, hk2, rfl, ⟨cu, hcu, hnum⟩, hs3⟩ := hrel
                  by_cases hlt2 : k2 < M1
                  · obtain ⟨v, hv⟩ := hnum k2 (Nat.le_refl _) hlt2
                    have hc1 := (hcu.cell (k2 * 6)).trans hv
                    have hc2 := hcu.frozen (k2 * 6)
                    have HN2 := Lib.hid hnum
                    have i2 : (k2 : Int) < (((M1 : Nat)) : Int) := by omega
                    clear hnum hv
                    go_wp2_with fail
                    go_roundw
                    case rel => exact ⟨k2 + 1, by omega, by go_num, ⟨_, hcu.set_ (k2 * 6) _, fun j h1 h2 => by obtain ⟨u, hu⟩ := HN2.out j (by omega) h2; exact ⟨u, by rw [Array.getElem?_setIfInBounds_ne (by omega)]; exact hu⟩⟩, hs3.setCell (p := ⟨g7, k2 * 6, none⟩) hg7 _⟩
                    case measure => simp [intOf]; omega
                  · have hk3 : k2 = M1 := by omega
                    subst hk3
                    go_wp2_with fail
                    subst hQ
                    go_wp2_with fail
                    go_roundw
                    case rel => exact ⟨k + 1, by omega, by go_num, (hfin.out _ hs3).1, (hfin.out _ hs3).2⟩
                    case measure => simp [intOf]; omega
            · have hkk := h8
              clear HL1 HL2 HW1 HW2 H1 H2
              have cf := hF.out
              have HRF := HR4.out
              go_wp2_with (first
                | (go_at_call 9; ((with_reducible refine (cf _ hB).mono ?_); rintro e w30 ⟨A30, c30, rfl, HR30, hc30, hb30⟩; have hB := hB.trans (hb30.mono hB.size); have hb := hb.trans (hb30.mono hb.size)))
                | (go_at_call 15; ((with_reducible refine (same_eq ((HRF.below hb).more hb.size) HR30 (by omega)).mono ?_); rintro e w31 ⟨rfl, hb31⟩; have hB := hB.trans (hb31.mono hB.size)))
                | fail)
              try rw [Exit.noGoto_ret]
              go_ret
              exact ⟨rfl, hB⟩
          · have hkn : k = n2 := by omega
            subst hkn
            have cf := hF.out
            have HRF := HR4.out
            go_wp2_with (first
              | (go_at_call 9; ((with_reducible refine (cf _ hB).mono ?_); rintro e w30 ⟨A30, c30, rfl, HR30, hc30, hb30⟩; have hB := hB.trans (hb30.mono hB.size); have hb := hb.trans (hb30.mono hb.size)))
              | (go_at_call 15; ((with_reducible refine (same_eq ((HRF.below hb).more hb.size) HR30 (by omega)).mono ?_); rintro e w31 ⟨rfl, hb31⟩; have hB := hB.trans (hb31.mono hB.size)))
              | fail)
            try rw [Exit.noGoto_ret]
            go_ret
            exact ⟨rfl, hB⟩
end Go.Proofs.YtibjelonabhcmaaDoor
