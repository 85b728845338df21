/- What is proved: the contract of Read of package ident: what it gives is rd of the text. -/
import Derived.Test.YtdckcnikoichmaaDoorIdH
namespace Go.Proofs.YtdckcnikoichmaaDoor
open Go.RowKit
set_option linter.unusedVariables false
set_option linter.unusedSimpArgs false
set_option maxRecDepth 100000 in
set_option maxHeartbeats 8000000 in
theorem read_e (r : List UInt8) (w : World) (hE : Env w) (hs : r.length ≤ 100) :
    Calls Tryd.prog 22 #[.string ⟨((101 : UInt8) :: r).toArray⟩] w fun e w' => e = .returned (.tuple #[.int .u64 (rdV (101 :: r)), .int .i64 (rdE (101 :: r))]) ∧ Below w.heap.size w w' := by
  have hmm := @run_makeMap Tryd.prog
  have hmf : ∀ (fn : Fn) (first cap : Array Value) (w : World), (Instr.makeFunc fn first cap).run Tryd.prog w = .ok (.func fn first cap) w := fun _ _ _ _ => rfl
  have v1 := u1
  have v2 := u2
  have v3 := u3
  have k1 := l1
  have g0 : ∀ h, ((({ data := ((101 : UInt8) :: r).toArray } : ByteArray)[0]'h).toNat : Int) = 101 := fun _ => rfl
  have hex := ex1 101 r
  have hbe := (Below.refl w.heap.size w).alloc (Nat.le_refl _) (.map m1 3)
  have hcl := cut_len r [46]
  go_enter Tryd.func22, Tryd.ntmps22
  go_wp2_with fail
  refine (cut_any r 46 _ (hE.below hbe) (by omega)).mono ?_
  rintro e w1 ⟨rfl, hb1⟩
  have hb1 := hbe_tr hbe hb1
  generalize hx : (Lib.cut r [46]).1 = x at *
  generalize hy : (Lib.cut r [46]).2.1 = y at *
  have hmk : mkP (101 :: r) = (match numP x, numP y with
        | some a, some b => if entE a b = 0 then some (entV a b) else none
        | _, _ => none) := by show (match numP (Lib.cut r [46]).1, numP (Lib.cut r [46]).2.1 with | some a, some b => if entE a b = 0 then some (entV a b) else none | _, _ => none) = _; rw [hx, hy]
  have HMK := Lib.hid hmk
  clear hmk hx hy hbe
  go_wp2_with fail
  refine (num_any x _ (by omega) (hE.below hb1)).mono ?_
  rintro e w2 ⟨a, rfl, ha, ia, hb2⟩
  have hb2 := hbe_tr hb1 hb2
  have HA := Lib.hid ha
  clear ha
  go_wp2_with fail
  refine (num_any y _ (by omega) (hE.below (hb2.alloc hb2.size _))).mono ?_
  rintro e w3 ⟨b, rfl, hbv, ib, hb3⟩
  have hb3' := hbe_tr (hb2.alloc hb2.size _) hb3
  have HB := Lib.hid hbv
  clear hbv
  have hca : w3.cell? ⟨w2.heap.size, 0, none⟩ = some (.int .i64 a) := cell_below hb3 (by simp [go_sem]) (by simp)
  have hz3 : w2.heap.size < w3.heap.size := by have := hb3.size; simp at this; omega
  cases hA : numP x with
  | none =>
    obtain ⟨e1, e2⟩ := rd_none (l := 101 :: r) (by rw [HMK.out, hA])
    have E1 := Lib.hid e1; have E2 := Lib.hid e2
    clear e1 e2 hA
    go_wp2_with fail
    go_ret2
    exact ⟨ret_two E1.out.symm E2.out.symm, hb3'.alloc hb3'.size _⟩
  | some a' =>
    cases hB : numP y with
    | none =>
      obtain ⟨e1, e2⟩ := rd_none (l := 101 :: r) (by rw [HMK.out, hA, hB])
      have E1 := Lib.hid e1; have E2 := Lib.hid e2
      clear e1 e2 hA hB
      go_wp2_with fail
      go_ret2
      exact ⟨ret_two E1.out.symm E2.out.symm, hb3'.alloc hb3'.size _⟩
    | some b' =>
      obtain rfl := HA.out a' hA
      obtain rfl := HB.out b' hB
      have hfin := rd_fin (l := 101 :: r) (v := entV a' b') (ev := entE a' b') (by rw [HMK.out, hA, hB]) (by simp)
      clear hA hB
      have HF := Lib.hid hfin
      clear hfin
      have o1 := n1
      have o2 := n2
      have o3 := n3
      have o4 := q1
      have hb4 := (hb3'.alloc hb3'.size (.cells #[.int .i64 b'] 3))
      have hwd := ent_word a' b'
      go_wp2_with fail
      have hb5 := hb4.alloc hb4.size (M 3 (.func (.func 38) #[] #[.pointer (some ⟨w2.heap.size, 0, none⟩), .pointer (some ⟨w3.heap.size, 0, none⟩)]) (.func (.func 39) #[] #[.pointer (some ⟨w2.heap.size, 0, none⟩)])
        (.func (.func 40) #[] #[.pointer (some ⟨w2.heap.size, 0, none⟩), .pointer (some ⟨w3.heap.size, 0, none⟩)]))
      refine (rd1_any a' b' _ _ _ (cell_below (((Below.refl w3.heap.size w3).alloc (Nat.le_refl _) _).alloc (by simp) _) hca hz3) (by simp [go_sem, World.cell?_alloc_past])).mono ?_
      rintro e w5 ⟨rfl, hb6⟩
      have hb6 := hbe_tr hb5 hb6
      clear hca hb5 hb4 hb3' hb3 hb2
      go_wp2_with fail
      refine (text_any _ hwd _ (hE.below hb6)).mono ?_
      rintro e w6 ⟨rfl, hb7⟩
      have hb7 := hbe_tr hb6 hb7
      clear hb6
      rcases HF.out with ⟨f1, f2, f3⟩ | ⟨f1, f4, f2, f3⟩ | ⟨f1, f4, f5, f2, f3⟩ | ⟨f1, f4, f5, f2, f3⟩
      all_goals
        have F2 := Lib.hid f2; have F3 := Lib.hid f3
        clear f2 f3
        go_wp2_with fail
        go_ret2
        exact ⟨ret_two F2.out.symm F3.out.symm, hb7⟩
set_option maxRecDepth 100000 in
set_option maxHeartbeats 8000000 in
theorem read_p (r : List UInt8) (w : World) (hE : Env w) (hs : r.length ≤ 100) :
    Calls Tryd.prog 22 #[.string ⟨((112 : UInt8) :: r).toArray⟩] w fun e w' => e = .returned (.tuple #[.int .u64 (rdV (112 :: r)), .int .i64 (rdE (112 :: r))]) ∧ Below w.heap.size w w' := by
  have hmm := @run_makeMap Tryd.prog
  have hmf : ∀ (fn : Fn) (first cap : Array Value) (w : World), (Instr.makeFunc fn first cap).run Tryd.prog w = .ok (.func fn first cap) w := fun _ _ _ _ => rfl
  have v1 := u1
  have v2 := u2
  have v3 := u3
  have k1 := l3
  have g0 : ∀ h, ((({ data := ((112 : UInt8) :: r).toArray } : ByteArray)[0]'h).toNat : Int) = 112 := fun _ => rfl
  have hex := ex1 112 r
  have hbe := (Below.refl w.heap.size w).alloc (Nat.le_refl _) (.map m1 3)
  have hcl := cut_len r [58]
  go_enter Tryd.func22, Tryd.ntmps22
  go_wp2_with fail
  refine (cut_any r 58 _ (hE.below hbe) (by omega)).mono ?_
  rintro e w1 ⟨rfl, hb1⟩
  have hb1 := hbe_tr hbe hb1
  generalize hx : (Lib.cut r [58]).1 = x at *
  generalize hy : (Lib.cut r [58]).2.1 = y at *
  have hmk : mkP (112 :: r) = (match numP x, numP y with
        | some a, some b => if paiE a b = 0 then some (paiV a b) else none
        | _, _ => none) := by show (match numP (Lib.cut r [58]).1, numP (Lib.cut r [58]).2.1 with | some a, some b => if paiE a b = 0 then some (paiV a b) else none | _, _ => none) = _; rw [hx, hy]
  have HMK := Lib.hid hmk
  clear hmk hx hy hbe
  go_wp2_with fail
  refine (num_any x _ (by omega) (hE.below hb1)).mono ?_
  rintro e w2 ⟨a, rfl, ha, ia, hb2⟩
  have hb2 := hbe_tr hb1 hb2
  have HA := Lib.hid ha
  clear ha
  go_wp2_with fail
  refine (num_any y _ (by omega) (hE.below (hb2.alloc hb2.size _))).mono ?_
  rintro e w3 ⟨b, rfl, hbv, ib, hb3⟩
  have hb3' := hbe_tr (hb2.alloc hb2.size _) hb3
  have HB := Lib.hid hbv
  clear hbv
  have hca : w3.cell? ⟨w2.heap.size, 0, none⟩ = some (.int .i64 a) := cell_below hb3 (by simp [go_sem]) (by simp)
  have hz3 : w2.heap.size < w3.heap.size := by have := hb3.size; simp at this; omega
  cases hA : numP x with
  | none =>
    obtain ⟨e1, e2⟩ := rd_none (l := 112 :: r) (by rw [HMK.out, hA])
    have E1 := Lib.hid e1; have E2 := Lib.hid e2
    clear e1 e2 hA
    go_wp2_with fail
    go_ret2
    exact ⟨ret_two E1.out.symm E2.out.symm, hb3'.alloc hb3'.size _⟩
  | some a' =>
    cases hB : numP y with
    | none =>
      obtain ⟨e1, e2⟩ := rd_none (l := 112 :: r) (by rw [HMK.out, hA, hB])
      have E1 := Lib.hid e1; have E2 := Lib.hid e2
      clear e1 e2 hA hB
      go_wp2_with fail
      go_ret2
      exact ⟨ret_two E1.out.symm E2.out.symm, hb3'.alloc hb3'.size _⟩
    | some b' =>
      obtain rfl := HA.out a' hA
      obtain rfl := HB.out b' hB
      have hfin := rd_fin (l := 112 :: r) (v := paiV a' b') (ev := paiE a' b') (by rw [HMK.out, hA, hB]) (by simp)
      clear hA hB
      have HF := Lib.hid hfin
      clear hfin
      have o1 := n1
      have o2 := n2
      have o3 := n3
      have o4 := q3
      have hb4 := (hb3'.alloc hb3'.size (.cells #[.int .i64 b'] 3))
      have hwd := pai_word a' b'
      go_wp2_with fail
      have hb5 := hb4.alloc hb4.size (M 3 (.func (.func 38) #[] #[.pointer (some ⟨w2.heap.size, 0, none⟩), .pointer (some ⟨w3.heap.size, 0, none⟩)]) (.func (.func 39) #[] #[.pointer (some ⟨w2.heap.size, 0, none⟩)])
        (.func (.func 40) #[] #[.pointer (some ⟨w2.heap.size, 0, none⟩), .pointer (some ⟨w3.heap.size, 0, none⟩)]))
      refine (rd3_any a' b' _ _ _ (cell_below (((Below.refl w3.heap.size w3).alloc (Nat.le_refl _) _).alloc (by simp) _) hca hz3) (by simp [go_sem, World.cell?_alloc_past])).mono ?_
      rintro e w5 ⟨rfl, hb6⟩
      have hb6 := hbe_tr hb5 hb6
      clear hca hb5 hb4 hb3' hb3 hb2
      go_wp2_with fail
      refine (text_any _ hwd _ (hE.below hb6)).mono ?_
      rintro e w6 ⟨rfl, hb7⟩
      have hb7 := hbe_tr hb6 hb7
      clear hb6
      rcases HF.out with ⟨f1, f2, f3⟩ | ⟨f1, f4, f2, f3⟩ | ⟨f1, f4, f5, f2, f3⟩ | ⟨f1, f4, f5, f2, f3⟩
      all_goals
        have F2 := Lib.hid f2; have F3 := Lib.hid f3
        clear f2 f3
        go_wp2_with fail
        go_ret2
        exact ⟨ret_two F2.out.symm F3.out.symm, hb7⟩
set_option maxRecDepth 100000 in
set_option maxHeartbeats 8000000 in
theorem read_c (r : List UInt8) (w : World) (hE : Env w) (hs : r.length ≤ 100) :
    Calls Tryd.prog 22 #[.string ⟨((99 : UInt8) :: r).toArray⟩] w fun e w' => e = .returned (.tuple #[.int .u64 (rdV (99 :: r)), .int .i64 (rdE (99 :: r))]) ∧ Below w.heap.size w w' := by
  have hmm := @run_makeMap Tryd.prog
  have hmf : ∀ (fn : Fn) (first cap : Array Value) (w : World), (Instr.makeFunc fn first cap).run Tryd.prog w = .ok (.func fn first cap) w := fun _ _ _ _ => rfl
  have v1 := u1
  have v2 := u2
  have v3 := u3
  have k1 := l2
  have g0 : ∀ h, ((({ data := ((99 : UInt8) :: r).toArray } : ByteArray)[0]'h).toNat : Int) = 99 := fun _ => rfl
  have hex := ex1 99 r
  have hb1 := (Below.refl w.heap.size w).alloc (Nat.le_refl _) (.map m1 3)
  have hmk : mkP (99 :: r) = (match numP r with
        | some a => if comE a = 0 then some (comV a) else none
        | _ => none) := rfl
  have HMK := Lib.hid hmk
  clear hmk
  go_enter Tryd.func22, Tryd.ntmps22
  go_wp2_with fail
  refine (num_any r _ (by omega) (hE.below hb1)).mono ?_
  rintro e w2 ⟨a, rfl, ha, ia, hb2⟩
  have hb2 := hbe_tr hb1 hb2
  have HA := Lib.hid ha
  clear ha
  go_wp2_with fail
  refine (num_0 _ (hE.below (hb2.alloc hb2.size _))).mono ?_
  rintro e w3 ⟨b, rfl, hbv, ib, hb3⟩
  have hb3' := hbe_tr (hb2.alloc hb2.size _) hb3
  have hca : w3.cell? ⟨w2.heap.size, 0, none⟩ = some (.int .i64 a) := cell_below hb3 (by simp [go_sem]) (by simp)
  have hz3 : w2.heap.size < w3.heap.size := by have := hb3.size; simp at this; omega
  obtain rfl := hbv 0 num_zero
  clear hbv
  have hs2 : (numP [48]).isSome = true := by rw [num_zero]; rfl
  cases hA : numP r with
  | none =>
    obtain ⟨e1, e2⟩ := rd_none (l := 99 :: r) (by rw [HMK.out, hA])
    have E1 := Lib.hid e1; have E2 := Lib.hid e2
    clear e1 e2 hA
    go_wp2_with fail
    go_ret2
    exact ⟨ret_two E1.out.symm E2.out.symm, hb3'.alloc hb3'.size _⟩
  | some a' =>
      obtain rfl := HA.out a' hA
      have hfin := rd_fin (l := 99 :: r) (v := comV a') (ev := comE a') (by rw [HMK.out, hA]) (by simp)
      clear hA
      have HF := Lib.hid hfin
      clear hfin
      have o1 := n1
      have o2 := n2
      have o3 := n3
      have o4 := q2
      have hb4 := (hb3'.alloc hb3'.size (.cells #[.int .i64 0] 3))
      have hwd := com_word a'
      go_wp2_with fail
      have hb5 := hb4.alloc hb4.size (M 3 (.func (.func 38) #[] #[.pointer (some ⟨w2.heap.size, 0, none⟩), .pointer (some ⟨w3.heap.size, 0, none⟩)]) (.func (.func 39) #[] #[.pointer (some ⟨w2.heap.size, 0, none⟩)])
        (.func (.func 40) #[] #[.pointer (some ⟨w2.heap.size, 0, none⟩), .pointer (some ⟨w3.heap.size, 0, none⟩)]))
      refine (rd2_any a' _ _ (cell_below (((Below.refl w3.heap.size w3).alloc (Nat.le_refl _) _).alloc (by simp) _) hca hz3)).mono ?_
      rintro e w5 ⟨rfl, hb6⟩
      have hb6 := hbe_tr hb5 hb6
      clear hca hb5 hb4 hb3' hb3 hb2
      go_wp2_with fail
      refine (text_any _ hwd _ (hE.below hb6)).mono ?_
      rintro e w6 ⟨rfl, hb7⟩
      have hb7 := hbe_tr hb6 hb7
      clear hb6
      rcases HF.out with ⟨f1, f2, f3⟩ | ⟨f1, f4, f2, f3⟩ | ⟨f1, f4, f5, f2, f3⟩ | ⟨f1, f4, f5, f2, f3⟩
      all_goals
        have F2 := Lib.hid f2; have F3 := Lib.hid f3
        clear f2 f3
        go_wp2_with fail
        go_ret2
        exact ⟨ret_two F2.out.symm F3.out.symm, hb7⟩
set_option maxRecDepth 100000 in
set_option maxHeartbeats 8000000 in
theorem read_o (c : UInt8) (r : List UInt8) (w : World) (hE : Env w) (hs : r.length ≤ 100) (h1 : c ≠ 101) (h2 : c ≠ 99) (h3 : c ≠ 112) :
    Calls Tryd.prog 22 #[.string ⟨(c :: r).toArray⟩] w fun e w' => e = .returned (.tuple #[.int .u64 (rdV (c :: r)), .int .i64 (rdE (c :: r))]) ∧ Below w.heap.size w w' := by
  have hmm := @run_makeMap Tryd.prog
  have v1 := u1
  have v2 := u2
  have v3 := u3
  have k1 := l0 (c.toNat : Int) (fun e => h1 (UInt8.toNat_inj.1 (by simpa using Int.ofNat.inj e))) (fun e => h2 (UInt8.toNat_inj.1 (by simpa using Int.ofNat.inj e))) (fun e => h3 (UInt8.toNat_inj.1 (by simpa using Int.ofNat.inj e)))
  have g0 : ∀ h, ((({ data := (c :: r).toArray } : ByteArray)[0]'h).toNat : Int) = (c.toNat : Int) := fun _ => rfl
  have hex := ex1 c r
  have hb1 := (Below.refl w.heap.size w).alloc (Nat.le_refl _) (.map m1 3)
  obtain ⟨e1, e2⟩ := rd_none (l := c :: r) (by simp only [mkP, if_neg h1, if_neg h2, if_neg h3])
  have E1 := Lib.hid e1; have E2 := Lib.hid e2
  clear e1 e2 h1 h2 h3
  go_enter Tryd.func22, Tryd.ntmps22
  go_wp2_with fail
  refine (num_any r _ (by omega) (hE.below hb1)).mono ?_
  rintro e w2 ⟨a, rfl, ha, ia, hb2⟩
  have hb2 := hbe_tr hb1 hb2
  clear ha
  go_wp2_with fail
  refine (num_0 _ (hE.below (hb2.alloc hb2.size _))).mono ?_
  rintro e w3 ⟨b, rfl, hbv, ib, hb3⟩
  have hb3' := hbe_tr (hb2.alloc hb2.size _) hb3
  clear hbv
  go_wp2_with fail
  go_ret2
  exact ⟨ret_two E1.out.symm E2.out.symm, hb3'.alloc hb3'.size _⟩
set_option maxRecDepth 100000 in
theorem read_n (w : World) :
    Calls Tryd.prog 22 #[.string ⟨#[]⟩] w fun e w' => e = .returned (.tuple #[.int .u64 (rdV []), .int .i64 (rdE [])]) ∧ Below w.heap.size w w' := by
  have e1 : rdV [] = 0 := rfl
  have e2 : rdE [] = 110 := rfl
  rw [e1, e2]; clear e1 e2
  go_enter Tryd.func22, Tryd.ntmps22
  go_wp2_with fail
  go_ret2
  exact ⟨rfl, Below.refl _ _⟩
theorem read_any (l : List UInt8) (w : World) (hE : Env w) (hs : l.length ≤ 100) :
    Calls Tryd.prog 22 #[.string ⟨l.toArray⟩] w fun e w' => e = .returned (.tuple #[.int .u64 (rdV l), .int .i64 (rdE l)]) ∧ Below w.heap.size w w' := by
  match l with
  | [] => exact read_n w
  | c :: r =>
    have hr : r.length ≤ 100 := by simp at hs; omega
    by_cases h1 : c = 101
    · subst h1; exact read_e r w hE hr
    · by_cases h2 : c = 99
      · subst h2; exact read_c r w hE hr
      · by_cases h3 : c = 112
        · subst h3; exact read_p r w hE hr
        · exact read_o c r w hE hr h1 h2 h3
end Go.Proofs.YtdckcnikoichmaaDoor
