/- What is proved: the walk of the law ValueOrder. -/
import Derived.Test.YtcfpnnkohjochaaDoorVaS
namespace Go.Proofs.YtcfpnnkohjochaaDoor
open Go.RowKit
set_option linter.unusedVariables false
set_option linter.unusedSimpArgs false
theorem ids_app (a b : List Int) : ids (a ++ b) = ids a ++ ids b := by unfold ids; rw [List.map_append]
def ZeroM (m : Nat) (w : World) (e : Ending) (w' : World) : Prop := ∃ A c, e = .returned (.tuple #[.slice A (if m ≤ 4 then m else 0) c, .int .i64 (if m ≤ 4 then 0 else 2)]) ∧ Reads w' w'.heap.size 1 A (if m ≤ 4 then m else 0) (ids (zerosL (if m ≤ 4 then m else 0))) ∧ Below w.heap.size w w'
theorem zero_m (m : Nat) (w : World) : Calls Tryd.prog 20 #[.int .i64 m] w (ZeroM m w) := by
  refine (zero_v m w).mono ?_
  rintro e w' ⟨v, rfl, ho, hb⟩
  have hl : ∀ k, (zerosL k).length = k := fun k => by unfold zerosL; simp
  rw [hl] at ho
  by_cases h : m ≤ 4
  · rw [if_pos (by omega)] at ho ⊢
    rw [Int.toNat_natCast] at ho
    obtain ⟨A, c, rfl⟩ := own_slice ho
    exact ⟨A, c, by rw [if_pos h, if_pos h], by rw [if_pos h]; exact Reads.of_own ho, hb⟩
  · rw [if_neg (by omega)] at ho ⊢
    obtain ⟨A, c, rfl⟩ := own_slice ho
    exact ⟨A, c, by rw [if_neg h, if_neg h], by rw [if_neg h]; exact Reads.of_own ho, hb⟩
set_option maxRecDepth 100000 in
set_option maxHeartbeats 16000000 in
theorem order_core (A B C : Option Addr) (n n2 n3 cA cB cC ma mb mc : Nat) (w : World) (la lb lc : List Int)
    (hm2 : ma ≤ 8) (hm3 : mb ≤ 8) (hm4 : mc ≤ 8) (hE : Env w)
    (ca : ∀ W, Below w.heap.size w W → Calls Tryd.prog 10 #[.slice A n cA] W (OwnM la ma W))
    (cb : ∀ W, Below w.heap.size w W → Calls Tryd.prog 10 #[.slice B n2 cB] W (OwnM lb mb W))
    (cc : ∀ W, Below w.heap.size w W → Calls Tryd.prog 10 #[.slice C n3 cC] W (OwnM lc mc W))
    (p q r : Int) (bb : Bool) (hp : cmpV la lb = p) (hp' : cmpV lb la = -p) (hq : cmpV lb lc = q) (hr : cmpV la lc = r) (hbb : (la == lb) = bb) (hpb : (p == 0) = bb)
    (hpq : p = 1 ∨ (p = 0 ∧ decide (q ≤ 0) = false) ∨ (p = 0 ∧ q = 0 ∧ r = 0) ∨ (p = 0 ∧ q = -1 ∧ r = -1) ∨ (p = -1 ∧ decide (q ≤ 0) = false) ∨ (p = -1 ∧ decide (q ≤ 0) = true ∧ r = -1))
    (hlen : (ma = mb ∧ ((p != 0) = true → cmpV (la ++ [1]) (lb ++ [2, 3]) = p)) ∨ (((ma : Int) == (mb : Int)) = false ∧ p ≠ 0))
    (hz : (mc ≤ 4 ∧ ∃ z, cmpV (zerosL mc) lc = z ∧ decide (z ≤ 0) = true) ∨ 4 < mc) :
    Calls Tryd.prog 8 #[.slice A n cA, .slice B n2 cB, .slice C n3 cC] w fun e w' => e = .returned (.bool true) ∧ Below w.heap.size w w' := by
  have hB := Below.refl w.heap.size w
  have cw := fun (W : World) (h : Below w.heap.size w W) => wakes_any W (hE.below h)
  have c1 := fun (x : Option Addr) (k : Nat) (y : Option Addr) (j : Nat) (W : World) (hR : Reads W W.heap.size 1 x ma (ids la)) (hR2 : Reads W W.heap.size 1 y mb (ids lb)) => compare_v x ma k la y mb j lb W hR hR2 (by omega) (by omega)
  have c2 := fun (x : Option Addr) (k : Nat) (y : Option Addr) (j : Nat) (W : World) (hR : Reads W W.heap.size 1 x mb (ids lb)) (hR2 : Reads W W.heap.size 1 y ma (ids la)) => compare_v x mb k lb y ma j la W hR hR2 (by omega) (by omega)
  have c3 := fun (x : Option Addr) (k : Nat) (y : Option Addr) (j : Nat) (W : World) (hR : Reads W W.heap.size 1 x mb (ids lb)) (hR2 : Reads W W.heap.size 1 y mc (ids lc)) => compare_v x mb k lb y mc j lc W hR hR2 (by omega) (by omega)
  have c4 := fun (x : Option Addr) (k : Nat) (y : Option Addr) (j : Nat) (W : World) (hR : Reads W W.heap.size 1 x ma (ids la)) (hR2 : Reads W W.heap.size 1 y mc (ids lc)) => compare_v x ma k la y mc j lc W hR hR2 (by omega) (by omega)
  have ce := fun (x : Option Addr) (k : Nat) (y : Option Addr) (j : Nat) (W : World) (hR : Reads W W.heap.size 1 x ma (ids la)) (hR2 : Reads W W.heap.size 1 y mb (ids lb)) => equal_v x ma k la y mb j lb W hR hR2 (by omega) (by omega)
  have cs := fun (x : Option Addr) (k : Nat) (y : Option Addr) (j : Nat) (W : World) (hR : Reads W W.heap.size 1 x ma (ids la)) (hR2 : Reads W W.heap.size 1 y mb (ids lb)) => same_v x ma k la y mb j lb W hR hR2 (by omega) (by omega)
  rw [hp] at c1; rw [hp'] at c2; rw [hq] at c3; rw [hr] at c4; rw [hbb] at ce cs
  have c5 := fun (x : Option Addr) (k : Nat) (y : Option Addr) (j : Nat) (W : World) (hR : Reads W W.heap.size 1 x (ma + 1) (ids la ++ ids [1])) (hR2 : Reads W W.heap.size 1 y (mb + 2) (ids lb ++ ids [2, 3])) => compare_v x (ma + 1) k (la ++ [1]) y (mb + 2) j (lb ++ [2, 3]) W (by rw [ids_app]; exact hR) (by rw [ids_app]; exact hR2) (by omega) (by omega)
  have c6 := fun (x : Option Addr) (k : Nat) (y : Option Addr) (j : Nat) (W : World) (hR : Reads W W.heap.size 1 x mc (ids (zerosL mc))) (hR2 : Reads W W.heap.size 1 y mc (ids lc)) => compare_v x mc k (zerosL mc) y mc j lc W hR hR2 (by omega) (by omega)
  have cz := fun (W : World) => zero_m mc W
  clear hp hp' hq hr hbb hE
  obtain ⟨i0, hi0, hz0, hz1, hz2⟩ := info_parts info_u64
  have cz : (∀ W, Calls Tryd.prog 20 #[.int .i64 mc] W fun e w' => ∃ A c, e = .returned (.tuple #[.slice A mc c, .int .i64 0]) ∧ Reads w' w'.heap.size 1 A mc (ids (zerosL mc)) ∧ Below W.heap.size W w') ∧ (∃ z, cmpV (zerosL mc) lc = z ∧ decide (z ≤ 0) = true) ∨
      (∀ W, Calls Tryd.prog 20 #[.int .i64 mc] W fun e w' => ∃ A c, e = .returned (.tuple #[.slice A 0 c, .int .i64 2]) ∧ Reads w' w'.heap.size 1 A 0 (ids (zerosL 0)) ∧ Below W.heap.size W w') := by
    rcases hz with ⟨h, hz⟩ | h
    · refine .inl ⟨fun W => ?_, hz⟩
      have := cz W; unfold ZeroM at this; simp only [if_pos h] at this; exact this
    · refine .inr fun W => ?_
      have := cz W; unfold ZeroM at this; simp only [if_neg (show ¬ mc ≤ 4 by omega)] at this; exact this
  clear hz
  rcases hpq with rfl | ⟨rfl, tq⟩ | ⟨rfl, rfl, rfl⟩ | ⟨rfl, rfl, rfl⟩ | ⟨rfl, tq⟩ | ⟨rfl, tq, rfl⟩
  all_goals
    subst hpb
    rcases hlen with ⟨rfl, hap⟩ | ⟨tl, hne⟩
  all_goals first
    | exact absurd rfl hne
    | (rcases cz with ⟨cz, z, hz', tz⟩ | cz
       all_goals
        (try (have hap := hap rfl; rw [hap] at c5))
        (try rw [hz'] at c6)
        (try clear hap)
        (try clear hz')
        go_enter Tryd.func8, Tryd.ntmps8
        go_wp2_with (first
          | (go_at_call 9; ((with_reducible refine (cw _ hB).mono ?_); rintro e w1 ⟨rfl, hb1⟩; have hB := hB.trans (hb1.mono hB.size)))
          | (go_at_call 10; first
              | ((with_reducible refine (ca _ hB).mono ?_); rintro e w2 ⟨A2, k2, rfl, ho2, hb2⟩; have o2 := Lib.hid ho2; have hs2 := hB.size; have hB := hB.trans (hb2.mono hB.size); have h2 := Below.refl w2.heap.size w2; clear ho2 hb2)
              | ((with_reducible refine (cb _ hB).mono ?_); rintro e w3 ⟨A3, k3, rfl, ho3, hb3⟩; have D23 := Lib.hid (apart_of (own_below o2.out h2) ho3 (Nat.le_refl _)); have o3 := Lib.hid ho3; have hs3 := hB.size; have hB := hB.trans (hb3.mono hB.size); have h2 := h2.trans (hb3.mono h2.size); have h3 := Below.refl w3.heap.size w3; clear ho3 hb3)
              | ((with_reducible refine (cc _ hB).mono ?_); rintro e w4 ⟨A4, k4, rfl, ho4, hb4⟩; have D24 := Lib.hid (apart_of (own_below o2.out h2) ho4 (Nat.le_refl _)); have D34 := Lib.hid (apart_of (own_below o3.out h3) ho4 (Nat.le_refl _)); have h2 := h2.trans (hb4.mono h2.size); have h3 := h3.trans (hb4.mono h3.size); have O2 := Lib.hid (base_le (own_below o2.out h2) hs2); have O3 := Lib.hid (base_le (own_below o3.out h3) hs3); have O4 := Lib.hid (base_le ho4 hB.size); have hB := hB.trans (hb4.mono hB.size); have h4 := Below.refl w4.heap.size w4; clear ho4 hb4 o2 o3 h2 h3 hs2 hs3))
          | (go_at_call 26; (first
              | (with_reducible refine (c1 _ _ _ _ _ (Reads.of_own (own_below O2.out h4)) (Reads.of_own (own_below O3.out h4))).mono ?_)
              | (with_reducible refine (c3 _ _ _ _ _ (Reads.of_own (own_below O3.out h4)) (Reads.of_own (own_below O4.out h4))).mono ?_)
              | (with_reducible refine (c4 _ _ _ _ _ (Reads.of_own (own_below O2.out h4)) (Reads.of_own (own_below O4.out h4))).mono ?_)
              | (with_reducible refine (c2 _ _ _ _ _ (Reads.of_own (own_below O3.out h4)) (Reads.of_own (own_below O2.out h4))).mono ?_)); (rintro e w5 ⟨rfl, hb5⟩; have hB := hB.trans (hb5.mono hB.size); have h4 := h4.trans (hb5.mono h4.size); clear hb5))
          | (go_at_call 16; ((with_reducible refine (ce _ _ _ _ _ (Reads.of_own (own_below O2.out h4)) (Reads.of_own (own_below O3.out h4))).mono ?_); rintro e w6 ⟨rfl, hb6⟩; have hB := hB.trans (hb6.mono hB.size); have h4 := h4.trans (hb6.mono h4.size); clear hb6))
          | (go_at_call 17; ((with_reducible refine (cs _ _ _ _ _ (Reads.of_own (own_below O2.out h4)) (Reads.of_own (own_below O3.out h4))).mono ?_); rintro e w7 ⟨rfl, hb7⟩; have hB := hB.trans (hb7.mono hB.size); have h4 := h4.trans (hb7.mono h4.size); clear hb7))
          | (at_builtin
             refine wpList_append_gd rfl (.tmp 93) (.tmp 94) 26 rfl w.heap.size 38 i0 _ 1 8 Tryd.underlying26 hi0 hz0 hz1 hz2 rfl (by omega) _ ma (ids la) rfl
               (own_below O2.out (h4.alloc h4.size _)) _ _ 1 1 (ids [1]) rfl (lit_ids _ _ [1] rfl rfl) (ids_one _) (by simp only [maxLen]; omega) (by omega) (Nat.le_trans hB.size (by simp)) ?_
             intro v8 W8 own8 hg8 hat8
             have hB8 := below_grown_own (hB.alloc hB.size _) (own_below O2.out (h4.alloc h4.size _)) (Nat.le_refl _) hg8
             have P3 := Lib.hid ((own_below O3.out (h4.alloc h4.size _)).kept hg8 D23.out.symm)
             have P4 := Lib.hid ((own_below O4.out (h4.alloc h4.size _)).kept hg8 D24.out.symm)
             have E23 := Lib.hid (apart_grown D23.out (own_below O2.out (h4.alloc h4.size _)) ⟨_, Nat.le_trans h4.size (by simp), fun k hk => (O3.out.lt k hk).2⟩ hat8)
             have h5 := Below.refl W8.heap.size W8
             obtain ⟨A8, k8, rfl⟩ := own_slice own8
             have P2 := Lib.hid own8
             clear own8 hg8 hat8)
          | (at_builtin
             refine wpList_append_gd rfl (.tmp 96) (.tmp 97) 26 rfl w.heap.size 38 i0 _ 1 8 Tryd.underlying26 hi0 hz0 hz1 hz2 rfl (by omega) _ ma (ids lb) rfl
               (P3.out.alloc _) _ _ 2 2 (ids [2, 3]) rfl (lit_ids _ _ [2, 3] rfl rfl) (ids_one _) (by simp only [maxLen]; omega) (by omega) (Nat.le_trans hB8.size (by simp)) ?_
             intro v9 W9 own9 hg9 hat9
             have hB9 := below_grown_own (hB8.alloc hB8.size _) (P3.out.alloc _) (Nat.le_refl _) hg9
             have Q2 := Lib.hid ((P2.out.alloc _).kept hg9 E23.out)
             have Q4 := Lib.hid ((P4.out.alloc _).kept hg9 D34.out.symm)
             obtain ⟨A9, k9, rfl⟩ := own_slice own9
             have Q3 := Lib.hid own9
             have hB := hB9
             have h9 := Below.refl W9.heap.size W9
             clear own9 hg9 hat9 hB9 hB8 P2 P3 P4 O2 O3 O4)
          | (go_at_call 26; (with_reducible refine (c5 _ _ _ _ _ (Reads.of_own Q2.out) (Reads.of_own Q3.out)).mono ?_); (rintro e w10 ⟨rfl, hb10⟩; have hB := hB.trans (hb10.mono hB.size); have h9 := h9.trans (hb10.mono h9.size); clear hb10))
          | (go_at_call 20; ((with_reducible refine (cz _).mono ?_); rintro e w11 ⟨A11, k11, rfl, hr11, hb11⟩; have hB := hB.trans (hb11.mono hB.size); first | (have h9 := h9.trans (hb11.mono h9.size)) | (have h4 := h4.trans (hb11.mono h4.size))))
          | (go_at_call 26; (first | (with_reducible refine (c6 _ _ _ _ _ hr11 (Reads.of_own (own_below Q4.out h9))).mono ?_) | (with_reducible refine (c6 _ _ _ _ _ hr11 (Reads.of_own (own_below O4.out h4))).mono ?_)); (rintro e w12 ⟨rfl, hb12⟩; have hB := hB.trans (hb12.mono hB.size); clear hb12))
          | fail)
        go_ret
        first | exact ⟨rfl, hB⟩ | exact ⟨by simp [tz], hB⟩)
theorem cmpV_bds (a b : List Int) : -1 ≤ cmpV a b ∧ cmpV a b ≤ 1 := by rcases cmpV_bd a b with h | h | h <;> omega
theorem order_row (A : Option Addr) (n c : Nat) (l : List Int) (hnc : n ≤ c) (hn : c * 8 ≤ 140737488351232) (hw : ∀ x ∈ l, (Lit.int .u64 x).wf = true)
    (A2 : Option Addr) (n2 c2 : Nat) (l2 : List Int) (hnc2 : n2 ≤ c2) (hn2 : c2 * 8 ≤ 140737488351232) (hw2 : ∀ x ∈ l2, (Lit.int .u64 x).wf = true)
    (A3 : Option Addr) (n3 c3 : Nat) (l3 : List Int) (hnc3 : n3 ≤ c3) (hn3 : c3 * 8 ≤ 140737488351232) (hw3 : ∀ x ∈ l3, (Lit.int .u64 x).wf = true) (w : World) (hE : Env w)
    (hR : Reads w w.heap.size 1 A n (l.map (Value.int .u64))) (hR2 : Reads w w.heap.size 1 A2 n2 (l2.map (Value.int .u64))) (hR3 : Reads w w.heap.size 1 A3 n3 (l3.map (Value.int .u64))) :
    Calls Tryd.prog 8 #[.slice A n c, .slice A2 n2 c2, .slice A3 n3 c3] w fun e w' => e = .returned (.bool true) ∧ Below w.heap.size w w' := by
  obtain ⟨la, ha⟩ : ∃ la, l.take 8 = la := ⟨_, rfl⟩
  obtain ⟨lb, hb⟩ : ∃ lb, l2.take 8 = lb := ⟨_, rfl⟩
  obtain ⟨lc, hc⟩ : ∃ lc, l3.take 8 = lc := ⟨_, rfl⟩
  have wc : ∀ x ∈ lc, Word x := fun x hx => word_wf (hw3 x (List.mem_of_mem_take (by rw [hc]; exact hx)))
  have ma : la.length ≤ 8 := by rw [← ha, List.length_take]; omega
  have mb : lb.length ≤ 8 := by rw [← hb, List.length_take]; omega
  have mc : lc.length ≤ 8 := by rw [← hc, List.length_take]; omega
  have hn' := cmpV_neg la lb
  have ht := cmpV_trans la lb lc
  have ha' := cmpV_app la lb [1] [2, 3]
  have e0 := cmpV_eq la lb
  have hz := cmpV_zero lc wc
  refine order_core A A2 A3 n n2 n3 c c2 c3 _ _ _ w la lb lc ma mb mc hE (fun W h => own_m A n c l W ((hR.below h).more h.size) hnc (by omega) ha rfl) (fun W h => own_m A2 n2 c2 l2 W ((hR2.below h).more h.size) hnc2 (by omega) hb rfl)
    (fun W h => own_m A3 n3 c3 l3 W ((hR3.below h).more h.size) hnc3 (by omega) hc rfl) (cmpV la lb) (cmpV lb lc) (cmpV la lc) (la == lb) rfl hn' rfl rfl rfl e0 ?_ ?_ ?_
  · rcases cmpV_bd la lb with h | h | h
    · rcases Int.lt_or_le 0 (cmpV lb lc) with g | g
      · exact .inr (.inr (.inr (.inr (.inl ⟨h, decide_eq_false (by omega)⟩))))
      · obtain ⟨h1, h2⟩ := ht (by omega) g
        refine .inr (.inr (.inr (.inr (.inr ⟨h, decide_eq_true g, ?_⟩))))
        have := cmpV_bds la lc
        have : cmpV la lc ≠ 0 := fun h0 => by have := (h2.1 h0).1; omega
        omega
    · rcases cmpV_bd lb lc with g | g | g
      · obtain ⟨h1, h2⟩ := ht (by omega) (by omega)
        refine .inr (.inr (.inr (.inl ⟨h, g, ?_⟩)))
        have := cmpV_bds la lc
        have : cmpV la lc ≠ 0 := fun h0 => by have := (h2.1 h0).2; omega
        omega
      · obtain ⟨h1, h2⟩ := ht (by omega) (by omega)
        exact .inr (.inr (.inl ⟨h, g, h2.2 ⟨h, g⟩⟩))
      · exact .inr (.inl ⟨h, decide_eq_false (by omega)⟩)
    · exact .inl h
  · by_cases h : la.length = lb.length
    · exact .inl ⟨h, fun hne => ha' h (by simpa using hne)⟩
    · refine .inr ⟨by simp; omega, fun h0 => h ?_⟩
      have : la = lb := by rw [h0] at e0; simpa using e0.symm
      rw [this]
  · by_cases h : lc.length ≤ 4
    · exact .inl ⟨h, _, rfl, decide_eq_true hz⟩
    · exact .inr (by omega)
end Go.Proofs.YtcfpnnkohjochaaDoor
