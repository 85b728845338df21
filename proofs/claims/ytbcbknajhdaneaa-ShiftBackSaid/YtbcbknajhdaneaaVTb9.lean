/- What is proved: contracts of column's Set and Swap. contracts of table's own, at, Row, place and Get. the contract of table's Get. contracts of table's each. the contract of table's each at values; rows of values that lie in memory made since. contracts of table's Values and of the closures of Values, Swap, Push and Set. contracts of the closures of table's Push and Set. tables that lie in memory made since; the contract of table's Swap. the contract of table's Swap. -/
import Derived.Test.YtbcbknajhdaneaaVTaZ
import Derived.Test.YtbcbknajhdaneaaVWords
import Derived.Deep.RegionHeld3
import Derived.Below
namespace Go.Proofs.Ytbcbknajhdaneaa
open Go.RowKit
set_option linter.unusedVariables false
set_option linter.unusedSimpArgs false
set_option maxRecDepth 100000 in
set_option maxHeartbeats 4000000 in
theorem cswap_any (x : Col) (row : Int) (w : World) (hx : ColOk w w.heap.size x) :
    Calls Try.prog 86 #[x.V, .int .i64 row] w (ColR (swpP x row) (getE x row) w) := by
  obtain ⟨W0, hW0⟩ : ∃ W0, W0 = ((w.alloc (.cells #[.int .i64 x.W, .int .i64 x.R, .slice x.A x.n x.c] 68)).alloc (.cells #[.int .i64 row] 3)).alloc (.cells #[.int .i64 0, .int .i64 0, .slice none 0 0] 68) := ⟨_, rfl⟩
  have hB : Below w.heap.size w W0 := by rw [hW0]; exact (((Below.refl w.heap.size w).alloc (Nat.le_refl _) _).alloc (by simp) _).alloc (by simp; omega) _
  have hsz : W0.heap.size = w.heap.size + 3 := by rw [hW0]; simp
  have k0 : Blk W0 w.heap.size 68 #[.int .i64 x.W, .int .i64 x.R, .slice x.A x.n x.c] := by rw [hW0]; exact ((Blk.new w _ _).alloc _).alloc _
  have k1 : Blk W0 (w.heap.size + 1) 3 #[.int .i64 row] := by
    rw [hW0]
    have h := Blk.new (w.alloc (.cells #[.int .i64 x.W, .int .i64 x.R, .slice x.A x.n x.c] 68)) 3 #[.int .i64 row]
    rw [World.size_alloc] at h
    exact h.alloc _
  have k3 : Blk W0 (w.heap.size + 2) 68 #[.int .i64 0, .int .i64 0, .slice none 0 0] := by
    rw [hW0]
    have h := Blk.new ((w.alloc (.cells #[.int .i64 x.W, .int .i64 x.R, .slice x.A x.n x.c] 68)).alloc (.cells #[.int .i64 row] 3)) 68 #[.int .i64 0, .int .i64 0, .slice none 0 0]
    rw [World.size_alloc, World.size_alloc] at h
    exact h
  have c10 : W0.cell? ⟨w.heap.size + 1, 0, none⟩ = some (.int .i64 row) := k1.cell 0
  obtain ⟨⟨x0, x1, x2⟩, _⟩ := blk_cells3 k0
  have cd := does_swap x row (w.heap.size + 1) W0 ((hx.keep hB).more hB.size) c10 (by omega)
  unfold Col.V colV at cd
  have HW := Lib.hid hW0
  have HS := Lib.hid hsz
  have HK3 := Lib.hid k3
  unfold Col.V colV
  generalize swpP x row = p at *
  generalize getE x row = er at *
  obtain ⟨xW, xR, xA, xn, xc, xl⟩ := x
  simp only at *
  clear hW0 hsz hx k0 k1 k3
  go_enter Try.func86, Try.ntmps86
  go_upto_region 1 with fail
  rw [← HW.out]
  go_wp2_with (first
    | (go_at_call 119; ((with_reducible refine cd.mono ?_); rintro e w5 ⟨x', rfl, hp, hf, hb5⟩; obtain ⟨xW', xR', xA', xn', xc', xl'⟩ := x'; have hk := HK3.out.below hb5 (by have := HS.out; omega); obtain ⟨⟨q0, q1, q2⟩, qf⟩ := blk_cells3 hk; have qf0 := qf 0; have qf1 := qf 1; have qf2 := qf 2; have HF := Lib.hid hf; have HP := Lib.hid hp; have HK := Lib.hid hk; unfold Col.V colV; (try simp only); clear hf hp hk qf))
    | fail)
  refine bodyPost_ret (v := .tuple #[.agg #[.int .i64 xW', .int .i64 xR', .slice xA' xn' xc'], .int .i64 er]) (by simp [results, Try.results86, go_sem, *]) rfl ?_
  exact ⟨⟨xW', xR', xA', xn', xc', xl'⟩, rfl, HP.out, fresh_set3 (colFresh_base HF.out hB.size) HK.out (by decide) _ _ _, below_set3 (hB.trans (hb5.mono hB.size)) (by omega)⟩
end Go.Proofs.Ytbcbknajhdaneaa
namespace Go.Proofs.Ytbcbknajhdaneaa
open Go.RowKit
set_option linter.unusedVariables false
set_option linter.unusedSimpArgs false
theorem made_own (w : World) (z : Value) (e : TypeId) (n c : Nat) (hnc : n ≤ c) (hc : c ≤ maxLen) : (w.alloc (.cells (madeCells #[z] c) e)).ownsRow w.heap.size e 1 (.slice (some ⟨w.heap.size, 0, none⟩) n c) n ((madeCells #[z] c).toList.take n) := by
  refine ⟨by rw [List.length_take, Array.length_toList, size_madeCells]; omega, .inr ⟨w.heap.size, c, madeCells #[z] c, rfl, Nat.le_refl _, last_blk _ _, hnc, hc, by rw [size_madeCells]; omega, by rw [Nat.mul_one]⟩⟩
theorem splice_all {α : Type} (L cs : List α) (h : cs.length = L.length) : splice L 0 cs = cs := by
  unfold splice
  rw [List.take_zero, List.nil_append, List.drop_eq_nil_of_le (by omega), List.append_nil]
theorem wpList_copy_ownrow {P : Program} {ops : Array Oper} {rest : List Oper} {o : Oper} {a : Act} {w : World} {Q : Exit → Act → World → Prop} (hgd : o.guard = none) (d s : Operand) (dT sT : TypeId)
    (ho : o.op = .call { callee := .builtin .copy, args := #[d, s], argTypes := #[dT, sT] }) (elem : TypeId) (hu : P.underlying dT = some (.slice elem)) (hsz : (P.info? elem).map (·.size) = some 1)
    (dp sp : Option Addr) (dLen dCap sLen sCap : Nat) (hd : a.eval d = .slice dp dLen dCap) (hs : a.eval s = .slice sp sLen sCap)
    (lim : Nat) (e : TypeId) (A : Option Addr) (n c : Nat) (xs : List Value) (off : Nat) (cs : List Value) (hown : w.ownsRow lim e 1 (.slice A n c) n xs) (hn : cs.length = Nat.min sLen dLen)
    (hpos : 0 < cs.length → dp = A.map (·.add off) ∧ ∃ ad, sp = some ad ∧ ∀ j v, cs[j]? = some v → w.cell? (ad.add j) = some v) (hfit : off + cs.length ≤ n) (h1 : ∀ v ∈ cs, v.oneCell' = true)
    (h : ∀ w', w'.ownsRow lim e 1 (.slice A n c) n (splice xs off cs) → Below lim w w' → wpList P ops Q rest (a.put o.dst (goInt cs.length)) w') : wpList P ops Q (o :: rest) a w :=
  wpList_plain hgd fun _ hK => wp_copy_ownrow d s dT sT ho elem hu hsz dp sp dLen dCap sLen sCap hd hs lim e A n c xs off cs hown hn hpos hfit h1 fun w' h2 h3 => hK _ _ (h w' h2 h3)
theorem info_dd : (Try.prog.info? 27).map (fun i => i.size) = some 1 := by
  obtain ⟨i0, hi0, hz0, hz1, hz2⟩ := info_parts info_id
  rw [hi0]; simp [hz1]
set_option maxRecDepth 100000 in
set_option maxHeartbeats 2000000 in
theorem town_any (A : Option Addr) (n c m : Nat) (l : List Int) (w : World) (hR : Reads w w.heap.size 1 A n (ids l)) (hn : n ≤ 65536) (hm : m ≤ 65536) :
    Calls Try.prog 70 #[.slice A n c, .int .i64 (m : Int)] w (OwnD l w) := by
  have hl : l.length = n := by have := hR.1; rw [ids_len] at this; omega
  obtain ⟨i0, hi0, hz0, hz1, hz2⟩ := info_parts info_id
  have hmk := fun W => run_make (P := Try.prog) W 22 27 i0 (.int .u64 0) Try.underlying22 hi0 hz0 .i64 .i64 (n : Int) ((n : Int) + (m : Int)) (by omega) (by omega) (by rw [hz2]; omega) (by omega)
  have e1 : ((n : Int) + (m : Int)).toNat = n + m := by omega
  simp only [e1, Int.toNat_natCast, hz1, Nat.mul_one] at hmk
  have hcells : (Value.int .u64 0).cells = #[.int .u64 0] := rfl
  rw [hcells] at hmk
  have ho := made_own w (.int .u64 0) 27 n (n + m) (by omega) (by unfold maxLen; omega)
  have hRA := hR.alloc (Nat.le_refl _) (.cells (madeCells #[.int .u64 0] (n + m)) 27)
  have hb := (Below.refl w.heap.size w).alloc (Nat.le_refl _) (.cells (madeCells #[.int .u64 0] (n + m)) 27)
  have HO := Lib.hid ho
  have HR := Lib.hid hRA
  have HL := Lib.hid hl
  have HB := Lib.hid hb
  clear ho hRA hl hR hb e1
  go_enter Try.func70, Try.ntmps70
  go_wp2_with (first
    | (refine wpList_copy_ownrow rfl (.tmp 13) (.tmp 14) _ _ rfl 27 Try.underlying22 info_dd (some ⟨w.heap.size, 0, none⟩) A n (n + m) n c rfl rfl w.heap.size 27 (some ⟨w.heap.size, 0, none⟩) n (n + m) _ 0 (ids l) HO.out ?_ ?_ ?_ (ids_one l) ?_
       · rw [ids_len, HL.out]; simp
       · intro h0
         rw [ids_len, HL.out] at h0
         obtain ⟨ad, e, _, hc⟩ := HR.out.2 h0
         exact ⟨by simp [add_none], ad, e, hc⟩
       · rw [ids_len, HL.out]; omega
       intro w5 ho5 hb5)
    | fail)
  go_ret
  rw [splice_all _ _ (by rw [ids_len, HL.out, List.length_take, Array.length_toList, size_madeCells]; omega)] at ho5
  exact ⟨_, rfl, by rw [HL.out]; exact ho5, HB.out.trans hb5⟩
theorem town0 (A : Option Addr) (n c : Nat) (l : List Int) (w : World) (hR : Reads w w.heap.size 1 A n (ids l)) (hn : n ≤ 65536) : Calls Try.prog 70 #[.slice A n c, .int .i64 0] w (OwnD l w) :=
  town_any A n c 0 l w hR hn (by omega)
theorem town1 (A : Option Addr) (n c : Nat) (l : List Int) (w : World) (hR : Reads w w.heap.size 1 A n (ids l)) (hn : n ≤ 65536) : Calls Try.prog 70 #[.slice A n c, .int .i64 1] w (OwnD l w) :=
  town_any A n c 1 l w hR hn (by omega)
/-- 190 unless the table may be, 2 unless it has the row -/
def atE (t : Tab) (row : Int) : Int := if tabB t then (if 0 ≤ row ∧ row < (t.es.length : Int) then 0 else 2) else 190
set_option maxRecDepth 100000 in
set_option maxHeartbeats 2000000 in
theorem tat_any (t : Tab) (row : Int) (w : World) (h : TabOk w w.heap.size t) (hs : TabSm t) : Calls Try.prog 79 #[t.V, .int .i64 row] w fun e w' => e = .returned (.int .i64 (atE t row)) ∧ Below w.heap.size w w' := by
  have hB := (Below.refl w.heap.size w).alloc (Nat.le_refl _) (.cells #[.slice t.TA t.Tn t.Tc, .slice t.CA t.Cn t.Cc, .slice t.EA t.En t.Ec] 25)
  have hk := Blk.new w 25 #[.slice t.TA t.Tn t.Tc, .slice t.CA t.Cn t.Cc, .slice t.EA t.En t.Ec]
  have ct := tabchk_any t _ ((h.keep hB).more hB.size) hs
  have hl := h.len.2.2
  have hate : atE t row = if tabB t then (if 0 ≤ row ∧ row < (t.En : Int) then 0 else 2) else 190 := by unfold atE; rw [hl]
  rw [hate]
  have HK := Lib.hid hk
  unfold tabE at ct
  unfold Tab.V at ct ⊢
  obtain ⟨⟨c0, c1, c2⟩, _⟩ := blk_cells3 hk
  generalize tabB t = tb at *
  obtain ⟨TA, Tn, Tc, ty, CA, Cn, Cc, F, EA, En, Ec, es⟩ := t
  simp only at *
  clear h hs hk hl hate
  cases tb
  · go_enter Try.func79, Try.ntmps79
    go_wp2_with (first
      | (go_at_call 34; ((with_reducible refine ct.mono ?_); rintro e w2 ⟨rfl, hb2⟩))
      | fail)
    go_ret
    exact ⟨rfl, hB.trans (hb2.mono hB.size)⟩
  · have hen := fun (w2 : World) (h : Below (w.alloc (.cells #[.slice TA Tn Tc, .slice CA Cn Cc, .slice EA En Ec] 25)).heap.size (w.alloc (.cells #[.slice TA Tn Tc, .slice CA Cn Cc, .slice EA En Ec] 25)) w2) => (show w2.cell? ⟨w.heap.size, 2, none⟩ = some (.slice EA En Ec) from (blk_below HK.out h).cell 2)
    by_cases h0 : row < 0
    · have HI := Lib.hid (show (if 0 ≤ row ∧ row < (En : Int) then (0 : Int) else 2) = 2 from if_neg (by omega))
      go_enter Try.func79, Try.ntmps79
      go_wp2_with (first
        | (go_at_call 34; ((with_reducible refine ct.mono ?_); rintro e w2 ⟨rfl, hb2⟩))
        | fail)
      go_ret
      exact ⟨rfl, hB.trans (hb2.mono hB.size)⟩
    · by_cases h1 : row < (En : Int)
      · have hd : decide ((En : Int) ≤ row) = false := decide_eq_false (by omega)
        have HI := Lib.hid (show (if 0 ≤ row ∧ row < (En : Int) then (0 : Int) else 2) = 0 from if_pos (by omega))
        go_enter Try.func79, Try.ntmps79
        go_wp2_with (first
          | (go_at_call 34; ((with_reducible refine ct.mono ?_); rintro e w2 ⟨rfl, hb2⟩; have z2 := hen _ hb2))
          | fail)
        go_ret
        exact ⟨rfl, hB.trans (hb2.mono hB.size)⟩
      · have hd : decide ((En : Int) ≤ row) = true := decide_eq_true (by omega)
        have HI := Lib.hid (show (if 0 ≤ row ∧ row < (En : Int) then (0 : Int) else 2) = 2 from if_neg (by omega))
        go_enter Try.func79, Try.ntmps79
        go_wp2_with (first
          | (go_at_call 34; ((with_reducible refine ct.mono ?_); rintro e w2 ⟨rfl, hb2⟩; have z2 := hen _ hb2))
          | fail)
        go_ret
        exact ⟨rfl, hB.trans (hb2.mono hB.size)⟩
def rowK (t : Tab) (e : Int) : Bool := decide (0 ≤ ixD t.es e) && tabB t
def rowI (t : Tab) (e : Int) : Int := if rowK t e then ixD t.es e else 0
theorem ixGo_bd (v : Int) : ∀ (l : List Int) (k : Nat), ixGo v l k = -1 ∨ ((k : Int) ≤ ixGo v l k ∧ ixGo v l k < (k : Int) + (l.length : Int))
  | [], _ => .inl rfl
  | x :: l, k => by
    unfold ixGo
    split
    · exact .inr ⟨by omega, by simp only [List.length_cons]; omega⟩
    · rcases ixGo_bd v l (k + 1) with h | h
      · exact .inl h
      · exact .inr ⟨by omega, by simp only [List.length_cons]; omega⟩
theorem ixD_bd (l : List Int) (v : Int) : ixD l v = -1 ∨ (0 ≤ ixD l v ∧ ixD l v < (l.length : Int)) := by
  show ixGo v l 0 = -1 ∨ (0 ≤ ixGo v l 0 ∧ ixGo v l 0 < (l.length : Int))
  rcases ixGo_bd v l 0 with h | h
  · exact .inl h
  · exact .inr ⟨by simpa using h.1, by simpa using h.2⟩
set_option maxRecDepth 100000 in
set_option maxHeartbeats 2000000 in
theorem trow_any (t : Tab) (e : Int) (w : World) (h : TabOk w w.heap.size t) (hs : TabSm t) : Calls Try.prog 26 #[t.V, .int .u64 e] w fun en w' => en = .returned (.tuple #[.int .i64 (rowI t e), .bool (rowK t e)]) ∧ Below w.heap.size w w' := by
  have hB := (Below.refl w.heap.size w).alloc (Nat.le_refl _) (.cells #[.slice t.TA t.Tn t.Tc, .slice t.CA t.Cn t.Cc, .slice t.EA t.En t.Ec] 25)
  have hk := Blk.new w 25 #[.slice t.TA t.Tn t.Tc, .slice t.CA t.Cn t.Cc, .slice t.EA t.En t.Ec]
  have hT := (h.keep hB).more hB.size
  have ct := tabchk_any t _ hT hs
  have ci := index_d t.EA t.En t.Ec t.es e _ hT.es hs.2.2.1
  have hib := ixD_bd t.es e
  have hln := h.len.2.2
  have hse := hs.2.2.1
  unfold rowI rowK
  unfold tabE at ct
  unfold Tab.V at ct ⊢
  obtain ⟨⟨c0, c1, c2⟩, _⟩ := blk_cells3 hk
  generalize tabB t = tb at *
  generalize ixD t.es e = ix at *
  obtain ⟨TA, Tn, Tc, ty, CA, Cn, Cc, F, EA, En, Ec, es⟩ := t
  simp only at *
  have hbd : ix = -1 ∨ (0 ≤ ix ∧ ix ≤ 281474976710656) := by omega
  clear h hs hk hib hln hse hT
  by_cases h0 : 0 ≤ ix
  · rw [decide_eq_true h0, Bool.true_and]
    have hn : ¬ ix < 0 := by omega
    cases tb
    all_goals
      go_enter Try.func26, Try.ntmps26
      go_wp2_with (first
        | (go_at_call 27; ((with_reducible refine ci.mono ?_); rintro en w2 ⟨rfl, rfl⟩))
        | (go_at_call 34; ((with_reducible refine ct.mono ?_); rintro en w2 ⟨rfl, hb2⟩))
        | fail)
      go_ret2
      exact ⟨rfl, hB.trans (hb2.mono hB.size)⟩
  · rw [decide_eq_false h0, Bool.false_and]
    have hn : ix < 0 := by omega
    clear ct
    go_enter Try.func26, Try.ntmps26
    go_wp2_with (first
      | (go_at_call 27; ((with_reducible refine ci.mono ?_); rintro en w2 ⟨rfl, rfl⟩))
      | fail)
    go_ret2
    exact ⟨rfl, hB⟩
def plE (t : Tab) (row id : Int) : Int := if atE t row = 0 then (if ibIn t.ty id then 0 else 4) else atE t row
def plK (t : Tab) (row id : Int) : Int := if plE t row id = 0 then (ibAt t.ty id : Int) else 0
theorem atE_ways (t : Tab) (row : Int) : atE t row = 0 ∨ atE t row = 2 ∨ atE t row = 190 := by
  unfold atE
  split
  · split
    · exact .inl rfl
    · exact .inr (.inl rfl)
  · exact .inr (.inr rfl)
set_option maxRecDepth 100000 in
set_option maxHeartbeats 2000000 in
theorem tplace_any (t : Tab) (row id : Int) (w : World) (h : TabOk w w.heap.size t) (hs : TabSm t) : Calls Try.prog 84 #[t.V, .int .i64 row, .int .u64 id] w fun en w' => en = .returned (.tuple #[.int .i64 (plK t row id), .int .i64 (plE t row id)]) ∧ Below w.heap.size w w' := by
  have hB := (Below.refl w.heap.size w).alloc (Nat.le_refl _) (.cells #[.slice t.TA t.Tn t.Tc, .slice t.CA t.Cn t.Cc, .slice t.EA t.En t.Ec] 25)
  have hk := Blk.new w 25 #[.slice t.TA t.Tn t.Tc, .slice t.CA t.Cn t.Cc, .slice t.EA t.En t.Ec]
  have hT := (h.keep hB).more hB.size
  have ca := tat_any t row _ hT hs
  have cb := fun (w2 : World) (hb : Below (w.alloc (.cells #[.slice t.TA t.Tn t.Tc, .slice t.CA t.Cn t.Cc, .slice t.EA t.En t.Ec] 25)).heap.size (w.alloc (.cells #[.slice t.TA t.Tn t.Tc, .slice t.CA t.Cn t.Cc, .slice t.EA t.En t.Ec] 25)) w2) => ib_any t.TA t.Tn t.Tc t.ty id w2 ((hT.ty.below hb).more hb.size) hs.1
  have hways := atE_ways t row
  unfold plK plE
  unfold Tab.V at ca ⊢
  obtain ⟨⟨c0, c1, c2⟩, _⟩ := blk_cells3 hk
  have HK := Lib.hid hk
  generalize atE t row = ae at *
  generalize ibIn t.ty id = ii at *
  generalize ibAt t.ty id = ia at *
  obtain ⟨TA, Tn, Tc, ty, CA, Cn, Cc, F, EA, En, Ec, es⟩ := t
  simp only at *
  have hen := fun (w2 : World) (h : Below (w.alloc (.cells #[.slice TA Tn Tc, .slice CA Cn Cc, .slice EA En Ec] 25)).heap.size (w.alloc (.cells #[.slice TA Tn Tc, .slice CA Cn Cc, .slice EA En Ec] 25)) w2) => (show w2.cell? ⟨w.heap.size, 0, none⟩ = some (.slice TA Tn Tc) from (blk_below HK.out h).cell 0)
  clear h hs hk hT
  rcases hways with rfl | rfl | rfl
  · cases ii
    all_goals
      go_enter Try.func84, Try.ntmps84
      go_wp2_with (first
        | (go_at_call 79; ((with_reducible refine ca.mono ?_); rintro en w2 ⟨rfl, hb2⟩; have z0 := hen _ hb2))
        | (go_at_call 118; ((with_reducible refine (cb _ hb2).mono ?_); rintro en w3 ⟨rfl, rfl⟩))
        | fail)
      go_ret2
      exact ⟨rfl, hB.trans (hb2.mono hB.size)⟩
  all_goals
    go_enter Try.func84, Try.ntmps84
    go_wp2_with (first
      | (go_at_call 79; ((with_reducible refine ca.mono ?_); rintro en w2 ⟨rfl, hb2⟩))
      | fail)
    go_ret2
    exact ⟨rfl, hB.trans (hb2.mono hB.size)⟩
end Go.Proofs.Ytbcbknajhdaneaa
namespace Go.Proofs.Ytbcbknajhdaneaa
open Go.RowKit
set_option linter.unusedVariables false
set_option linter.unusedSimpArgs false
def colAt (t : Tab) (k : Nat) : Col := match t.F[k]? with | some x => x | none => default
def tgE (t : Tab) (row id : Int) : Int := if plE t row id = 0 then getE (colAt t (ibAt t.ty id)) row else plE t row id
def tgL (t : Tab) (row id : Int) : List Int := if plE t row id = 0 then getL (colAt t (ibAt t.ty id)) row else []
/-- a value, and how it went -/
def ValR (l : List Int) (er : Int) (w : World) (e : Ending) (w' : World) : Prop :=
  ∃ v, e = .returned (.tuple #[v, .int .i64 er]) ∧ w'.ownsRow w.heap.size 26 1 v l.length (ids l) ∧ Below w.heap.size w w'
theorem ibIn_lt {l : List Int} {v : Int} (h : ibIn l v = true) : ibAt l v < l.length := by
  unfold ibIn at h
  rw [Bool.and_eq_true] at h
  exact of_decide_eq_true h.1
theorem tabB_parts {t : Tab} (h : tabB t = true) : tyR t.ty = true ∧ t.F.length = t.ty.length ∧ t.es.length ≤ 1048578 ∧ (∀ x ∈ t.F, colB x.W x.R x.n = true ∧ x.R = (t.es.length : Int)) ∧ entOk t.es t.es.length = true := by
  rw [tabB_eq] at h
  simp only [Bool.and_eq_true, decide_eq_true_eq, List.all_eq_true] at h
  obtain ⟨h1, h2, h3, h4, h5⟩ := h
  refine ⟨h1, h2, h3, fun x hx => ?_, h5⟩
  have h6 := h4 x hx
  unfold colT at h6
  rw [Bool.and_eq_true, beq_iff_eq] at h6
  exact h6
theorem atE_zero {t : Tab} {row : Int} (h : atE t row = 0) : tabB t = true ∧ 0 ≤ row ∧ row < (t.es.length : Int) := by
  unfold atE at h
  split at h
  · rename_i hb
    split at h
    · rename_i hr; exact ⟨hb, hr⟩
    · cases h
  · cases h
theorem plE_zero {t : Tab} {row id : Int} (h : plE t row id = 0) : atE t row = 0 ∧ ibIn t.ty id = true := by
  unfold plE at h
  split at h
  · rename_i h1
    split at h
    · rename_i h2; exact ⟨h1, h2⟩
    · cases h
  · rename_i h1; exact absurd h h1
theorem plE_ways (t : Tab) (row id : Int) : plE t row id = 0 ∨ plE t row id = 2 ∨ plE t row id = 190 ∨ plE t row id = 4 := by
  unfold plE
  rcases atE_ways t row with h | h | h
  · rw [h, if_pos rfl]
    split
    · exact .inl rfl
    · exact .inr (.inr (.inr rfl))
  · rw [h]; exact .inr (.inl rfl)
  · rw [h]; exact .inr (.inr (.inl rfl))
set_option maxRecDepth 100000 in
set_option maxHeartbeats 2000000 in
theorem tget_any (t : Tab) (row id : Int) (w : World) (h : TabOk w w.heap.size t) (hs : TabSm t) : Calls Try.prog 31 #[t.V, .int .i64 row, .int .u64 id] w (ValR (tgL t row id) (tgE t row id) w) := by
  have hB := (Below.refl w.heap.size w).alloc (Nat.le_refl _) (.cells #[.slice t.TA t.Tn t.Tc, .slice t.CA t.Cn t.Cc, .slice t.EA t.En t.Ec] 25)
  have hk := Blk.new w 25 #[.slice t.TA t.Tn t.Tc, .slice t.CA t.Cn t.Cc, .slice t.EA t.En t.Ec]
  have hT := (h.keep hB).more hB.size
  have ca := tplace_any t row id _ hT hs
  obtain ⟨⟨c0, c1, c2⟩, _⟩ := blk_cells3 hk
  have HK := Lib.hid hk
  have hways := plE_ways t row id
  unfold tgL tgE
  by_cases h0 : plE t row id = 0
  · obtain ⟨ha, hi⟩ := plE_zero h0
    obtain ⟨hb, hr0, hr1⟩ := atE_zero ha
    obtain ⟨_, hFl, _, _, _⟩ := tabB_parts hb
    have hlt := ibIn_lt hi
    rw [← hFl] at hlt
    have e1 := List.getElem?_eq_getElem (l := t.F) (i := ibAt t.ty id) hlt
    generalize t.F[ibAt t.ty id]'hlt = x at e1
    have hcx : colAt t (ibAt t.ty id) = x := by unfold colAt; rw [e1]
    have hpk : plK t row id = (ibAt t.ty id : Int) := by unfold plK; rw [if_pos h0]
    rw [if_pos h0, if_pos h0, hcx]
    rw [h0, hpk] at ca
    have hCn := h.len.2.1
    obtain ⟨b, off, hCA, hbl, g⟩ := cols_cells hT.cs e1
    have hxo := hT.csok x (List.mem_of_getElem? e1)
    have cg := fun (w2 : World) (hb : Below (w.alloc (.cells #[.slice t.TA t.Tn t.Tc, .slice t.CA t.Cn t.Cc, .slice t.EA t.En t.Ec] 25)).heap.size (w.alloc (.cells #[.slice t.TA t.Tn t.Tc, .slice t.CA t.Cn t.Cc, .slice t.EA t.En t.Ec] 25)) w2) => cget_any x row w2 ((hxo.keep hb).more hb.size)
    have gg := fun (w2 : World) (hb : Below (w.alloc (.cells #[.slice t.TA t.Tn t.Tc, .slice t.CA t.Cn t.Cc, .slice t.EA t.En t.Ec] 25)).heap.size (w.alloc (.cells #[.slice t.TA t.Tn t.Tc, .slice t.CA t.Cn t.Cc, .slice t.EA t.En t.Ec] 25)) w2) => g.below hb hbl
    unfold Tab.V at ca ⊢
    unfold Col.V colV GetP at cg
    have hen := fun (w2 : World) (h : Below (w.alloc (.cells #[.slice t.TA t.Tn t.Tc, .slice t.CA t.Cn t.Cc, .slice t.EA t.En t.Ec] 25)).heap.size (w.alloc (.cells #[.slice t.TA t.Tn t.Tc, .slice t.CA t.Cn t.Cc, .slice t.EA t.En t.Ec] 25)) w2) => (show w2.cell? ⟨w.heap.size, 1, none⟩ = some (.slice t.CA t.Cn t.Cc) from (blk_below HK.out h).cell 1)
    have i1 : ((ibAt t.ty id : Nat) : Int) < ((t.Cn : Nat) : Int) := by omega
    unfold Cells3 at gg
    generalize getL x row = gl at *
    generalize getE x row = ge at *
    generalize ibAt t.ty id = ia at *
    obtain ⟨TA, Tn, Tc, ty, CA, Cn, Cc, F, EA, En, Ec, es⟩ := t
    obtain ⟨xW, xR, xA, xn, xc, xl⟩ := x
    simp only at *
    subst hCA
    clear h hs hk hT h0 ha hi hb hr0 hr1 hFl hlt e1 hcx hpk hCn g hxo hways
    go_enter Try.func31, Try.ntmps31
    go_wp2_with (first
      | (go_at_call 84; ((with_reducible refine ca.mono ?_); rintro en w2 ⟨rfl, hb2⟩; have z1 := hen _ hb2; obtain ⟨g0, g1, g2⟩ := gg _ hb2))
      | (go_at_call 82; ((with_reducible refine (cg _ hb2).mono ?_); rintro en w3 ⟨v, rfl, ho3, hb3⟩))
      | fail)
    go_ret2
    exact ⟨v, rfl, base_le ho3 (Nat.le_trans hB.size hb2.size), (hB.trans (hb2.mono hB.size)).trans (hb3.mono (Nat.le_trans hB.size hb2.size))⟩
  · rw [if_neg h0, if_neg h0]
    have hpk : plK t row id = 0 := by unfold plK; rw [if_neg h0]
    rw [hpk] at ca
    unfold Tab.V at ca ⊢
    generalize plE t row id = pe at *
    obtain ⟨TA, Tn, Tc, ty, CA, Cn, Cc, F, EA, En, Ec, es⟩ := t
    simp only at *
    clear h hs hk hT hpk
    rcases hways with rfl | rfl | rfl | rfl
    · exact absurd rfl h0
    all_goals
      go_enter Try.func31, Try.ntmps31
      go_wp2_with (first
        | (go_at_call 84; ((with_reducible refine ca.mono ?_); rintro en w2 ⟨rfl, hb2⟩))
        | fail)
      go_ret2
      exact ⟨_, rfl, World.ownsRow_nil _ _ _ _, hB.trans (hb2.mono hB.size)⟩
end Go.Proofs.Ytbcbknajhdaneaa
namespace Go.Proofs.Ytbcbknajhdaneaa
open Go.RowKit
set_option linter.unusedVariables false
set_option linter.unusedSimpArgs false
section
variable {α : Type}
def eachE (fe : Nat → Col → Int) : Nat → List Col → Int
  | _, [] => 0
  | k, x :: F => if fe k x = 0 then eachE fe (k + 1) F else fe k x
def eachL (fp : Nat → Col → α) : Nat → List Col → List α
  | _, [] => []
  | k, x :: F => fp k x :: eachL fp (k + 1) F
theorem eachE_all (fe : Nat → Col → Int) : ∀ (F : List Col) (b : Nat), (∀ j y, F[j]? = some y → fe (b + j) y = 0) → eachE fe b F = 0
  | [], _, _ => rfl
  | x :: F, b, h => by
    have h0 : fe b x = 0 := h 0 x rfl
    unfold eachE
    rw [if_pos h0]
    exact eachE_all fe F (b + 1) fun j y hj => by rw [Nat.add_right_comm, Nat.add_assoc]; exact h (j + 1) y (by simpa using hj)
theorem eachE_stop (fe : Nat → Col → Int) : ∀ (F : List Col) (b k : Nat) (x : Col), (∀ j y, j < k → F[j]? = some y → fe (b + j) y = 0) → F[k]? = some x → fe (b + k) x ≠ 0 → eachE fe b F = fe (b + k) x
  | [], _, _, _, _, h, _ => by simp at h
  | y :: F, b, 0, x, _, h, h2 => by
    simp at h; subst h
    unfold eachE
    rw [if_neg (show ¬ fe b y = 0 from h2)]; rfl
  | y :: F, b, k + 1, x, h0, h, h2 => by
    have h1 : fe b y = 0 := h0 0 y (by omega) rfl
    unfold eachE
    rw [if_pos h1]
    have e : b + (k + 1) = b + 1 + k := by omega
    rw [e] at h2 ⊢
    exact eachE_stop fe F (b + 1) k x (fun j z hj hz => by rw [show b + 1 + j = b + (j + 1) from by omega]; exact h0 (j + 1) z (by omega) (by simpa using hz)) (by simpa using h) h2
theorem eachL_snoc (fp : Nat → Col → α) : ∀ (F : List Col) (b : Nat) (x : Col), eachL fp b (F ++ [x]) = eachL fp b F ++ [fp (b + F.length) x]
  | [], _, _ => rfl
  | y :: F, b, x => by
    show fp b y :: eachL fp (b + 1) (F ++ [x]) = fp b y :: (eachL fp (b + 1) F ++ _)
    rw [eachL_snoc fp F (b + 1) x, List.length_cons, Nat.add_right_comm, Nat.add_assoc]
theorem eachL_take (fp : Nat → Col → α) {F : List Col} {k : Nat} {x : Col} (h : F[k]? = some x) : eachL fp 0 (F.take (k + 1)) = eachL fp 0 (F.take k) ++ [fp k x] := by
  have hk := (List.getElem?_eq_some_iff.1 h).1
  rw [take_snoc h, eachL_snoc, Nat.zero_add, List.length_take, Nat.min_eq_left (by omega)]
theorem eachL_len (fp : Nat → Col → α) : ∀ (F : List Col) (b : Nat), (eachL fp b F).length = F.length
  | [], _ => rfl
  | x :: F, b => by show (eachL fp (b + 1) F).length + 1 = F.length + 1; rw [eachL_len fp F]
end
theorem info_col : (Try.prog.info? 68).map (fun i => (i.zero, i.size, i.bytes)) = some (some (.agg #[.int .i64 0, .int .i64 0, .slice none 0 0]), 3, 40) := by kernel_rfl
theorem info_val : (Try.prog.info? 44).map (fun i => (i.zero, i.size, i.bytes)) = some (some (.slice none 0 0), 1, 24) := by kernel_rfl
theorem colFresh_grown {w w' : World} {base b n size : Nat} {x : Col} {e : TypeId} {v : Value} {xs : List Value} (h : ColFresh w base x) (ho : w.ownsRow b e size v n xs) (hne : e ≠ 26) (hg : w.grownBy w' v.ownBlock) : ColFresh w' base x := by
  obtain ⟨⟨hR, hc⟩, hs⟩ := h
  have hkeep : 0 < x.n → ∃ g, x.A = some ⟨g, 0, none⟩ ∧ w'.heap[g]? = w.heap[g]? := fun h0 => by
    obtain ⟨g, cur, hA, h1, h2, h3⟩ := hs h0
    refine ⟨g, hA, hg.block g (Array.getElem?_eq_some_iff.1 h2).1 fun hh => ?_⟩
    rcases ho.2 with ⟨rfl, _⟩ | ⟨g2, cap, cur2, rfl, _, h5, _⟩
    · simp [Value.ownBlock] at hh
    · simp [Value.ownBlock] at hh
      subst hh
      rw [h5] at h2
      injection h2 with h2
      injection h2 with _ h6
      exact hne h6
  refine ⟨⟨⟨hR.1, fun h0 => ?_⟩, hc⟩, fun h0 => ?_⟩
  · obtain ⟨ad, e', h1, h2⟩ := hR.2 h0
    obtain ⟨g, hA, hh⟩ := hkeep h0
    refine ⟨ad, e', Nat.lt_of_lt_of_le h1 hg.size, fun j u hu => ?_⟩
    rw [e'] at hA; injection hA with hA
    rw [← h2 j u hu]
    exact World.cell?_of_block (by rw [block_of_add, hA]; exact hh)
  · obtain ⟨g, cur, hA, h1, h2, h3⟩ := hs h0
    obtain ⟨g', hA', hh⟩ := hkeep h0
    rw [hA] at hA'; injection hA' with hA'; injection hA' with hA'
    subst hA'
    exact ⟨g, cur, hA, h1, hh.trans h2, h3⟩
abbrev PC := Int × Int × List Int
/-- columns of the call's own, and how it went -/
def EachR (ps : List PC) (er : Int) (w : World) (e : Ending) (w' : World) : Prop :=
  ∃ v F', e = .returned (.tuple #[v, .int .i64 er]) ∧ w'.ownsRow w.heap.size 68 3 v F'.length (cols F') ∧ F'.map Col.p = ps ∧ (∀ x ∈ F', ColFresh w' w.heap.size x) ∧ Below w.heap.size w w'
def eachP (fp : Nat → Col → PC) (fe : Nat → Col → Int) (F : List Col) : List PC := if eachE fe 0 F = 0 then eachL fp 0 F else []
theorem cols_app (a b : List Col) : cols (a ++ b) = cols a ++ cols b := by unfold cols; rw [List.flatMap_append]
theorem lit_reads2 (w : World) (o : Obj) (t : TypeId) (cs : Array Value) {size n : Nat} (hn : cs.size = n * size) : Reads ((w.alloc o).alloc (.cells cs t)) (w.heap.size + 2) size (some ⟨w.heap.size + 1, 0, none⟩) n cs.toList := by
  have h := lit_reads (w.alloc o) t cs (size := size) (n := n) hn
  rw [World.size_alloc, World.size_alloc] at h
  exact h
set_option maxRecDepth 100000 in
set_option maxHeartbeats 8000000 in
theorem each1_any (t : Tab) (g : Nat) (bp : Nat) (fp : Nat → Col → PC) (fe : Nat → Col → Int) (w : World) (hcs : Reads w w.heap.size 3 t.CA t.Cn (cols t.F)) (hn : t.Cn ≤ 65536)
    (hg : ∀ args w, (callFunc g args).run Try.prog w = .ok (.enter g args) w)
    (hf : ∀ (k : Nat) x, t.F[k]? = some x → ∀ W, Below w.heap.size w W → Calls Try.prog g #[.int .i64 (k : Int), x.V, .pointer (some ⟨bp, 0, none⟩)] W (ColR (fp k x) (fe k x) W)) :
    Calls Try.prog 67 #[t.V, .func (.func g) #[] #[.pointer (some ⟨bp, 0, none⟩)]] w (EachR (eachP fp fe t.F) (eachE fe 0 t.F) w) := by
  obtain ⟨i0, hi0, hz0, hz1, hz2⟩ := info_parts info_col
  have hB := (Below.refl w.heap.size w).alloc (Nat.le_refl _) (.cells #[.slice t.TA t.Tn t.Tc, .slice t.CA t.Cn t.Cc, .slice t.EA t.En t.Ec] 25)
  obtain ⟨⟨c0, c1, c2⟩, _⟩ := blk_cells3 (Blk.new w 25 #[.slice t.TA t.Tn t.Tc, .slice t.CA t.Cn t.Cc, .slice t.EA t.En t.Ec])
  obtain ⟨TA, Tn, Tc, ty, CA, Cn, Cc, F, EA, En, Ec, es⟩ := t
  simp only at *
  have hFl : F.length = Cn := by have := hcs.1; rw [cols_len] at this; omega
  have L2 := Lib.hid hFl
  unfold Tab.V
  simp only
  go_enter Try.func67, Try.ntmps67
  go_wp2_with fail
  clear c0 c1 c2
  go_loopw [6, 14] (fun o i wr => ∃ k : Nat, k ≤ Cn ∧ i = .int .i64 k ∧ (∀ j y, j < k → F[j]? = some y → fe (0 + j) y = 0) ∧ Below w.heap.size w wr ∧
      ∃ F', wr.ownsRow w.heap.size 68 3 o F'.length (cols F') ∧ F'.map Col.p = eachL fp 0 (F.take k) ∧ ∀ x ∈ F', ColFresh wr w.heap.size x)
    (fun _ i _ => Cn - (intOf i).toNat)
  case atStart => exact ⟨0, Nat.zero_le _, rfl, fun j y h => absurd h (by omega), hB, [], World.ownsRow_nil _ _ _ _, rfl, by simp⟩
  case round =>
    obtain ⟨k, hk, rfl, hall, hb, F', ho, hp, hfr⟩ := hrel
    have hF'l : F'.length = k := by
      have h1 := congrArg List.length hp
      rw [List.length_map, eachL_len, List.length_take, L2.out, Nat.min_eq_left hk] at h1
      exact h1
    by_cases hlt : k < Cn
    · have e1 := List.getElem?_eq_getElem (l := F) (i := k) (by rw [L2.out]; exact hlt)
      generalize F[k]'(by rw [L2.out]; exact hlt) = x at e1
      obtain ⟨b, off, rfl, hbl, gc⟩ := cols_cells hcs e1
      obtain ⟨g0, g1, g2⟩ := gc.below hb hbl
      have cf := fun (o : Obj) => hf k x e1 (wr.alloc o) (hb.alloc hb.size o)
      have HT := Lib.hid (eachL_take fp e1)
      have HS := Lib.hid (eachE_stop fe F 0 k x hall e1)
      have HALL := Lib.hid hall
      have HE1 := Lib.hid e1
      have HO := Lib.hid ho
      have HP := Lib.hid hp
      have HFR := Lib.hid hfr
      have HF := Lib.hid hF'l
      obtain ⟨Ao, co, rfl⟩ := own_slice ho
      have HFL := Lib.hid (show F'.length ≤ 65536 by omega)
      clear hcs hf e1 gc ho hp hfr hall hF'l hFl
      unfold Col.V colV ColR at cf
      rw [Nat.zero_add] at HS
      generalize fp k x = pk at *
      generalize hfe : fe k x = ek at *
      have HFE := Lib.hid hfe
      clear hfe
      obtain ⟨xW, xR, xA, xn, xc, xl⟩ := x
      simp only at g0 g1 g2 cf
      by_cases hek : ek = 0
      · subst hek
        go_wp2_with (first
          | ((with_reducible refine (cf _).mono ?_); rintro en w2 ⟨x', rfl, hpx, hfx, hb2⟩; obtain ⟨xW', xR', xA', xn', xc', xl'⟩ := x'; unfold Col.V colV; (try simp only))
          | (at_builtin
             refine wpList_append_any _ rfl (.tmp 29) (.tmp 31) _ rfl w.heap.size 68 i0 _ 3 40 Try.underlying23 hi0 hz0 hz1 hz2 rfl (by omega) _ F'.length (cols F') rfl
               ?_ (w2.heap.size + 2) (some ⟨w2.heap.size + 1, 0, none⟩) 1 1 [.int .i64 xW', .int .i64 xR', .slice xA' xn' xc'] rfl ?_ (by simp [Value.oneCell']) (by have := HFL.out; simp only [maxLen]; omega) (by have := HFL.out; omega) ?_ ?_
             · exact ((own_below (HO.out.alloc _) hb2).alloc _).alloc _
             · exact lit_reads2 _ _ _ _ rfl
             · exact Nat.le_trans hb.size (by have := hb2.size; simp at this ⊢; omega)
             intro v1 w1 hown1 hg1 hat1)
          | fail)
        have hb3 : Below w.heap.size w w2 := (hb.alloc hb.size _).trans (hb2.mono (by have := hb.size; simp; omega))
        have hz3 := hb3.size
        have hb4 := own_grown_below (hb3.alloc hz3 (.cells #[.int .i64 xW', .int .i64 xR', .slice xA' xn' xc'] 68) |>.alloc (by simp; omega) (.cells #[.int .i64 xW', .int .i64 xR', .slice xA' xn' xc'] 68)) (((own_below (HO.out.alloc _) hb2).alloc _).alloc _) hg1
        go_roundw
        case rel =>
          refine ⟨k + 1, by omega, by go_num, fun j y hj hy => ?_, hb4, F' ++ [⟨xW', xR', xA', xn', xc', xl'⟩], ?_, ?_, fun y hy => ?_⟩
          · by_cases hjk : j = k
            · subst hjk
              rw [HE1.out] at hy; injection hy with hy
              subst hy
              rw [Nat.zero_add]; exact HFE.out
            · exact HALL.out j y (by omega) hy
          · rw [cols_app, List.length_append]; exact hown1
          · rw [List.map_append, HP.out, HT.out]
            show _ ++ [Col.p _] = _
            rw [hpx]
          · have hk1 := ((own_below (HO.out.alloc (.cells #[.int .i64 xW, .int .i64 xR, .slice xA xn xc] 68)) hb2).alloc (.cells #[.int .i64 xW', .int .i64 xR', .slice xA' xn' xc'] 68)).alloc (.cells #[.int .i64 xW', .int .i64 xR', .slice xA' xn' xc'] 68)
            have hstep : ∀ z, ColFresh w2 w.heap.size z → ColFresh w1 w.heap.size z := fun z hz =>
              colFresh_grown ((hz.below ((Below.refl _ w2).alloc (Nat.le_refl _) _)).below ((Below.refl _ _).alloc (Nat.le_refl _) _)) hk1 (by decide) hg1
            rcases List.mem_append.1 hy with hy | hy
            · exact hstep y (((HFR.out y hy).below ((Below.refl _ wr).alloc (Nat.le_refl _) _)).below hb2)
            · rw [List.mem_singleton] at hy; subst hy
              exact hstep _ (colFresh_base hfx (by have := hb.size; simp; omega))
        case measure => simp [intOf]; omega
      · have hekn : (ek != 0) = true := by simpa using hek
        go_wp2_with (first
          | ((with_reducible refine (cf _).mono ?_); rintro en w2 ⟨x', rfl, hpx, hfx, hb2⟩; obtain ⟨xW', xR', xA', xn', xc', xl'⟩ := x'; unfold Col.V colV; (try simp only))
          | fail)
        try rw [Exit.noGoto_ret]
        go_ret2
        have hes := HS.out hek
        show EachR _ _ w _ _
        have hfin : EachR (eachP fp fe F) (eachE fe 0 F) w = EachR [] ek w := by unfold eachP; rw [if_neg (by rw [hes]; exact hek), hes]
        rw [hfin]
        refine ⟨_, [], rfl, World.ownsRow_nil _ _ _ _, rfl, by simp, ?_⟩
        exact ((hb.alloc hb.size _).trans (hb2.mono (by have := hb.size; simp; omega))).alloc (by have := hb.size; have := hb2.size; simp at this; omega) _
    · have : k = Cn := by omega
      subst this
      rw [List.take_of_length_le (by rw [L2.out]; omega)] at hp
      have hE := eachE_all fe F 0 (fun j y hy => hall j y (by have := (List.getElem?_eq_some_iff.1 hy).1; rw [L2.out] at this; exact this) hy)
      have hfin : EachR (eachP fp fe F) (eachE fe 0 F) w = EachR (eachL fp 0 F) 0 w := by unfold eachP; rw [hE, if_pos rfl]
      have HFIN := Lib.hid hfin
      have HO := Lib.hid ho
      have HP := Lib.hid hp
      have HFR := Lib.hid hfr
      obtain ⟨Ao, co, rfl⟩ := own_slice ho
      clear hcs hf ho hp hfr hall hF'l hFl hE hfin
      go_wp2_with fail
      go_ret2
      show EachR _ _ w _ _
      rw [HFIN.out]
      exact ⟨_, F', rfl, HO.out, HP.out, HFR.out, hb⟩
end Go.Proofs.Ytbcbknajhdaneaa
namespace Go.Proofs.Ytbcbknajhdaneaa
open Go.RowKit
set_option linter.unusedVariables false
set_option linter.unusedSimpArgs false
def RwFresh (w : World) (base : Nat) (x : Rw) : Prop := ColFresh w base ⟨0, 0, x.A, x.n, x.c, x.l⟩
theorem RwFresh.ok {w : World} {base : Nat} {x : Rw} (h : RwFresh w base x) : RwOk w w.heap.size x := h.1
theorem RwFresh.below {w w' : World} {base : Nat} {x : Rw} (h : RwFresh w base x) (hb : Below w.heap.size w w') : RwFresh w' base x := ColFresh.below h hb
theorem rwFresh_own {w : World} {base n : Nat} {A : Option Addr} {c : Nat} {l : List Int} (h : w.ownsRow base 26 1 (.slice A n c) n (ids l)) (hw : ∀ y ∈ l, Word y) : RwFresh w base ⟨A, n, c, l⟩ := colFresh_own 0 0 h hw
theorem lit_reads1 (w : World) (t : TypeId) (cs : Array Value) {size n : Nat} (hn : cs.size = n * size) : Reads (w.alloc (.cells cs t)) (w.heap.size + 1) size (some ⟨w.heap.size, 0, none⟩) n cs.toList := by
  have h := lit_reads w t cs (size := size) (n := n) hn
  rw [World.size_alloc] at h
  exact h
end Go.Proofs.Ytbcbknajhdaneaa
namespace Go.Proofs.Ytbcbknajhdaneaa
open Go.RowKit
set_option linter.unusedVariables false
set_option linter.unusedSimpArgs false
theorem swapc_any (k : Int) (x : Col) (bp : Nat) (row : Int) (w : World) (hx : ColOk w w.heap.size x) (hc : w.cell? ⟨bp, 0, none⟩ = some (.int .i64 row)) (hbp : bp < w.heap.size) :
    Calls Try.prog 85 #[.int .i64 k, x.V, .pointer (some ⟨bp, 0, none⟩)] w (ColR (swpP x row) (getE x row) w) := by
  obtain ⟨W0, hW0⟩ : ∃ W0, W0 = (w.alloc (.cells #[.int .i64 x.W, .int .i64 x.R, .slice x.A x.n x.c] 68)).alloc (.cells #[.int .i64 0, .int .i64 0, .slice none 0 0] 68) := ⟨_, rfl⟩
  have hB : Below w.heap.size w W0 := by rw [hW0]; exact ((Below.refl w.heap.size w).alloc (Nat.le_refl _) _).alloc (by simp) _
  have hsz : W0.heap.size = w.heap.size + 2 := by rw [hW0]; simp
  have k0 : Blk W0 w.heap.size 68 #[.int .i64 x.W, .int .i64 x.R, .slice x.A x.n x.c] := by rw [hW0]; exact (Blk.new w _ _).alloc _
  have k1 : Blk W0 (w.heap.size + 1) 68 #[.int .i64 0, .int .i64 0, .slice none 0 0] := by
    rw [hW0]
    have h := Blk.new (w.alloc (.cells #[.int .i64 x.W, .int .i64 x.R, .slice x.A x.n x.c] 68)) 68 #[.int .i64 0, .int .i64 0, .slice none 0 0]
    rw [World.size_alloc] at h
    exact h
  obtain ⟨⟨x0, x1, x2⟩, _⟩ := blk_cells3 k0
  have cg := cswap_any x row W0 ((hx.keep hB).more hB.size)
  have c1 := cell_below' hB hc hbp
  have HK := Lib.hid k1
  have HS := Lib.hid hsz
  have HW := Lib.hid hW0
  unfold Col.V colV ColR at cg
  unfold Col.V colV
  generalize swpP x row = gl at *
  generalize getE x row = ge at *
  obtain ⟨xW, xR, xA, xn, xc, xl⟩ := x
  simp only at *
  clear hx hc hW0 hsz k0 k1
  go_enter Try.func85, Try.ntmps85
  go_upto_region 1 with fail
  rw [← HW.out]
  go_wp2_with (first | (go_at_call 86; ((with_reducible refine cg.mono ?_); rintro en w3 ⟨x', rfl, hp, hf, hb3⟩; obtain ⟨xW', xR', xA', xn', xc', xl'⟩ := x'; have hk := HK.out.below hb3 (by have := HS.out; omega); obtain ⟨⟨q0, q1, q2⟩, qf⟩ := blk_cells3 hk; have qf0 := qf 0; have qf1 := qf 1; have qf2 := qf 2; have HF := Lib.hid hf; have HP := Lib.hid hp; have HK2 := Lib.hid hk; unfold Col.V colV; (try simp only); clear hf hp hk qf)) | fail)
  refine bodyPost_ret (v := .tuple #[.agg #[.int .i64 xW', .int .i64 xR', .slice xA' xn' xc'], .int .i64 ge]) (by simp [results, Try.results85, go_sem, *]) rfl ?_
  exact ⟨⟨xW', xR', xA', xn', xc', xl'⟩, rfl, HP.out, fresh_set3 (colFresh_base HF.out hB.size) HK2.out (by decide) _ _ _, below_set3 (hB.trans (hb3.mono hB.size)) (by omega)⟩
end Go.Proofs.Ytbcbknajhdaneaa
namespace Go.Proofs.Ytbcbknajhdaneaa
open Go.RowKit
set_option linter.unusedVariables false
set_option linter.unusedSimpArgs false
theorem far3 {w : World} {g b i : Nat} {u : Value} (a0 a1 a2 : Value) (hh : True) (h : w.cell? ⟨b, i, none⟩ = some u) (hne : b ≠ g) :
    (((w.setCell ⟨g, 0, none⟩ a0).setCell ⟨g, 1, none⟩ a1).setCell ⟨g, 2, none⟩ a2).cell? ⟨b, i, none⟩ = some u := by
  have e : ∀ (w : World) (j : Nat) (v : Value), (w.setCell ⟨g, j, none⟩ v).cell? ⟨b, i, none⟩ = w.cell? ⟨b, i, none⟩ := fun w j v =>
    World.cell?_setCell_other w _ _ v (fun ee => hne (by injection ee with e1 _ _; exact e1.symm))
  rw [e, e, e]; exact h
set_option maxRecDepth 100000 in
set_option maxHeartbeats 4000000 in
theorem pushc_any (k : Nat) (x : Col) (v : Rw) (bl : Nat) (A : Option Addr) (n c : Nat) (G : List Rw) (w : World) (hx : ColOk w w.heap.size x) (hc : w.cell? ⟨bl, 0, none⟩ = some (.slice A n c)) (hbl : bl < w.heap.size)
    (hR : Reads w w.heap.size 1 A n (rws G)) (hk : G[k]? = some v) (hv : RwOk w w.heap.size v) (hn : n ≤ 65536) :
    Calls Try.prog 68 #[.int .i64 (k : Int), x.V, .pointer (some ⟨bl, 0, none⟩)] w (ColR (pushP x v) (pushE x v) w) := by
  obtain ⟨W0, hW0⟩ : ∃ W0, W0 = (w.alloc (.cells #[.int .i64 x.W, .int .i64 x.R, .slice x.A x.n x.c] 68)).alloc (.cells #[.int .i64 0, .int .i64 0, .slice none 0 0] 68) := ⟨_, rfl⟩
  have hB : Below w.heap.size w W0 := by rw [hW0]; exact ((Below.refl w.heap.size w).alloc (Nat.le_refl _) _).alloc (by simp) _
  have hsz : W0.heap.size = w.heap.size + 2 := by rw [hW0]; simp
  have k0 : Blk W0 w.heap.size 68 #[.int .i64 x.W, .int .i64 x.R, .slice x.A x.n x.c] := by rw [hW0]; exact (Blk.new w _ _).alloc _
  have k1 : Blk W0 (w.heap.size + 1) 68 #[.int .i64 0, .int .i64 0, .slice none 0 0] := by
    rw [hW0]
    have h := Blk.new (w.alloc (.cells #[.int .i64 x.W, .int .i64 x.R, .slice x.A x.n x.c] 68)) 68 #[.int .i64 0, .int .i64 0, .slice none 0 0]
    rw [World.size_alloc] at h
    exact h
  obtain ⟨b, off, rfl, hbb, g⟩ := rws_cell hR hk
  have hkn : k < n := by
    have h1 := hR.1
    rw [rws_len] at h1
    have := (List.getElem?_eq_some_iff.1 hk).1
    omega
  have hbA := Lib.hid (show Below W0.heap.size W0 (W0.drew.alloc (.cells #[.slice v.A v.n v.c] 44)) from ((Below.refl _ W0).drew).alloc (Nat.le_refl _) _)
  have hbw := hB.trans (hbA.out.mono hB.size)
  have cp := cpush_any x v (some ⟨W0.heap.size, 0, none⟩) 1 (W0.drew.alloc (.cells #[.slice v.A v.n v.c] 44)) ((hx.keep hbw).more hbw.size) ((hv.keep hbw).more hbw.size) (lit_reads _ _ _ rfl)
  obtain ⟨⟨s0', s1', s2'⟩, _⟩ := blk_cells3 k0
  have s3' := cell_below' hB hc hbl
  have s4' := cell_below' hB g hbb
  have h0 : w.heap.size < W0.heap.size := by omega
  have h1 := h0
  have h2 := h0
  have h3 : bl < W0.heap.size := by omega
  have h4 : b < W0.heap.size := by omega
  have HK := Lib.hid k1
  have HS := Lib.hid hsz
  have HW := Lib.hid hW0
  have i1 : (k : Int) < (n : Int) := by omega
  unfold Col.V colV ColR at cp
  unfold Col.V colV
  generalize pushP x v = pp at *
  generalize pushE x v = pe at *
  obtain ⟨xW, xR, xA, xn, xc, xl⟩ := x
  obtain ⟨vA, vn, vc, vl⟩ := v
  simp only at *
  clear hx hc hW0 hsz k0 k1 hR hk hv g hbw
  go_enter Try.func68, Try.ntmps68
  go_upto_region 1 with fail
  rw [← HW.out]
  refine wp_region_held_drew (S := fun w' => w'.cell? ⟨w.heap.size, 0, none⟩ = some (.int .i64 xW) ∧ w'.cell? ⟨w.heap.size, 1, none⟩ = some (.int .i64 xR) ∧ w'.cell? ⟨w.heap.size, 2, none⟩ = some (.slice xA xn xc) ∧ w'.cell? ⟨bl, 0, none⟩ = some (.slice (some ⟨b, off, none⟩) n c) ∧ w'.cell? ⟨b, off + k, none⟩ = some (.slice vA vn vc)) (by kernel_rfl) ⟨s0', s1', s2', s3', s4'⟩ (fun hHeld => ?_)
  refine wpAnyH_take (i := 0) (oi := _) (v := ?_) rfl (by kernel_rfl) (by kernel_rfl) (by kernel_rfl) (fun _ _ _ h => h) (Or.inl ⟨by rfl, ?_⟩) hHeld ?_
  rotate_left
  · intro w hSw; obtain ⟨s0, s1, s2, s3, s4⟩ := hSw; go_simp; try with_reducible rfl
  simp only [Act.put, List.getElem_toArray, List.getElem_cons_succ, List.getElem_cons_zero, List.setIfInBounds_toArray, List.set_cons_zero, List.set_cons_succ]
  refine wpAnyH_take (i := 1) (oi := _) (v := ?_) rfl (by kernel_rfl) (by kernel_rfl) (by kernel_rfl) (fun _ _ _ h => h) (Or.inl ⟨by rfl, ?_⟩) hHeld ?_
  rotate_left
  · intro w hSw; obtain ⟨s0, s1, s2, s3, s4⟩ := hSw; go_simp; try with_reducible rfl
  simp only [Act.put, List.getElem_toArray, List.getElem_cons_succ, List.getElem_cons_zero, List.setIfInBounds_toArray, List.set_cons_zero, List.set_cons_succ]
  refine wpAnyH_take (i := 2) (oi := _) (v := ?_) rfl (by kernel_rfl) (by kernel_rfl) (by kernel_rfl) (fun _ _ _ h => h) (Or.inl ⟨by rfl, ?_⟩) hHeld ?_
  rotate_left
  · intro w hSw; obtain ⟨s0, s1, s2, s3, s4⟩ := hSw; go_simp; try with_reducible rfl
  simp only [Act.put, List.getElem_toArray, List.getElem_cons_succ, List.getElem_cons_zero, List.setIfInBounds_toArray, List.set_cons_zero, List.set_cons_succ]
  refine wpAnyH_take (i := 3) (oi := _) (v := ?_) rfl (by kernel_rfl) (by kernel_rfl) (by kernel_rfl) (fun _ _ _ h => h) (Or.inl ⟨by rfl, ?_⟩) hHeld ?_
  rotate_left
  · intro w hSw; obtain ⟨s0, s1, s2, s3, s4⟩ := hSw; go_simp; try with_reducible rfl
  simp only [Act.put, List.getElem_toArray, List.getElem_cons_succ, List.getElem_cons_zero, List.setIfInBounds_toArray, List.set_cons_zero, List.set_cons_succ]
  refine wpAnyH_take (i := 4) (oi := _) (v := ?_) rfl (by kernel_rfl) (by kernel_rfl) (by kernel_rfl) (fun _ _ _ h => h) (Or.inl ⟨by rfl, ?_⟩) hHeld ?_
  rotate_left
  · intro w hSw; obtain ⟨s0, s1, s2, s3, s4⟩ := hSw; go_simp; try with_reducible rfl
  simp only [Act.put, List.getElem_toArray, List.getElem_cons_succ, List.getElem_cons_zero, List.setIfInBounds_toArray, List.set_cons_zero, List.set_cons_succ]
  refine wpAnyH_ready (rs := [5]) (by kernel_rfl) (by simp) (AllReadyH.cons (o := _) rfl (fun K hK => ?_) AllReadyH.nil)
  go_simp
  skip
  refine hK.out _ _ ⟨cell_below' hbA.out s0' h0, cell_below' hbA.out s1' h1, cell_below' hbA.out s2' h2, cell_below' hbA.out s3' h3, cell_below' hbA.out s4' h4⟩ (fun hHeld => ?_)
  clear hK K
  try simp only [Act.put, List.getElem_toArray, List.getElem_cons_succ, List.getElem_cons_zero, List.setIfInBounds_toArray, List.set_cons_zero, List.set_cons_succ]
  refine wpAnyH_ready (rs := [6]) (by kernel_rfl) (by simp) (AllReadyH.cons (o := _) rfl (fun K hK => ?_) AllReadyH.nil)
  go_simp
  refine cp.mono ?_
  rintro en w3 ⟨x', rfl, hp, hf, hb3⟩
  obtain ⟨xW', xR', xA', xn', xc', xl'⟩ := x'
  unfold Col.V colV
  have hb4 : Below W0.heap.size W0 w3 := hbA.out.trans (hb3.mono (by simp))
  have hk := HK.out.below hb4 (by have := HS.out; omega)
  have HF := Lib.hid hf
  have HP := Lib.hid hp
  have HK2 := Lib.hid hk
  obtain ⟨⟨q0, q1, q2⟩, qf⟩ := blk_cells3 hk
  have qf0 := qf 0
  have qf1 := qf 1
  have qf2 := qf 2
  clear hf hp hk qf
  refine hK.out _ _ ⟨cell_below' hb4 s0' h0, cell_below' hb4 s1' h1, cell_below' hb4 s2' h2, cell_below' hb4 s3' h3, cell_below' hb4 s4' h4⟩ (fun hHeld => ?_)
  clear hK K
  try simp only [Act.put, List.getElem_toArray, List.getElem_cons_succ, List.getElem_cons_zero, List.setIfInBounds_toArray, List.set_cons_zero, List.set_cons_succ]
  refine wpAnyH_take (i := 7) (oi := _) (v := ?_) rfl (by kernel_rfl) (by kernel_rfl) (by kernel_rfl) (fun _ _ _ h => h) (Or.inl ⟨by rfl, ?_⟩) hHeld ?_
  rotate_left
  · intro w hSw; obtain ⟨s0, s1, s2, s3, s4⟩ := hSw; go_simp; try with_reducible rfl
  simp only [Act.put, List.getElem_toArray, List.getElem_cons_succ, List.getElem_cons_zero, List.setIfInBounds_toArray, List.set_cons_zero, List.set_cons_succ]
  refine wpAnyH_take (i := 8) (oi := _) (v := ?_) rfl (by kernel_rfl) (by kernel_rfl) (by kernel_rfl) (fun _ _ _ h => h) (Or.inl ⟨by rfl, ?_⟩) hHeld ?_
  rotate_left
  · intro w hSw; obtain ⟨s0, s1, s2, s3, s4⟩ := hSw; go_simp; try with_reducible rfl
  simp only [Act.put, List.getElem_toArray, List.getElem_cons_succ, List.getElem_cons_zero, List.setIfInBounds_toArray, List.set_cons_zero, List.set_cons_succ]
  refine wpAnyH_ready (rs := [9]) (by kernel_rfl) (by simp) (AllReadyH.cons (o := _) rfl (fun K hK => ?_) AllReadyH.nil)
  go_simp
  skip
  refine hK.out _ _ ⟨far3 _ _ _ trivial (cell_below' hb4 s0' h0) (by omega), far3 _ _ _ trivial (cell_below' hb4 s1' h1) (by omega), far3 _ _ _ trivial (cell_below' hb4 s2' h2) (by omega), far3 _ _ _ trivial (cell_below' hb4 s3' h3) (by omega), far3 _ _ _ trivial (cell_below' hb4 s4' h4) (by omega)⟩ (fun hHeld => ?_)
  clear hK K
  try simp only [Act.put, List.getElem_toArray, List.getElem_cons_succ, List.getElem_cons_zero, List.setIfInBounds_toArray, List.set_cons_zero, List.set_cons_succ]
  refine wpAnyH_take (i := 10) (oi := _) (v := ?_) rfl (by kernel_rfl) (by kernel_rfl) (by kernel_rfl) (fun _ _ _ h => h) (Or.inl ⟨by rfl, ?_⟩) hHeld ?_
  rotate_left
  · intro w hSw; obtain ⟨s0, s1, s2, s3, s4⟩ := hSw; go_simp; try with_reducible rfl
  simp only [Act.put, List.getElem_toArray, List.getElem_cons_succ, List.getElem_cons_zero, List.setIfInBounds_toArray, List.set_cons_zero, List.set_cons_succ]
  refine wpAnyH_done (by kernel_rfl) ?_ _
  go_wp2_with fail
  refine bodyPost_ret (v := .tuple #[.agg #[.int .i64 xW', .int .i64 xR', .slice xA' xn' xc'], .int .i64 pe]) (by simp [results, Try.results68, go_sem, *]) rfl ?_
  exact ⟨⟨xW', xR', xA', xn', xc', xl'⟩, rfl, HP.out, fresh_set3 (colFresh_base HF.out (by have := hB.size; simp; omega)) HK2.out (by decide) _ _ _, below_set3 (hB.trans (hb4.mono hB.size)) (by omega)⟩
end Go.Proofs.Ytbcbknajhdaneaa
namespace Go.Proofs.Ytbcbknajhdaneaa
open Go.RowKit
set_option linter.unusedVariables false
set_option linter.unusedSimpArgs false
/-- a row of ids in memory made since -/
def IdFresh (w : World) (base : Nat) (A : Option Addr) (n c : Nat) (l : List Int) : Prop :=
  Reads w w.heap.size 1 A n (ids l) ∧ n ≤ c ∧ c ≤ maxLen ∧ (∀ y ∈ l, Word y) ∧ IntS w base 27 A n
theorem IdFresh.below {w w' : World} {base n c : Nat} {A : Option Addr} {l : List Int} (h : IdFresh w base A n c l) (hb : Below w.heap.size w w') : IdFresh w' base A n c l :=
  ⟨(h.1.below hb).more hb.size, h.2.1, h.2.2.1, h.2.2.2.1, h.2.2.2.2.below hb⟩
theorem IdFresh.base {w : World} {base b' n c : Nat} {A : Option Addr} {l : List Int} (h : IdFresh w base A n c l) (hb : b' ≤ base) : IdFresh w b' A n c l :=
  ⟨h.1, h.2.1, h.2.2.1, h.2.2.2.1, h.2.2.2.2.base hb⟩
theorem idFresh_own {w : World} {base n : Nat} {A : Option Addr} {c : Nat} {l : List Int} (h : w.ownsRow base 27 1 (.slice A n c) n (ids l)) (hw : ∀ y ∈ l, Word y) : IdFresh w base A n c l := by
  obtain ⟨A', c', hv, h1, h2⟩ := own_cap h
  injection hv with ha hn hc
  subst ha hc
  exact ⟨Reads.of_own h, h1, by unfold maxLen; exact h2, hw, ints_of_own h hw⟩
theorem idFresh_nil (w : World) (base : Nat) : IdFresh w base none 0 0 [] := ⟨Reads.none_, Nat.le_refl _, Nat.zero_le _, by simp, fun h => absurd h (Nat.lt_irrefl 0)⟩
theorem idFresh_cell {w : World} {base g i n c : Nat} {A : Option Addr} {l : List Int} {t : TypeId} {cs : Array Value} (h : IdFresh w base A n c l) (hk : Blk w g t cs) (hne : 27 ≠ t) (v : Value) : IdFresh (w.setCell ⟨g, i, none⟩ v) base A n c l := by
  obtain ⟨hR, hc1, hc2, hw, hs⟩ := h
  have hb : ∀ k, k ≠ g → (w.setCell ⟨g, i, none⟩ v).heap[k]? = w.heap[k]? := fun k hk => Below.heap_setCell _ _ _ _ (by simpa using hk)
  have hs' := ints_heap hs hk hne hb
  refine ⟨⟨hR.1, fun h0 => ?_⟩, hc1, hc2, hw, hs'⟩
  obtain ⟨ad, e, h1, h2⟩ := hR.2 h0
  obtain ⟨g', cur, e', h3, h4, h5⟩ := hs h0
  refine ⟨ad, e, by simpa using h1, fun j u hu => ?_⟩
  rw [e'] at e; injection e with e
  have hg : g' ≠ g := by
    intro hh
    subst hh
    unfold Blk at hk
    rw [hk] at h4
    injection h4 with h4
    injection h4 with _ h7
    exact hne h7.symm
  rw [← h2 j u hu]
  have hbl : (ad.add j).block = g' := by rw [block_of_add, ← e]
  exact World.cell?_setCell_other _ _ _ _ (fun ee => hg (by have h9 := congrArg Addr.block ee; rw [hbl] at h9; first | exact h9 | exact h9.symm))
structure TabFresh (w : World) (base : Nat) (t : Tab) : Prop where
  ty : IdFresh w base t.TA t.Tn t.Tc t.ty
  cs : w.ownsRow base 68 3 (.slice t.CA t.Cn t.Cc) t.Cn (cols t.F)
  csf : ∀ x ∈ t.F, ColFresh w base x
  es : IdFresh w base t.EA t.En t.Ec t.es
theorem TabFresh.ok {w : World} {base : Nat} {t : Tab} (h : TabFresh w base t) : TabOk w w.heap.size t := by
  obtain ⟨A', c', hv, h1, h2⟩ := own_cap h.cs
  injection hv with ha hn hc
  exact ⟨h.ty.1, ⟨h.ty.2.1, h.ty.2.2.1⟩, h.ty.2.2.2.1, Reads.of_own h.cs, ⟨by rw [hc]; exact h1, by rw [hc]; unfold maxLen; exact h2⟩, fun x hx => (h.csf x hx).1, h.es.1, ⟨h.es.2.1, h.es.2.2.1⟩, h.es.2.2.2.1⟩
theorem TabFresh.below {w w' : World} {base : Nat} {t : Tab} (h : TabFresh w base t) (hb : Below w.heap.size w w') : TabFresh w' base t :=
  ⟨h.ty.below hb, own_below h.cs hb, fun x hx => (h.csf x hx).below hb, h.es.below hb⟩
theorem TabFresh.base {w : World} {base b' : Nat} {t : Tab} (h : TabFresh w base t) (hb : b' ≤ base) : TabFresh w b' t :=
  ⟨h.ty.base hb, base_le h.cs hb, fun x hx => colFresh_base (h.csf x hx) hb, h.es.base hb⟩
theorem TabFresh.set3 {w : World} {base g : Nat} {t : Tab} {cs : Array Value} (h : TabFresh w base t) (hk : Blk w g 25 cs) (a b c : Value) :
    TabFresh (((w.setCell ⟨g, 0, none⟩ a).setCell ⟨g, 1, none⟩ b).setCell ⟨g, 2, none⟩ c) base t :=
  ⟨idFresh_cell (idFresh_cell (idFresh_cell h.ty hk (by decide) a) (hk.set_ 0 a) (by decide) b) ((hk.set_ 0 a).set_ 1 b) (by decide) c,
   h.cs.kept (grown_set3 _ _ _ _ _) (.inr (own_blk_ne h.cs hk (by decide))),
   fun x hx => fresh_set3 (h.csf x hx) hk (by decide) _ _ _,
   idFresh_cell (idFresh_cell (idFresh_cell h.es hk (by decide) a) (hk.set_ 0 a) (by decide) b) ((hk.set_ 0 a).set_ 1 b) (by decide) c⟩
abbrev PT := List Int × List PC × List Int
def Tab.p (t : Tab) : PT := (t.ty, t.F.map Col.p, t.es)
def noT : PT := ([], [], [])
/-- the table that came of it -/
def TabRes (p : PT) (base : Nat) (v : Value) (w' : World) : Prop := ∃ t : Tab, v = t.V ∧ t.p = p ∧ TabFresh w' base t
theorem tabRes_nil (base : Nat) (w' : World) : TabRes noT base (.agg #[.slice none 0 0, .slice none 0 0, .slice none 0 0]) w' :=
  ⟨⟨none, 0, 0, [], none, 0, 0, [], none, 0, 0, []⟩, rfl, rfl, idFresh_nil _ _, World.ownsRow_nil _ _ _ _, by simp, idFresh_nil _ _⟩
theorem each_get_zero {t : Tab} {row : Int} (h : atE t row = 0) : eachE (fun _ x => getE x row) 0 t.F = 0 := by
  obtain ⟨hb, h0, h1⟩ := atE_zero h
  obtain ⟨_, _, _, hc, _⟩ := tabB_parts hb
  refine eachE_all _ _ _ fun j y hy => ?_
  obtain ⟨hc1, hc2⟩ := hc y (List.mem_of_getElem? hy)
  unfold getE
  rw [hc1, if_pos rfl, if_pos ⟨h0, by rw [hc2]; exact h1⟩]
theorem own_shrink {w : World} {base n m c : Nat} {e : TypeId} {A : Option Addr} {xs : List Value} (h : w.ownsRow base e 1 (.slice A n c) n xs) (hm : m ≤ n) : w.ownsRow base e 1 (.slice A m c) m (xs.take m) := by
  have hl : xs.length = n := by have := h.1; omega
  refine ⟨by rw [List.length_take]; omega, ?_⟩
  rcases h.2 with ⟨hv, hn⟩ | ⟨g, cap, cur, hv, h1, h2, h3, h4, h5, h6⟩
  · injection hv with ha hn2 hc
    exact .inl ⟨by rw [ha, hc]; congr 1; omega, by omega⟩
  · injection hv with ha hn2 hc
    subst ha hc
    refine .inr ⟨g, c, cur, rfl, h1, h2, by omega, h4, h5, ?_⟩
    rw [Nat.mul_one] at h6 ⊢
    rw [← h6, List.take_take, Nat.min_eq_left hm]
theorem elem_d : Try.prog.elem 22 = 27 := by kernel_rfl
theorem run_headD (A : Option Addr) (n c m : Nat) (h : m ≤ c) (w : World) : (Instr.slice 22 (.slice A n c) none (some (.int .i64 (m : Int))) none).run Try.prog w = .ok (.slice A m c) w := by
  obtain ⟨i0, hi0, hz0, hz1, hz2⟩ := info_parts info_id
  rw [run_slice_h w 22 A n c (by rw [elem_d]; exact Try.underlying22) .i64 _ (by omega) (by omega), elem_d]
  have hs : (sizeOf 27).run Try.prog w = .ok 1 w := by simp [sizeOf, typeInfo, hi0, hz1]
  rw [hs]
  simp only [Result.andThen, Int.toNat_natCast]
  unfold sliced
  have e : (if c = 0 then A else A.map (·.add (0 * 1))) = A := headA_eq A c
  rw [e, Nat.sub_zero, Nat.sub_zero]
end Go.Proofs.Ytbcbknajhdaneaa
namespace Go.Proofs.Ytbcbknajhdaneaa
open Go.RowKit
set_option linter.unusedVariables false
set_option linter.unusedSimpArgs false
def swapEs (es : List Int) (k : Nat) : List Int := (es.set k (idAt es (es.length - 1))).take (es.length - 1)
def tswP (t : Tab) (row : Int) : PT := if atE t row = 0 then (t.ty, eachL (fun _ x => swpP x row) 0 t.F, swapEs t.es row.toNat) else noT
def tswM (t : Tab) (row : Int) : Int := if atE t row = 0 then (if row.toNat + 1 < t.es.length then idAt t.es (t.es.length - 1) else 0) else 0
/-- a table, an id, and how it went -/
def SwpR (p : PT) (m er : Int) (w : World) (e : Ending) (w' : World) : Prop := ∃ v, e = .returned (.tuple #[v, .int .u64 m, .int .i64 er]) ∧ TabRes p w.heap.size v w' ∧ Below w.heap.size w w'
theorem swapEs_last (es : List Int) (k : Nat) (h : es.length = k + 1) : swapEs es k = es.take k := by
  unfold swapEs
  rw [h, Nat.add_sub_cancel, List.take_set_of_le (Nat.le_refl _)]
theorem ids_set (l : List Int) (k : Nat) (y : Int) : (ids l).set k (.int .u64 y) = ids (l.set k y) := by unfold ids; rw [List.map_set]
theorem ids_take (l : List Int) (k : Nat) : (ids l).take k = ids (l.take k) := by unfold ids; rw [List.map_take]
theorem own_cells {w : World} {base n size g c : Nat} {e : TypeId} {xs : List Value} (h : w.ownsRow base e size (.slice (some ⟨g, 0, none⟩) n c) n xs) : ∃ cur, Blk w g e cur := by
  rcases h.2 with ⟨hv, _⟩ | ⟨g', cap, cur, hv, _, h2, _⟩
  · cases hv
  · injection hv with ha _ _
    injection ha with ha
    injection ha with ha
    subst ha
    exact ⟨cur, h2⟩
theorem own_base {w : World} {base n size g c : Nat} {e : TypeId} {xs : List Value} (h : w.ownsRow base e size (.slice (some ⟨g, 0, none⟩) n c) n xs) : base ≤ g := by
  rcases h.2 with ⟨hv, _⟩ | ⟨g', cap, cur, hv, h1, _⟩
  · cases hv
  · injection hv with ha _ _
    injection ha with ha
    injection ha with ha
    subst ha
    exact h1
theorem swapEs_word {es : List Int} {k : Nat} (hw : ∀ y ∈ es, Word y) (h0 : 0 < es.length) : ∀ y ∈ swapEs es k, Word y := by
  intro y hy
  unfold swapEs at hy
  have hy := List.mem_of_mem_take hy
  rcases List.mem_or_eq_of_mem_set hy with hy | rfl
  · exact hw y hy
  · unfold idAt
    rw [List.getElem?_eq_getElem (by omega)]
    exact hw _ (List.getElem_mem _)
set_option maxRecDepth 100000 in
set_option maxHeartbeats 8000000 in
theorem tswap_any (t : Tab) (row : Int) (w : World) (h : TabOk w w.heap.size t) (hs : TabSm t) (hn : t.Cn ≤ 65536 ∧ t.Tn ≤ 65536 ∧ t.En ≤ 65536) : Calls Try.prog 33 #[t.V, .int .i64 row] w (SwpR (tswP t row) (tswM t row) (atE t row) w) := by
  obtain ⟨W0, hW0⟩ : ∃ W0, W0 = ((w.alloc (.cells #[.slice t.TA t.Tn t.Tc, .slice t.CA t.Cn t.Cc, .slice t.EA t.En t.Ec] 25)).alloc (.cells #[.int .i64 row] 3)).alloc (.cells #[.slice none 0 0, .slice none 0 0, .slice none 0 0] 25) := ⟨_, rfl⟩
  have hB : Below w.heap.size w W0 := by rw [hW0]; exact (((Below.refl w.heap.size w).alloc (Nat.le_refl _) _).alloc (by simp) _).alloc (by simp; omega) _
  have hsz : W0.heap.size = w.heap.size + 3 := by rw [hW0]; simp
  have k0 : Blk W0 w.heap.size 25 #[.slice t.TA t.Tn t.Tc, .slice t.CA t.Cn t.Cc, .slice t.EA t.En t.Ec] := by rw [hW0]; exact ((Blk.new w _ _).alloc _).alloc _
  have k1 : Blk W0 (w.heap.size + 1) 3 #[.int .i64 row] := by
    rw [hW0]
    have h := Blk.new (w.alloc (.cells #[.slice t.TA t.Tn t.Tc, .slice t.CA t.Cn t.Cc, .slice t.EA t.En t.Ec] 25)) 3 #[.int .i64 row]
    rw [World.size_alloc] at h
    exact h.alloc _
  have k2 : Blk W0 (w.heap.size + 2) 25 #[.slice none 0 0, .slice none 0 0, .slice none 0 0] := by
    rw [hW0]
    have h := Blk.new ((w.alloc (.cells #[.slice t.TA t.Tn t.Tc, .slice t.CA t.Cn t.Cc, .slice t.EA t.En t.Ec] 25)).alloc (.cells #[.int .i64 row] 3)) 25 #[.slice none 0 0, .slice none 0 0, .slice none 0 0]
    rw [World.size_alloc, World.size_alloc] at h
    exact h
  have hT := (h.keep hB).more hB.size
  have ca := tat_any t row W0 hT hs
  have c10 : W0.cell? ⟨w.heap.size + 1, 0, none⟩ = some (.int .i64 row) := k1.cell 0
  obtain ⟨⟨x0, x1, x2⟩, _⟩ := blk_cells3 k0
  have hw := atE_ways t row
  have zz := fun (w2 : World) (hb : Below W0.heap.size W0 w2) => And.intro (blk_below k0 hb) (And.intro (blk_below k1 hb) (And.intro (blk_below k2 hb) (hB.trans (hb.mono hB.size))))
  have HZ := Lib.hid zz
  have HW := Lib.hid hW0
  have HS := Lib.hid hsz
  by_cases h0 : atE t row = 0
  · have hlen := h.len
    have hz := each_get_zero h0
    obtain ⟨hb0, hr0, hr1⟩ := atE_zero h0
    have hp : tswP t row = (t.ty, eachL (fun _ x => swpP x row) 0 t.F, swapEs t.es row.toNat) := by unfold tswP; rw [if_pos h0]
    have hm : tswM t row = if row.toNat + 1 < t.es.length then idAt t.es (t.es.length - 1) else 0 := by unfold tswM; rw [if_pos h0]
    rw [hp, hm]
    rw [h0] at ca ⊢
    have ce := fun (w2 : World) (hb : Below W0.heap.size W0 w2) => each1_any t 85 (w.heap.size + 1) (fun _ x => swpP x row) (fun _ x => getE x row) w2 ((hT.cs.below hb).more hb.size) hn.1
      (enters_of Try.func85 (by kernel_rfl) rfl)
      (fun k x hx W hbW => swapc_any k x (w.heap.size + 1) row W (((hT.csok x (List.mem_of_getElem? hx)).keep (hb.trans (hbW.mono hb.size))).more (Nat.le_trans hb.size hbW.size)) (cell_below' (hb.trans (hbW.mono hb.size)) c10 (by omega)) (by have := hb.size; have := hbW.size; omega))
    have hep : eachP (fun _ x => swpP x row) (fun _ x => getE x row) t.F = eachL (fun _ x => swpP x row) 0 t.F := by unfold eachP; rw [if_pos hz]
    rw [hep, hz] at ce
    have co := fun (w2 : World) (hb : Below W0.heap.size W0 w2) => town0 t.EA t.En t.Ec t.es w2 ((hT.es.below hb).more hb.size) hn.2.2
    have cu := fun (w2 : World) (hb : Below W0.heap.size W0 w2) => clone_d t.TA t.Tn t.Tc t.ty w2 ((hT.ty.below hb).more hb.size) hn.2.1
    obtain ⟨k, rfl⟩ := Int.eq_ofNat_of_zero_le hr0
    obtain ⟨m, hm1⟩ : ∃ m, t.En = m + 1 := ⟨t.En - 1, by omega⟩
    have hkm : k ≤ m := by omega
    have hem : t.es.length = m + 1 := by omega
    rw [Int.toNat_natCast, hem, Nat.add_sub_cancel]
    have HTW := Lib.hid h.tyw
    have HEW := Lib.hid h.esw
    generalize hcl : eachL (fun _ x => swpP x (k : Int)) 0 t.F = cl at *
    unfold Tab.V at ca ce ⊢
    unfold EachR at ce
    unfold OwnD at co cu
    obtain ⟨TA, Tn, Tc, ty, CA, Cn, Cc, F, EA, En, Ec, es⟩ := t
    simp only at *
    subst hm1
    have HEM := Lib.hid hem
    have hn3 := hn.2.2
    clear hW0 hsz h hs k0 k1 k2 hT zz h0 hz hb0 hp hm hep hcl hlen hw hem hn hr0 hr1
    obtain ⟨mv, hmv⟩ : ∃ mv, mv = (if k + 1 < m + 1 then idAt es m else 0) := ⟨_, rfl⟩
    rw [← hmv]
    have HMV := Lib.hid hmv
    clear hmv
    have hym : (ids es)[m]? = some (.int .u64 (idAt es m)) := by
      unfold ids
      rw [List.getElem?_map, List.getElem?_eq_getElem (by rw [HEM.out]; omega)]
      unfold idAt
      rw [List.getElem?_eq_getElem (by rw [HEM.out]; omega)]
      rfl
    have HYM := Lib.hid hym
    clear hym
    by_cases hlt : k < m
    · go_enter Try.func33, Try.ntmps33
      go_upto_region 1 with fail
      rw [← HW.out]
      go_wp2_with (first
        | (go_at_call 79; ((with_reducible refine ca.mono ?_); rintro en w2 ⟨rfl, hb2⟩; obtain ⟨z0, z1, z2, zb⟩ := HZ.out _ hb2; obtain ⟨⟨z0, y1, y2⟩, _⟩ := blk_cells3 z0; clear z1 z2 zb))
        | (go_at_call 67; ((with_reducible refine (ce _ hb2).mono ?_); rintro en w3 ⟨v, F', rfl, ho3, hl3, hf3, hb3⟩; have hb33 := hb2.trans (hb3.mono hb2.size); obtain ⟨z0', z1, z2, zb⟩ := HZ.out _ hb33; obtain ⟨⟨z0', y1', y2'⟩, _⟩ := blk_cells3 z0'; have HO3 := Lib.hid ho3; have HL3 := Lib.hid hl3; have HF3 := Lib.hid hf3; obtain ⟨Av, cv, rfl⟩ := own_slice ho3; clear z1 z2 zb ho3 hl3 hf3))
        | (go_at_call 70; ((with_reducible refine (co _ hb33).mono ?_); rintro en w4 ⟨v2, rfl, hoE, hb4⟩; have hb44 := hb33.trans (hb4.mono hb33.size); obtain ⟨t0, t1, t2, tb⟩ := HZ.out _ hb44; have HT0 := Lib.hid t0; have HT2 := Lib.hid t2; obtain ⟨⟨t0, _, _⟩, _⟩ := blk_cells3 t0; have t10 : w4.cell? ⟨w.heap.size + 1, 0, none⟩ = some (.int .i64 (k : Int)) := t1.cell 0; rw [HEM.out] at hoE; obtain ⟨ge, cce, rfl⟩ := ownsRow_succ hoE; have tm : w4.cell? ⟨ge, m, none⟩ = some (.int .u64 (idAt es m)) := (hoE.cellAt m (by omega)).trans HYM.out; have tkf : w4.frozen? ⟨ge, k, none⟩ = false := hoE.frozenAt k; obtain ⟨vk, tk⟩ : ∃ vk, w4.cell? ⟨ge, k, none⟩ = some vk := ⟨_, (hoE.cellAt k (by omega)).trans (List.getElem?_eq_getElem (by rw [ids_len, HEM.out]; omega))⟩; clear t1 t2))
        | fail)
      have hst := hoE.stored k (.int .u64 (idAt es m))
      have hg5 := hst.2
      have ho5 := hst.1
      rw [ids_set] at ho5
      have hs5 : (es.set k (idAt es m)).take m = swapEs es k := by unfold swapEs; rw [HEM.out, Nat.add_sub_cancel]
      have hmv5 : mv = idAt es m := by rw [HMV.out, if_pos (by omega)]
      have hgb := own_blk_ne hoE HT0.out (by decide)
      have hgb2 := own_blk_ne hoE HT2.out (by decide)
      obtain ⟨cur, hcur⟩ := own_cells hoE
      have hc4 := own_below HO3.out hb4
      have hc5 := hc4.kept hg5 (.inr (own_blk_ne hc4 hcur (by decide)))
      have hf5 : ∀ x ∈ F', ColFresh (w4.setCell ⟨ge, k, none⟩ (.int .u64 (idAt es m))) w2.heap.size x := fun x hx => colFresh_grown ((HF3.out x hx).below hb4) hoE (by decide) hg5
      have hk05 : Blk (w4.setCell ⟨ge, k, none⟩ (.int .u64 (idAt es m))) w.heap.size _ _ := HT0.out.grown hg5 (fun e => hgb e.symm)
      have hk25 : Blk (w4.setCell ⟨ge, k, none⟩ (.int .u64 (idAt es m))) (w.heap.size + 2) _ _ := HT2.out.grown hg5 (fun e => hgb2 e.symm)
      have hgge : W0.heap.size ≤ ge := Nat.le_trans hb33.size (own_base hoE)
      have hB5 := hb44.setCell (p := ⟨ge, k, none⟩) hgge (.int .u64 (idAt es m))
      have hz5 : w4.heap.size ≤ (w4.setCell ⟨ge, k, none⟩ (.int .u64 (idAt es m))).heap.size := by simp
      generalize w4.setCell ⟨ge, k, none⟩ (.int .u64 (idAt es m)) = w5 at *
      generalize es.set k (idAt es m) = es5 at *
      have hew : ∀ y ∈ es5.take m, Word y := by rw [hs5]; exact swapEs_word HEW.out (by rw [HEM.out]; omega)
      obtain ⟨⟨s0', _, _⟩, _⟩ := blk_cells3 hk05
      have hl0 : w.heap.size < w5.heap.size := hk05.lt
      have hcut := fun w => run_headD (some ⟨ge, 0, none⟩) (m + 1) cce m (by obtain ⟨_, _, e, h1, _⟩ := own_cap ho5; injection e with _ _ e; omega) w
      have HC5 := Lib.hid hc5
      have HF5 := Lib.hid hf5
      have HE5 := Lib.hid ho5
      have HK5 := Lib.hid hk25
      have HLT5 := Lib.hid hk25.lt
      have HB5 := Lib.hid hB5
      have hB5d := hB5.drew
      have HS5 := Lib.hid hs5
      have HMV5 := Lib.hid hmv5
      have HEW5 := Lib.hid hew
      have HZ2 := Lib.hid hb2
      have HZ4 := Lib.hid hb33
      have HB4 := Lib.hid hb4
      clear hc5 hf5 ho5 hk05 hk25 hB5 hs5 hmv5 hew hb2 hb3 hb33 hb4 hb44 ca ce co t0 t10 z0 y1 y2 z0' y1' y2' x0 x1 x2 c10 tm tk tkf hst hg5 hgb hgb2 hcur hc4 hgge
      refine wp_region_held_drew (S := fun w' => w'.cell? ⟨w.heap.size, 0, none⟩ = some (.slice TA Tn Tc)) (by kernel_rfl) s0' (fun hHeld => ?_)
      refine wpAnyH_take (i := 0) (oi := _) (v := ?_) rfl (by kernel_rfl) (by kernel_rfl) (by kernel_rfl) (fun _ _ _ h => h) (Or.inl ⟨by rfl, ?_⟩) hHeld ?_
      rotate_left
      · intro w hSw; obtain s0 := hSw; go_simp; try with_reducible rfl
      simp only [Act.put, List.getElem_toArray, List.getElem_cons_succ, List.getElem_cons_zero, List.setIfInBounds_toArray, List.set_cons_zero, List.set_cons_succ]
      refine wpAnyH_take (i := 1) (oi := _) (v := ?_) rfl (by kernel_rfl) (by kernel_rfl) (by kernel_rfl) (fun _ _ _ h => h) (Or.inl ⟨by rfl, ?_⟩) hHeld ?_
      rotate_left
      · intro w hSw; obtain s0 := hSw; go_simp; try with_reducible rfl
      simp only [Act.put, List.getElem_toArray, List.getElem_cons_succ, List.getElem_cons_zero, List.setIfInBounds_toArray, List.set_cons_zero, List.set_cons_succ]
      refine wpAnyH_take (i := 3) (oi := _) (v := ?_) rfl (by kernel_rfl) (by kernel_rfl) (by kernel_rfl) (fun _ _ _ h => h) (Or.inl ⟨by rfl, ?_⟩) hHeld ?_
      rotate_left
      · intro w hSw; obtain s0 := hSw; go_simp; try with_reducible rfl
      simp only [Act.put, List.getElem_toArray, List.getElem_cons_succ, List.getElem_cons_zero, List.setIfInBounds_toArray, List.set_cons_zero, List.set_cons_succ]
      refine wpAnyH_take (i := 4) (oi := _) (v := ?_) rfl (by kernel_rfl) (by kernel_rfl) (by kernel_rfl) (fun _ _ _ h => h) (Or.inl ⟨by rfl, ?_⟩) hHeld ?_
      rotate_left
      · intro w hSw; obtain s0 := hSw; go_simp; try with_reducible rfl
      simp only [Act.put, List.getElem_toArray, List.getElem_cons_succ, List.getElem_cons_zero, List.setIfInBounds_toArray, List.set_cons_zero, List.set_cons_succ]
      refine wpAnyH_take (i := 5) (oi := _) (v := ?_) rfl (by kernel_rfl) (by kernel_rfl) (by kernel_rfl) (fun _ _ _ h => h) (Or.inl ⟨by rfl, ?_⟩) hHeld ?_
      rotate_left
      · intro w hSw; obtain s0 := hSw; go_simp; try with_reducible rfl
      simp only [Act.put, List.getElem_toArray, List.getElem_cons_succ, List.getElem_cons_zero, List.setIfInBounds_toArray, List.set_cons_zero, List.set_cons_succ]
      refine wpAnyH_take (i := 6) (oi := _) (v := ?_) rfl (by kernel_rfl) (by kernel_rfl) (by kernel_rfl) (fun _ _ _ h => h) (Or.inl ⟨by rfl, ?_⟩) hHeld ?_
      rotate_left
      · intro w hSw; obtain s0 := hSw; go_simp; try with_reducible rfl
      simp only [Act.put, List.getElem_toArray, List.getElem_cons_succ, List.getElem_cons_zero, List.setIfInBounds_toArray, List.set_cons_zero, List.set_cons_succ]
      refine wpAnyH_take (i := 8) (oi := _) (v := ?_) rfl (by kernel_rfl) (by kernel_rfl) (by kernel_rfl) (fun _ _ _ h => h) (Or.inl ⟨by rfl, ?_⟩) hHeld ?_
      rotate_left
      · intro w hSw; obtain s0 := hSw; go_simp; try with_reducible rfl
      simp only [Act.put, List.getElem_toArray, List.getElem_cons_succ, List.getElem_cons_zero, List.setIfInBounds_toArray, List.set_cons_zero, List.set_cons_succ]
      refine wpAnyH_ready (rs := [2]) (by kernel_rfl) (by simp) (AllReadyH.cons (o := _) rfl (fun K hK => ?_) AllReadyH.nil)
      go_simp
      refine (cu _ hB5d).mono ?_
      rintro en w6 ⟨vt, rfl, hot, hb6⟩
      obtain ⟨At, ct, rfl⟩ := own_slice hot
      have hb6 : Below w5.heap.size w5 w6 := (Below.refl w5.heap.size w5).drew.trans hb6
      have hk6 := HK5.out.below hb6 HLT5.out
      obtain ⟨⟨q0, q1, q2⟩, qf⟩ := blk_cells3 hk6
      have qf0 := qf 0
      have qf1 := qf 1
      have qf2 := qf 2
      have HOT := Lib.hid hot
      have HK6 := Lib.hid hk6
      clear qf hot hk6
      refine hK.out _ _ (cell_below' hb6 s0' hl0) (fun hHeld => ?_)
      clear hK K
      try simp only [Act.put, List.getElem_toArray, List.getElem_cons_succ, List.getElem_cons_zero, List.setIfInBounds_toArray, List.set_cons_zero, List.set_cons_succ]
      refine wpAnyH_take (i := 7) (oi := _) (v := ?_) rfl (by kernel_rfl) (by kernel_rfl) (by kernel_rfl) (fun _ _ _ h => h) (Or.inl ⟨by rfl, ?_⟩) hHeld ?_
      rotate_left
      · intro w hSw; obtain s0 := hSw; go_simp; try with_reducible rfl
      simp only [Act.put, List.getElem_toArray, List.getElem_cons_succ, List.getElem_cons_zero, List.setIfInBounds_toArray, List.set_cons_zero, List.set_cons_succ]
      refine wpAnyH_ready (rs := [9]) (by kernel_rfl) (by simp) (AllReadyH.cons (o := _) rfl (fun K hK => ?_) AllReadyH.nil)
      go_simp
      skip
      refine hK.out _ _ (far3 _ _ _ trivial (cell_below' hb6 s0' hl0) (by omega)) (fun hHeld => ?_)
      clear hK K
      try simp only [Act.put, List.getElem_toArray, List.getElem_cons_succ, List.getElem_cons_zero, List.setIfInBounds_toArray, List.set_cons_zero, List.set_cons_succ]
      refine wpAnyH_take (i := 10) (oi := _) (v := ?_) rfl (by kernel_rfl) (by kernel_rfl) (by kernel_rfl) (fun _ _ _ h => h) (Or.inl ⟨by rfl, ?_⟩) hHeld ?_
      rotate_left
      · intro w hSw; obtain s0 := hSw; go_simp; try with_reducible rfl
      simp only [Act.put, List.getElem_toArray, List.getElem_cons_succ, List.getElem_cons_zero, List.setIfInBounds_toArray, List.set_cons_zero, List.set_cons_succ]
      refine wpAnyH_take (i := 11) (oi := _) (v := ?_) rfl (by kernel_rfl) (by kernel_rfl) (by kernel_rfl) (fun _ _ _ h => h) (Or.inl ⟨by rfl, ?_⟩) hHeld ?_
      rotate_left
      · intro w hSw; obtain s0 := hSw; go_simp; try with_reducible rfl
      simp only [Act.put, List.getElem_toArray, List.getElem_cons_succ, List.getElem_cons_zero, List.setIfInBounds_toArray, List.set_cons_zero, List.set_cons_succ]
      refine wpAnyH_done (by kernel_rfl) ?_ _
      go_wp2_with fail
      refine bodyPost_ret (v := .tuple #[.agg #[.slice At ty.length ct, .slice Av F'.length cv, .slice (some ⟨ge, 0, none⟩) m cce], .int .u64 (idAt es m), .int .i64 0]) (by simp [results, Try.results33, go_sem, *]) rfl ?_
      show SwpR _ _ _ w _ _
      rw [HMV5.out]
      have hzz : w.heap.size ≤ w5.heap.size := by omega
      have hbig := (hB.trans (HB5.out.mono hB.size)).trans (hb6.mono hzz)
      have hfr : TabFresh w6 w.heap.size ⟨At, ty.length, ct, ty, Av, F'.length, cv, F', some ⟨ge, 0, none⟩, m, cce, es5.take m⟩ :=
        ⟨(idFresh_own HOT.out HTW.out).base hzz, own_below (base_le HC5.out (Nat.le_trans hB.size HZ2.out.size)) hb6, fun x hx => (colFresh_base (HF5.out x hx) (Nat.le_trans hB.size HZ2.out.size)).below hb6,
         ((idFresh_own (by have h9 := own_shrink HE5.out (Nat.le_succ m); rw [ids_take] at h9; exact h9) HEW5.out).base (Nat.le_trans hB.size HZ4.out.size)).below hb6⟩
      exact ⟨_, rfl, ⟨⟨At, ty.length, ct, ty, Av, F'.length, cv, F', some ⟨ge, 0, none⟩, m, cce, es5.take m⟩, rfl, by unfold Tab.p; simp only; rw [HL3.out, HS5.out], hfr.set3 HK6.out _ _ _⟩, below_set3 hbig (by omega)⟩
    · go_enter Try.func33, Try.ntmps33
      go_upto_region 1 with fail
      rw [← HW.out]
      go_wp2_with (first
        | (go_at_call 79; ((with_reducible refine ca.mono ?_); rintro en w2 ⟨rfl, hb2⟩; obtain ⟨z0, z1, z2, zb⟩ := HZ.out _ hb2; obtain ⟨⟨z0, y1, y2⟩, _⟩ := blk_cells3 z0; clear z1 z2 zb))
        | (go_at_call 67; ((with_reducible refine (ce _ hb2).mono ?_); rintro en w3 ⟨v, F', rfl, ho3, hl3, hf3, hb3⟩; have hb33 := hb2.trans (hb3.mono hb2.size); obtain ⟨z0', z1, z2, zb⟩ := HZ.out _ hb33; obtain ⟨⟨z0', y1', y2'⟩, _⟩ := blk_cells3 z0'; have HO3 := Lib.hid ho3; have HL3 := Lib.hid hl3; have HF3 := Lib.hid hf3; obtain ⟨Av, cv, rfl⟩ := own_slice ho3; clear z1 z2 zb ho3 hl3 hf3))
        | (go_at_call 70; ((with_reducible refine (co _ hb33).mono ?_); rintro en w4 ⟨v2, rfl, hoE, hb4⟩; have hb44 := hb33.trans (hb4.mono hb33.size); obtain ⟨t0, t1, t2, tb⟩ := HZ.out _ hb44; have HT0 := Lib.hid t0; have HT2 := Lib.hid t2; obtain ⟨⟨t0, _, _⟩, _⟩ := blk_cells3 t0; have t10 : w4.cell? ⟨w.heap.size + 1, 0, none⟩ = some (.int .i64 (k : Int)) := t1.cell 0; rw [HEM.out] at hoE; obtain ⟨ge, cce, rfl⟩ := ownsRow_succ hoE; clear t1 t2))
        | fail)
      have hs5 : es.take m = swapEs es k := by have hkm2 : k = m := by omega
                                               subst hkm2; exact (swapEs_last es k HEM.out).symm
      have hmv5 : mv = 0 := by rw [HMV.out, if_neg (by omega)]
      have hc5 := own_below HO3.out hb4
      have hf5 : ∀ x ∈ F', ColFresh w4 w2.heap.size x := fun x hx => (HF3.out x hx).below hb4
      have hk05 := HT0.out
      have hk25 := HT2.out
      have hB5 := hb44
      have hz5 := Nat.le_refl w4.heap.size
      have ho5 := hoE
      obtain ⟨es5, hes5⟩ : ∃ es5, es5 = es := ⟨_, rfl⟩
      rw [← hes5] at ho5
      have hs5 : es5.take m = swapEs es k := by rw [hes5]; exact hs5
      have hew : ∀ y ∈ es5.take m, Word y := by rw [hes5]; exact fun y hy => HEW.out y (List.mem_of_mem_take hy)
      have hw45 := Nat.le_refl w4.heap.size
      obtain ⟨w5, hw5⟩ : ∃ w5, w5 = w4 := ⟨_, rfl⟩
      rw [← hw5] at hc5 hf5 hk05 hk25 hB5 ho5 hz5 ⊢
      obtain ⟨⟨s0', _, _⟩, _⟩ := blk_cells3 hk05
      have hl0 : w.heap.size < w5.heap.size := hk05.lt
      have hcut := fun w => run_headD (some ⟨ge, 0, none⟩) (m + 1) cce m (by obtain ⟨_, _, e, h1, _⟩ := own_cap ho5; injection e with _ _ e; omega) w
      have HC5 := Lib.hid hc5
      have HF5 := Lib.hid hf5
      have HE5 := Lib.hid ho5
      have HK5 := Lib.hid hk25
      have HLT5 := Lib.hid hk25.lt
      have HB5 := Lib.hid hB5
      have hB5d := hB5.drew
      have HS5 := Lib.hid hs5
      have HMV5 := Lib.hid hmv5
      have HEW5 := Lib.hid hew
      have HZ2 := Lib.hid hb2
      have HZ4 := Lib.hid hb33
      have HB4 := Lib.hid hb4
      clear hc5 hf5 ho5 hk05 hk25 hB5 hs5 hmv5 hew hb2 hb3 hb33 hb4 hb44 ca ce co t0 t10 z0 y1 y2 z0' y1' y2' x0 x1 x2 c10 hes5 hw5 hw45
      refine wp_region_held_drew (S := fun w' => w'.cell? ⟨w.heap.size, 0, none⟩ = some (.slice TA Tn Tc)) (by kernel_rfl) s0' (fun hHeld => ?_)
      refine wpAnyH_take (i := 0) (oi := _) (v := ?_) rfl (by kernel_rfl) (by kernel_rfl) (by kernel_rfl) (fun _ _ _ h => h) (Or.inl ⟨by rfl, ?_⟩) hHeld ?_
      rotate_left
      · intro w hSw; obtain s0 := hSw; go_simp; try with_reducible rfl
      simp only [Act.put, List.getElem_toArray, List.getElem_cons_succ, List.getElem_cons_zero, List.setIfInBounds_toArray, List.set_cons_zero, List.set_cons_succ]
      refine wpAnyH_take (i := 1) (oi := _) (v := ?_) rfl (by kernel_rfl) (by kernel_rfl) (by kernel_rfl) (fun _ _ _ h => h) (Or.inl ⟨by rfl, ?_⟩) hHeld ?_
      rotate_left
      · intro w hSw; obtain s0 := hSw; go_simp; try with_reducible rfl
      simp only [Act.put, List.getElem_toArray, List.getElem_cons_succ, List.getElem_cons_zero, List.setIfInBounds_toArray, List.set_cons_zero, List.set_cons_succ]
      refine wpAnyH_take (i := 3) (oi := _) (v := ?_) rfl (by kernel_rfl) (by kernel_rfl) (by kernel_rfl) (fun _ _ _ h => h) (Or.inl ⟨by rfl, ?_⟩) hHeld ?_
      rotate_left
      · intro w hSw; obtain s0 := hSw; go_simp; try with_reducible rfl
      simp only [Act.put, List.getElem_toArray, List.getElem_cons_succ, List.getElem_cons_zero, List.setIfInBounds_toArray, List.set_cons_zero, List.set_cons_succ]
      refine wpAnyH_take (i := 4) (oi := _) (v := ?_) rfl (by kernel_rfl) (by kernel_rfl) (by kernel_rfl) (fun _ _ _ h => h) (Or.inl ⟨by rfl, ?_⟩) hHeld ?_
      rotate_left
      · intro w hSw; obtain s0 := hSw; go_simp; try with_reducible rfl
      simp only [Act.put, List.getElem_toArray, List.getElem_cons_succ, List.getElem_cons_zero, List.setIfInBounds_toArray, List.set_cons_zero, List.set_cons_succ]
      refine wpAnyH_take (i := 5) (oi := _) (v := ?_) rfl (by kernel_rfl) (by kernel_rfl) (by kernel_rfl) (fun _ _ _ h => h) (Or.inl ⟨by rfl, ?_⟩) hHeld ?_
      rotate_left
      · intro w hSw; obtain s0 := hSw; go_simp; try with_reducible rfl
      simp only [Act.put, List.getElem_toArray, List.getElem_cons_succ, List.getElem_cons_zero, List.setIfInBounds_toArray, List.set_cons_zero, List.set_cons_succ]
      refine wpAnyH_take (i := 6) (oi := _) (v := ?_) rfl (by kernel_rfl) (by kernel_rfl) (by kernel_rfl) (fun _ _ _ h => h) (Or.inl ⟨by rfl, ?_⟩) hHeld ?_
      rotate_left
      · intro w hSw; obtain s0 := hSw; go_simp; try with_reducible rfl
      simp only [Act.put, List.getElem_toArray, List.getElem_cons_succ, List.getElem_cons_zero, List.setIfInBounds_toArray, List.set_cons_zero, List.set_cons_succ]
      refine wpAnyH_take (i := 8) (oi := _) (v := ?_) rfl (by kernel_rfl) (by kernel_rfl) (by kernel_rfl) (fun _ _ _ h => h) (Or.inl ⟨by rfl, ?_⟩) hHeld ?_
      rotate_left
      · intro w hSw; obtain s0 := hSw; go_simp; try with_reducible rfl
      simp only [Act.put, List.getElem_toArray, List.getElem_cons_succ, List.getElem_cons_zero, List.setIfInBounds_toArray, List.set_cons_zero, List.set_cons_succ]
      refine wpAnyH_ready (rs := [2]) (by kernel_rfl) (by simp) (AllReadyH.cons (o := _) rfl (fun K hK => ?_) AllReadyH.nil)
      go_simp
      refine (cu _ hB5d).mono ?_
      rintro en w6 ⟨vt, rfl, hot, hb6⟩
      obtain ⟨At, ct, rfl⟩ := own_slice hot
      have hb6 : Below w5.heap.size w5 w6 := (Below.refl w5.heap.size w5).drew.trans hb6
      have hk6 := HK5.out.below hb6 HLT5.out
      obtain ⟨⟨q0, q1, q2⟩, qf⟩ := blk_cells3 hk6
      have qf0 := qf 0
      have qf1 := qf 1
      have qf2 := qf 2
      have HOT := Lib.hid hot
      have HK6 := Lib.hid hk6
      clear qf hot hk6
      refine hK.out _ _ (cell_below' hb6 s0' hl0) (fun hHeld => ?_)
      clear hK K
      try simp only [Act.put, List.getElem_toArray, List.getElem_cons_succ, List.getElem_cons_zero, List.setIfInBounds_toArray, List.set_cons_zero, List.set_cons_succ]
      refine wpAnyH_take (i := 7) (oi := _) (v := ?_) rfl (by kernel_rfl) (by kernel_rfl) (by kernel_rfl) (fun _ _ _ h => h) (Or.inl ⟨by rfl, ?_⟩) hHeld ?_
      rotate_left
      · intro w hSw; obtain s0 := hSw; go_simp; try with_reducible rfl
      simp only [Act.put, List.getElem_toArray, List.getElem_cons_succ, List.getElem_cons_zero, List.setIfInBounds_toArray, List.set_cons_zero, List.set_cons_succ]
      refine wpAnyH_ready (rs := [9]) (by kernel_rfl) (by simp) (AllReadyH.cons (o := _) rfl (fun K hK => ?_) AllReadyH.nil)
      go_simp
      skip
      refine hK.out _ _ (far3 _ _ _ trivial (cell_below' hb6 s0' hl0) (by omega)) (fun hHeld => ?_)
      clear hK K
      try simp only [Act.put, List.getElem_toArray, List.getElem_cons_succ, List.getElem_cons_zero, List.setIfInBounds_toArray, List.set_cons_zero, List.set_cons_succ]
      refine wpAnyH_take (i := 10) (oi := _) (v := ?_) rfl (by kernel_rfl) (by kernel_rfl) (by kernel_rfl) (fun _ _ _ h => h) (Or.inl ⟨by rfl, ?_⟩) hHeld ?_
      rotate_left
      · intro w hSw; obtain s0 := hSw; go_simp; try with_reducible rfl
      simp only [Act.put, List.getElem_toArray, List.getElem_cons_succ, List.getElem_cons_zero, List.setIfInBounds_toArray, List.set_cons_zero, List.set_cons_succ]
      refine wpAnyH_take (i := 11) (oi := _) (v := ?_) rfl (by kernel_rfl) (by kernel_rfl) (by kernel_rfl) (fun _ _ _ h => h) (Or.inl ⟨by rfl, ?_⟩) hHeld ?_
      rotate_left
      · intro w hSw; obtain s0 := hSw; go_simp; try with_reducible rfl
      simp only [Act.put, List.getElem_toArray, List.getElem_cons_succ, List.getElem_cons_zero, List.setIfInBounds_toArray, List.set_cons_zero, List.set_cons_succ]
      refine wpAnyH_done (by kernel_rfl) ?_ _
      go_wp2_with fail
      refine bodyPost_ret (v := .tuple #[.agg #[.slice At ty.length ct, .slice Av F'.length cv, .slice (some ⟨ge, 0, none⟩) m cce], .int .u64 0, .int .i64 0]) (by simp [results, Try.results33, go_sem, *]) rfl ?_
      show SwpR _ _ _ w _ _
      rw [HMV5.out]
      have hzz : w.heap.size ≤ w5.heap.size := by omega
      have hbig := (hB.trans (HB5.out.mono hB.size)).trans (hb6.mono hzz)
      have hfr : TabFresh w6 w.heap.size ⟨At, ty.length, ct, ty, Av, F'.length, cv, F', some ⟨ge, 0, none⟩, m, cce, es5.take m⟩ :=
        ⟨(idFresh_own HOT.out HTW.out).base hzz, own_below (base_le HC5.out (Nat.le_trans hB.size HZ2.out.size)) hb6, fun x hx => (colFresh_base (HF5.out x hx) (Nat.le_trans hB.size HZ2.out.size)).below hb6,
         ((idFresh_own (by have h9 := own_shrink HE5.out (Nat.le_succ m); rw [ids_take] at h9; exact h9) HEW5.out).base (Nat.le_trans hB.size HZ4.out.size)).below hb6⟩
      exact ⟨_, rfl, ⟨⟨At, ty.length, ct, ty, Av, F'.length, cv, F', some ⟨ge, 0, none⟩, m, cce, es5.take m⟩, rfl, by unfold Tab.p; simp only; rw [HL3.out, HS5.out], hfr.set3 HK6.out _ _ _⟩, below_set3 hbig (by omega)⟩
  · have hp : tswP t row = noT := by unfold tswP; rw [if_neg h0]
    have hm : tswM t row = 0 := by unfold tswM; rw [if_neg h0]
    rw [hp, hm]
    unfold Tab.V at ca ⊢
    generalize atE t row = ae at *
    obtain ⟨TA, Tn, Tc, ty, CA, Cn, Cc, F, EA, En, Ec, es⟩ := t
    simp only at *
    clear hW0 hsz h hs k0 k1 k2 hT zz hp hm hn
    rcases hw with rfl | rfl | rfl
    · exact absurd rfl h0
    all_goals
      clear h0
      go_enter Try.func33, Try.ntmps33
      go_upto_region 1 with fail
      rw [← HW.out]
      go_wp2_with (first
        | (go_at_call 79; ((with_reducible refine ca.mono ?_); rintro en w2 ⟨rfl, hb2⟩; obtain ⟨z0, z1, z2, zb⟩ := HZ.out _ hb2; obtain ⟨⟨y0, y1, y2⟩, yf⟩ := blk_cells3 z2; have yf0 := yf 0; have yf1 := yf 1; have yf2 := yf 2; clear z0 z1 z2 yf))
        | fail)
    · refine bodyPost_ret (v := .tuple #[.agg #[.slice none 0 0, .slice none 0 0, .slice none 0 0], .int .u64 0, .int .i64 2]) (by simp [results, Try.results33, go_sem, *]) rfl ⟨_, rfl, tabRes_nil _ _, below_set3 zb (by omega)⟩
    · refine bodyPost_ret (v := .tuple #[.agg #[.slice none 0 0, .slice none 0 0, .slice none 0 0], .int .u64 0, .int .i64 190]) (by simp [results, Try.results33, go_sem, *]) rfl ⟨_, rfl, tabRes_nil _ _, below_set3 zb (by omega)⟩
end Go.Proofs.Ytbcbknajhdaneaa
