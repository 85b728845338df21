/- What is proved: contracts of table's own, at, Row, place and Get. -/
import Derived.Test.YtbcbknajhdaneaaTb1
namespace Go.Proofs.Ytbcbknajhdaneaa
open Go.RowKit
set_option linter.unusedVariables false
set_option linter.unusedSimpArgs false
theorem made_own (w : World) (z : Value) (e : TypeId) (n c : Nat) (hnc : n ≤ c) (hc : c ≤ maxLen) : (w.alloc (.cells (madeCells #[z] c) e)).ownsRow w.heap.size e 1 (.slice (some ⟨w.heap.size, 0, none⟩) n c) n ((madeCells #[z] c).toList.take n) := by
  refine ⟨by rw [List.length_take, Array.length_toList, size_madeCells]; omega, .inr ⟨w.heap.size, c, madeCells #[z] c, rfl, Nat.le_refl _, last_blk _ _, hnc, hc, by rw [size_madeCells]; omega, by rw [Nat.mul_one]⟩⟩
theorem splice_all {α : Type} (L cs : List α) (h : cs.length = L.length) : splice L 0 cs = cs := by
  unfold splice
  rw [List.take_zero, List.nil_append, List.drop_eq_nil_of_le (by omega), List.append_nil]
theorem wpList_copy_ownrow {P : Program} {ops : Array Oper} {rest : List Oper} {o : Oper} {a : Act} {w : World} {Q : Exit → Act → World → Prop} (hgd : o.guard = none) (d s : Operand) (dT sT : TypeId)
    (ho : o.op = .call { callee := .builtin .copy, args := #[d, s], argTypes := #[dT, sT] }) (elem : TypeId) (hu : P.underlying dT = some (.slice elem)) (hsz : (P.info? elem).map (·.size) = some 1)
    (dp sp : Option Addr) (dLen dCap sLen sCap : Nat) (hd : a.eval d = .slice dp dLen dCap) (hs : a.eval s = .slice sp sLen sCap)
    (lim : Nat) (e : TypeId) (A : Option Addr) (n c : Nat) (xs : List Value) (off : Nat) (cs : List Value) (hown : w.ownsRow lim e 1 (.slice A n c) n xs) (hn : cs.length = Nat.min sLen dLen)
    (hpos : 0 < cs.length → dp = A.map (·.add off) ∧ ∃ ad, sp = some ad ∧ ∀ j v, cs[j]? = some v → w.cell? (ad.add j) = some v) (hfit : off + cs.length ≤ n) (h1 : ∀ v ∈ cs, v.oneCell' = true)
    (h : ∀ w', w'.ownsRow lim e 1 (.slice A n c) n (splice xs off cs) → Below lim w w' → wpList P ops Q rest (a.put o.dst (goInt cs.length)) w') : wpList P ops Q (o :: rest) a w :=
  wpList_plain hgd fun _ hK => wp_copy_ownrow d s dT sT ho elem hu hsz dp sp dLen dCap sLen sCap hd hs lim e A n c xs off cs hown hn hpos hfit h1 fun w' h2 h3 => hK _ _ (h w' h2 h3)
theorem info_dd : (Try.prog.info? 27).map (fun i => i.size) = some 1 := by
  obtain ⟨i0, hi0, hz0, hz1, hz2⟩ := info_parts info_id
  rw [hi0]; simp [hz1]
set_option maxRecDepth 100000 in
set_option maxHeartbeats 2000000 in
theorem town_any (A : Option Addr) (n c m : Nat) (l : List Int) (w : World) (hR : Reads w w.heap.size 1 A n (ids l)) (hn : n ≤ 65536) (hm : m ≤ 65536) :
    Calls Try.prog 70 #[.slice A n c, .int .i64 (m : Int)] w (OwnD l w) := by
  have hl : l.length = n := by have := hR.1; rw [ids_len] at this; omega
  obtain ⟨i0, hi0, hz0, hz1, hz2⟩ := info_parts info_id
  have hmk := fun W => run_make (P := Try.prog) W 22 27 i0 (.int .u64 0) Try.underlying22 hi0 hz0 .i64 .i64 (n : Int) ((n : Int) + (m : Int)) (by omega) (by omega) (by rw [hz2]; omega) (by omega)
  have e1 : ((n : Int) + (m : Int)).toNat = n + m := by omega
  simp only [e1, Int.toNat_natCast, hz1, Nat.mul_one] at hmk
  have hcells : (Value.int .u64 0).cells = #[.int .u64 0] := rfl
  rw [hcells] at hmk
  have ho := made_own w (.int .u64 0) 27 n (n + m) (by omega) (by unfold maxLen; omega)
  have hRA := hR.alloc (Nat.le_refl _) (.cells (madeCells #[.int .u64 0] (n + m)) 27)
  have hb := (Below.refl w.heap.size w).alloc (Nat.le_refl _) (.cells (madeCells #[.int .u64 0] (n + m)) 27)
  have HO := Lib.hid ho
  have HR := Lib.hid hRA
  have HL := Lib.hid hl
  have HB := Lib.hid hb
  clear ho hRA hl hR hb e1
  go_enter Try.func70, Try.ntmps70
  go_wp2_with (first
    | (refine wpList_copy_ownrow rfl (.tmp 13) (.tmp 14) _ _ rfl 27 Try.underlying22 info_dd (some ⟨w.heap.size, 0, none⟩) A n (n + m) n c rfl rfl w.heap.size 27 (some ⟨w.heap.size, 0, none⟩) n (n + m) _ 0 (ids l) HO.out ?_ ?_ ?_ (ids_one l) ?_
       · rw [ids_len, HL.out]; simp
       · intro h0
         rw [ids_len, HL.out] at h0
         obtain ⟨ad, e, _, hc⟩ := HR.out.2 h0
         exact ⟨by simp [add_none], ad, e, hc⟩
       · rw [ids_len, HL.out]; omega
       intro w5 ho5 hb5)
    | fail)
  go_ret
  rw [splice_all _ _ (by rw [ids_len, HL.out, List.length_take, Array.length_toList, size_madeCells]; omega)] at ho5
  exact ⟨_, rfl, by rw [HL.out]; exact ho5, HB.out.trans hb5⟩
theorem town0 (A : Option Addr) (n c : Nat) (l : List Int) (w : World) (hR : Reads w w.heap.size 1 A n (ids l)) (hn : n ≤ 65536) : Calls Try.prog 70 #[.slice A n c, .int .i64 0] w (OwnD l w) :=
  town_any A n c 0 l w hR hn (by omega)
theorem town1 (A : Option Addr) (n c : Nat) (l : List Int) (w : World) (hR : Reads w w.heap.size 1 A n (ids l)) (hn : n ≤ 65536) : Calls Try.prog 70 #[.slice A n c, .int .i64 1] w (OwnD l w) :=
  town_any A n c 1 l w hR hn (by omega)
/-- 190 unless the table may be, 2 unless it has the row -/
def atE (t : Tab) (row : Int) : Int := if tabB t then (if 0 ≤ row ∧ row < (t.es.length : Int) then 0 else 2) else 190
set_option maxRecDepth 100000 in
set_option maxHeartbeats 2000000 in
theorem tat_any (t : Tab) (row : Int) (w : World) (h : TabOk w w.heap.size t) (hs : TabSm t) : Calls Try.prog 79 #[t.V, .int .i64 row] w fun e w' => e = .returned (.int .i64 (atE t row)) ∧ Below w.heap.size w w' := by
  have hB := (Below.refl w.heap.size w).alloc (Nat.le_refl _) (.cells #[.slice t.TA t.Tn t.Tc, .slice t.CA t.Cn t.Cc, .slice t.EA t.En t.Ec] 25)
  have hk := Blk.new w 25 #[.slice t.TA t.Tn t.Tc, .slice t.CA t.Cn t.Cc, .slice t.EA t.En t.Ec]
  have ct := tabchk_any t _ ((h.keep hB).more hB.size) hs
  have hl := h.len.2.2
  have hate : atE t row = if tabB t then (if 0 ≤ row ∧ row < (t.En : Int) then 0 else 2) else 190 := by unfold atE; rw [hl]
  rw [hate]
  have HK := Lib.hid hk
  unfold tabE at ct
  unfold Tab.V at ct ⊢
  obtain ⟨⟨c0, c1, c2⟩, _⟩ := blk_cells3 hk
  generalize tabB t = tb at *
  obtain ⟨TA, Tn, Tc, ty, CA, Cn, Cc, F, EA, En, Ec, es⟩ := t
  simp only at *
  clear h hs hk hl hate
  cases tb
  · go_enter Try.func79, Try.ntmps79
    go_wp2_with (first
      | (go_at_call 34; ((with_reducible refine ct.mono ?_); rintro e w2 ⟨rfl, hb2⟩))
      | fail)
    go_ret
    exact ⟨rfl, hB.trans (hb2.mono hB.size)⟩
  · have hen := fun (w2 : World) (h : Below (w.alloc (.cells #[.slice TA Tn Tc, .slice CA Cn Cc, .slice EA En Ec] 25)).heap.size (w.alloc (.cells #[.slice TA Tn Tc, .slice CA Cn Cc, .slice EA En Ec] 25)) w2) => (show w2.cell? ⟨w.heap.size, 2, none⟩ = some (.slice EA En Ec) from (blk_below HK.out h).cell 2)
    by_cases h0 : row < 0
    · have HI := Lib.hid (show (if 0 ≤ row ∧ row < (En : Int) then (0 : Int) else 2) = 2 from if_neg (by omega))
      go_enter Try.func79, Try.ntmps79
      go_wp2_with (first
        | (go_at_call 34; ((with_reducible refine ct.mono ?_); rintro e w2 ⟨rfl, hb2⟩))
        | fail)
      go_ret
      exact ⟨rfl, hB.trans (hb2.mono hB.size)⟩
    · by_cases h1 : row < (En : Int)
      · have hd : decide ((En : Int) ≤ row) = false := decide_eq_false (by omega)
        have HI := Lib.hid (show (if 0 ≤ row ∧ row < (En : Int) then (0 : Int) else 2) = 0 from if_pos (by omega))
        go_enter Try.func79, Try.ntmps79
        go_wp2_with (first
          | (go_at_call 34; ((with_reducible refine ct.mono ?_); rintro e w2 ⟨rfl, hb2⟩; have z2 := hen _ hb2))
          | fail)
        go_ret
        exact ⟨rfl, hB.trans (hb2.mono hB.size)⟩
      · have hd : decide ((En : Int) ≤ row) = true := decide_eq_true (by omega)
        have HI := Lib.hid (show (if 0 ≤ row ∧ row < (En : Int) then (0 : Int) else 2) = 2 from if_neg (by omega))
        go_enter Try.func79, Try.ntmps79
        go_wp2_with (first
          | (go_at_call 34; ((with_reducible refine ct.mono ?_); rintro e w2 ⟨rfl, hb2⟩; have z2 := hen _ hb2))
          | fail)
        go_ret
        exact ⟨rfl, hB.trans (hb2.mono hB.size)⟩
def rowK (t : Tab) (e : Int) : Bool := decide (0 ≤ ixD t.es e) && tabB t
def rowI (t : Tab) (e : Int) : Int := if rowK t e then ixD t.es e else 0
theorem ixGo_bd (v : Int) : ∀ (l : List Int) (k : Nat), ixGo v l k = -1 ∨ ((k : Int) ≤ ixGo v l k ∧ ixGo v l k < (k : Int) + (l.length : Int))
  | [], _ => .inl rfl
  | x :: l, k => by
    unfold ixGo
    split
    · exact .inr ⟨by omega, by simp only [List.length_cons]; omega⟩
    · rcases ixGo_bd v l (k + 1) with h | h
      · exact .inl h
      · exact .inr ⟨by omega, by simp only [List.length_cons]; omega⟩
theorem ixD_bd (l : List Int) (v : Int) : ixD l v = -1 ∨ (0 ≤ ixD l v ∧ ixD l v < (l.length : Int)) := by
  show ixGo v l 0 = -1 ∨ (0 ≤ ixGo v l 0 ∧ ixGo v l 0 < (l.length : Int))
  rcases ixGo_bd v l 0 with h | h
  · exact .inl h
  · exact .inr ⟨by simpa using h.1, by simpa using h.2⟩
set_option maxRecDepth 100000 in
set_option maxHeartbeats 2000000 in
theorem trow_any (t : Tab) (e : Int) (w : World) (h : TabOk w w.heap.size t) (hs : TabSm t) : Calls Try.prog 26 #[t.V, .int .u64 e] w fun en w' => en = .returned (.tuple #[.int .i64 (rowI t e), .bool (rowK t e)]) ∧ Below w.heap.size w w' := by
  have hB := (Below.refl w.heap.size w).alloc (Nat.le_refl _) (.cells #[.slice t.TA t.Tn t.Tc, .slice t.CA t.Cn t.Cc, .slice t.EA t.En t.Ec] 25)
  have hk := Blk.new w 25 #[.slice t.TA t.Tn t.Tc, .slice t.CA t.Cn t.Cc, .slice t.EA t.En t.Ec]
  have hT := (h.keep hB).more hB.size
  have ct := tabchk_any t _ hT hs
  have ci := index_d t.EA t.En t.Ec t.es e _ hT.es hs.2.2.1
  have hib := ixD_bd t.es e
  have hln := h.len.2.2
  have hse := hs.2.2.1
  unfold rowI rowK
  unfold tabE at ct
  unfold Tab.V at ct ⊢
  obtain ⟨⟨c0, c1, c2⟩, _⟩ := blk_cells3 hk
  generalize tabB t = tb at *
  generalize ixD t.es e = ix at *
  obtain ⟨TA, Tn, Tc, ty, CA, Cn, Cc, F, EA, En, Ec, es⟩ := t
  simp only at *
  have hbd : ix = -1 ∨ (0 ≤ ix ∧ ix ≤ 281474976710656) := by omega
  clear h hs hk hib hln hse hT
  by_cases h0 : 0 ≤ ix
  · rw [decide_eq_true h0, Bool.true_and]
    have hn : ¬ ix < 0 := by omega
    cases tb
    all_goals
      go_enter Try.func26, Try.ntmps26
      go_wp2_with (first
        | (go_at_call 27; ((with_reducible refine ci.mono ?_); rintro en w2 ⟨rfl, rfl⟩))
        | (go_at_call 34; ((with_reducible refine ct.mono ?_); rintro en w2 ⟨rfl, hb2⟩))
        | fail)
      go_ret2
      exact ⟨rfl, hB.trans (hb2.mono hB.size)⟩
  · rw [decide_eq_false h0, Bool.false_and]
    have hn : ix < 0 := by omega
    clear ct
    go_enter Try.func26, Try.ntmps26
    go_wp2_with (first
      | (go_at_call 27; ((with_reducible refine ci.mono ?_); rintro en w2 ⟨rfl, rfl⟩))
      | fail)
    go_ret2
    exact ⟨rfl, hB⟩
def plE (t : Tab) (row id : Int) : Int := if atE t row = 0 then (if ibIn t.ty id then 0 else 4) else atE t row
def plK (t : Tab) (row id : Int) : Int := if plE t row id = 0 then (ibAt t.ty id : Int) else 0
theorem atE_ways (t : Tab) (row : Int) : atE t row = 0 ∨ atE t row = 2 ∨ atE t row = 190 := by
  unfold atE
  split
  · split
    · exact .inl rfl
    · exact .inr (.inl rfl)
  · exact .inr (.inr rfl)
set_option maxRecDepth 100000 in
set_option maxHeartbeats 2000000 in
theorem tplace_any (t : Tab) (row id : Int) (w : World) (h : TabOk w w.heap.size t) (hs : TabSm t) : Calls Try.prog 84 #[t.V, .int .i64 row, .int .u64 id] w fun en w' => en = .returned (.tuple #[.int .i64 (plK t row id), .int .i64 (plE t row id)]) ∧ Below w.heap.size w w' := by
  have hB := (Below.refl w.heap.size w).alloc (Nat.le_refl _) (.cells #[.slice t.TA t.Tn t.Tc, .slice t.CA t.Cn t.Cc, .slice t.EA t.En t.Ec] 25)
  have hk := Blk.new w 25 #[.slice t.TA t.Tn t.Tc, .slice t.CA t.Cn t.Cc, .slice t.EA t.En t.Ec]
  have hT := (h.keep hB).more hB.size
  have ca := tat_any t row _ hT hs
  have cb := fun (w2 : World) (hb : Below (w.alloc (.cells #[.slice t.TA t.Tn t.Tc, .slice t.CA t.Cn t.Cc, .slice t.EA t.En t.Ec] 25)).heap.size (w.alloc (.cells #[.slice t.TA t.Tn t.Tc, .slice t.CA t.Cn t.Cc, .slice t.EA t.En t.Ec] 25)) w2) => ib_any t.TA t.Tn t.Tc t.ty id w2 ((hT.ty.below hb).more hb.size) hs.1
  have hways := atE_ways t row
  unfold plK plE
  unfold Tab.V at ca ⊢
  obtain ⟨⟨c0, c1, c2⟩, _⟩ := blk_cells3 hk
  have HK := Lib.hid hk
  generalize atE t row = ae at *
  generalize ibIn t.ty id = ii at *
  generalize ibAt t.ty id = ia at *
  obtain ⟨TA, Tn, Tc, ty, CA, Cn, Cc, F, EA, En, Ec, es⟩ := t
  simp only at *
  have hen := fun (w2 : World) (h : Below (w.alloc (.cells #[.slice TA Tn Tc, .slice CA Cn Cc, .slice EA En Ec] 25)).heap.size (w.alloc (.cells #[.slice TA Tn Tc, .slice CA Cn Cc, .slice EA En Ec] 25)) w2) => (show w2.cell? ⟨w.heap.size, 0, none⟩ = some (.slice TA Tn Tc) from (blk_below HK.out h).cell 0)
  clear h hs hk hT
  rcases hways with rfl | rfl | rfl
  · cases ii
    all_goals
      go_enter Try.func84, Try.ntmps84
      go_wp2_with (first
        | (go_at_call 79; ((with_reducible refine ca.mono ?_); rintro en w2 ⟨rfl, hb2⟩; have z0 := hen _ hb2))
        | (go_at_call 118; ((with_reducible refine (cb _ hb2).mono ?_); rintro en w3 ⟨rfl, rfl⟩))
        | fail)
      go_ret2
      exact ⟨rfl, hB.trans (hb2.mono hB.size)⟩
  all_goals
    go_enter Try.func84, Try.ntmps84
    go_wp2_with (first
      | (go_at_call 79; ((with_reducible refine ca.mono ?_); rintro en w2 ⟨rfl, hb2⟩))
      | fail)
    go_ret2
    exact ⟨rfl, hB.trans (hb2.mono hB.size)⟩
end Go.Proofs.Ytbcbknajhdaneaa
