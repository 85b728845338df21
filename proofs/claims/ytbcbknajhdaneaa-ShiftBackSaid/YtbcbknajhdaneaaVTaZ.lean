/- What is proved: copying into a row of the call's own; the contract of column's Set$1. the contract of column's Swap$1. contracts of column's does, Set and Swap. -/
import Derived.Test.YtbcbknajhdaneaaVTaW
import Derived.Test.YtbcbknajhdaneaaVWords
import Derived.Deep.RegionHeld3
import Derived.Below
import Derived.Test.YtbcbknajhdaneaaVOg
import Derived.StillTailTactics
namespace Go.Proofs.Ytbcbknajhdaneaa
open Go.RowKit
set_option linter.unusedVariables false
set_option linter.unusedSimpArgs false
theorem splice_take {α : Type} (L : List α) (off n : Nat) (cs : List α) (h : off + cs.length ≤ n) (hn : n ≤ L.length) : (splice L off cs).take n = splice (L.take n) off cs := by
  unfold splice
  rw [List.take_append, List.take_append, List.take_take, List.length_take, Nat.min_eq_left (by omega : off ≤ L.length)]
  rw [Nat.min_eq_right (by omega : off ≤ n), List.take_take, Nat.min_eq_left (by omega : off ≤ n)]
  congr 1
  rw [List.take_of_length_le (by omega : cs.length ≤ n - off), List.drop_take]
  congr 2
  omega
theorem run_copy_ownrow {P : Program} {w : World} (dT sT ty elem : TypeId) (hu : P.underlying dT = some (.slice elem)) (hsz : (P.info? elem).map (·.size) = some 1) (dp sp : Option Addr) (dLen dCap sLen sCap : Nat)
    (lim : Nat) (e : TypeId) (A : Option Addr) (n c : Nat) (xs : List Value) (off : Nat) (cs : List Value) (ho : w.ownsRow lim e 1 (.slice A n c) n xs) (hn : cs.length = Nat.min sLen dLen)
    (hpos : 0 < cs.length → dp = A.map (·.add off) ∧ ∃ ad, sp = some ad ∧ ∀ j v, cs[j]? = some v → w.cell? (ad.add j) = some v) (hfit : off + cs.length ≤ n) (h1 : ∀ v ∈ cs, v.oneCell' = true) :
    ∃ w', (Builtin.copy_ #[dT, sT] ty #[.slice dp dLen dCap, .slice sp sLen sCap]).run P w = .ok (goInt cs.length) w' ∧ w'.ownsRow lim e 1 (.slice A n c) n (splice xs off cs) ∧ Below lim w w' := by
  have hxs : xs.length = n := by have := ho.1; omega
  by_cases h0 : cs.length = 0
  · obtain rfl : cs = [] := List.eq_nil_of_length_eq_zero h0
    refine ⟨w, run_copy_none (P := P) w dT sT ty elem dp sp dLen dCap sLen sCap hu hsz (by simpa using hn.symm), ?_, Below.refl _ _⟩
    have : splice xs off [] = xs := by simp [splice]
    rw [this]; exact ho
  · obtain ⟨rfl, ad, rfl, hsrc⟩ := hpos (by omega)
    rcases ho.2 with ⟨hv, hnn⟩ | ⟨g, cap, cur, hv, hb, hg, hnc, hcap, hcur, htk⟩
    · omega
    · injection hv with hA _ hc
      subst hA hc
      have hadd : (Option.map (fun x : Addr => x.add off) (some ⟨g, 0, none⟩)) = some ⟨g, off, none⟩ := by simp [add_none]
      have hrun := run_copy_row (P := P) w dT sT ty elem g off dLen dCap ad sLen sCap cur e cs hu hsz hg hn hsrc (by omega) h1
      rw [hadd]
      have e3 : cur.toList.take off ++ cs ++ cur.toList.drop (off + cs.length) = splice cur.toList off cs := by unfold splice; rw [List.append_assoc]
      rw [e3] at hrun
      refine ⟨_, hrun, ⟨by rw [length_splice _ _ _ (by omega), hxs, Nat.mul_one], .inr ⟨g, c, (splice cur.toList off cs).toArray, rfl, hb, setRow_heap w g _ _ e _ hg, hnc, hcap, ?_, ?_⟩⟩, below_setRow (Below.refl _ _) hb _⟩
      · rw [List.size_toArray, length_splice _ _ _ (by simp; omega)]; simpa using hcur
      · rw [Nat.mul_one] at htk ⊢
        show (splice cur.toList off cs).take n = _
        rw [splice_take _ _ _ _ hfit (by simp; omega), htk]
/-- a row with one value laid over -/
def setC (l : List Int) (W k : Nat) (v : List Int) : List Int := splice l (k * W) v
theorem ids_splice (l : List Int) (off : Nat) (v : List Int) : splice (ids l) off (ids v) = ids (splice l off v) := by
  unfold splice ids
  rw [List.map_append, List.map_append, List.map_take, List.map_drop, List.length_map]
end Go.Proofs.Ytbcbknajhdaneaa
namespace Go.Proofs.Ytbcbknajhdaneaa
open Go.RowKit
set_option linter.unusedVariables false
set_option linter.unusedSimpArgs false
/-- a row swapped out -/
def swapC (l : List Int) (W k r : Nat) : List Int := (splice l (k * W) (chunk l W r)).take (r * W)
/-- the address of a head that was cut -/
def headA (A : Option Addr) (m : Nat) : Option Addr := if m = 0 then A else A.map (·.add (0 * 1))
theorem run_head (A : Option Addr) (n c m : Nat) (h : m ≤ c) (w : World) :
    (Instr.slice 43 (.slice A n c) none (some (.int .i64 (m : Int))) (some (.int .i64 (m : Int)))).run Try.prog w = .ok (.slice (headA A m) m m) w := by
  obtain ⟨i0, hi0, hz0, hz1, hz2⟩ := info_parts info_u64
  rw [run_slice_hm w 43 A n c (by rw [elem_u]; exact Try.underlying43) .i64 .i64 _ _ (by omega) (by omega) (by omega), elem_u]
  have hs : (sizeOf 26).run Try.prog w = .ok 1 w := by simp [sizeOf, typeInfo, hi0, hz1]
  rw [hs]
  simp only [Result.andThen, Int.toNat_natCast]
  rfl
theorem headA_eq (A : Option Addr) (m : Nat) : headA A m = A := by
  unfold headA
  split
  · rfl
  · cases A with
    | none => rfl
    | some a => simp [Addr.add]
theorem wp_copy_ownrow {P : Program} {o : Oper} {a : Act} {w : World} {K : Act → World → Prop} {Q : Exit → Act → World → Prop} (d s : Operand) (dT sT : TypeId)
    (ho : o.op = .call { callee := .builtin .copy, args := #[d, s], argTypes := #[dT, sT] }) (elem : TypeId) (hu : P.underlying dT = some (.slice elem)) (hsz : (P.info? elem).map (·.size) = some 1)
    (dp sp : Option Addr) (dLen dCap sLen sCap : Nat) (hd : a.eval d = .slice dp dLen dCap) (hs : a.eval s = .slice sp sLen sCap)
    (lim : Nat) (e : TypeId) (A : Option Addr) (n c : Nat) (xs : List Value) (off : Nat) (cs : List Value) (hown : w.ownsRow lim e 1 (.slice A n c) n xs) (hn : cs.length = Nat.min sLen dLen)
    (hpos : 0 < cs.length → dp = A.map (·.add off) ∧ ∃ ad, sp = some ad ∧ ∀ j v, cs[j]? = some v → w.cell? (ad.add j) = some v) (hfit : off + cs.length ≤ n) (h1 : ∀ v ∈ cs, v.oneCell' = true)
    (h : ∀ w', w'.ownsRow lim e 1 (.slice A n c) n (splice xs off cs) → Below lim w w' → K (a.put o.dst (goInt cs.length)) w') : Oper.wp P o a w K Q := by
  obtain ⟨w', hrun, h2, h3⟩ := run_copy_ownrow (P := P) (w := w) dT sT o.type elem hu hsz dp sp dLen dCap sLen sCap lim e A n c xs off cs hown hn hpos hfit h1
  unfold Oper.wp
  simp [execOp, ho, resolve, invoke, builtin, hd, hs, hrun, Result.andThen]
  exact h w' h2 h3
theorem splice_mem {α : Type} {L : List α} {off : Nat} {cs : List α} {y : α} (h : y ∈ splice L off cs) : y ∈ L ∨ y ∈ cs := by
  unfold splice at h
  rcases List.mem_append.1 h with h | h
  · exact .inl (List.mem_of_mem_take h)
  · rcases List.mem_append.1 h with h | h
    · exact .inr h
    · exact .inl (List.mem_of_mem_drop h)
theorem chunk_mem {l : List Int} {W k : Nat} {y : Int} (h : y ∈ chunk l W k) : y ∈ l := List.mem_of_mem_drop (List.mem_of_mem_take h)
theorem grown_cell (w : World) (g i : Nat) (v : Value) : w.grownBy (w.setCell ⟨g, i, none⟩ v) (some g) :=
  ⟨rfl, rfl, rfl, by simp, fun k _ hk => Below.heap_setCell _ _ _ _ (fun e => hk (by rw [e]))⟩
theorem fresh_take {w : World} {lim n c m : Nat} {A : Option Addr} {l : List Int} (W R : Int) (h : w.ownsRow lim 26 1 (.slice A n c) n (ids l)) (hw : ∀ y ∈ l, Word y) (hm : m ≤ n) : ColFresh w lim ⟨W, R, A, m, m, l.take m⟩ := by
  obtain ⟨⟨hR, h1, h2, _⟩, hs⟩ := colFresh_own W R h hw
  refine ⟨⟨Reads.pre1 hR hm, Nat.le_refl _, ?_, fun y hy => hw y (List.mem_of_mem_take hy)⟩, fun h0 => ?_⟩
  · exact Nat.le_trans hm (Nat.le_trans h1 h2)
  · obtain ⟨g, cur, hA, h3, h4, h5⟩ := hs (show 0 < n from Nat.lt_of_lt_of_le h0 hm)
    exact ⟨g, cur, hA, h3, h4, fun j hj => h5 j (show j < n from Nat.lt_of_lt_of_le hj hm)⟩
set_option maxRecDepth 100000 in
set_option maxHeartbeats 8000000 in
theorem swap1_any (b0 br lim W R r k : Nat) (A : Option Addr) (n c : Nat) (l : List Int) (w : World)
    (hb0 : b0 < lim) (hbr : br < lim) (hne : br ≠ b0) (hlim : lim ≤ w.heap.size) (hk : Blk w b0 68 #[.int .i64 (W : Int), .int .i64 (R : Int), .slice A n c]) (hr : w.cell? ⟨br, 0, none⟩ = some (.int .i64 (k : Int)))
    (ho : w.ownsRow lim 26 1 (.slice A n c) n (ids l)) (hw : ∀ y ∈ l, Word y) (hRr : R = r + 1) (hkR : k < R) (hW4 : W ≤ 4) (hR1 : R ≤ 1048578) (hn : n = W * R) (hnc : n ≤ c) (hcm : c ≤ maxLen) :
    Calls Try.prog 120 #[.pointer (some ⟨b0, 0, none⟩), .pointer (some ⟨br, 0, none⟩)] w fun e w' => e = .returned (.int .i64 0) ∧
      Blk w' b0 68 #[.int .i64 (W : Int), .int .i64 (r : Int), .slice A (r * W) (r * W)] ∧ ColFresh w' lim ⟨(W : Int), (r : Int), A, r * W, r * W, swapC l W k r⟩ ∧ (∀ i, i < lim → i ≠ b0 → w'.heap[i]? = w.heap[i]?) ∧ (∀ B, B ≤ b0 → Below B w w') := by
  have hl : l.length = n := by have := ho.1; rw [ids_len] at this; omega
  have h1 := rows_le (W := W) hkR
  have h2 : R * W = W * R := Nat.mul_comm _ _
  have hm : (k + 1) * W = k * W + W := Nat.succ_mul k W
  have hrW : (r + 1) * W = r * W + W := Nat.succ_mul r W
  have hrR : r < R := by omega
  have hrn : r * W ≤ n := by have : R * W = (r + 1) * W := by rw [hRr]
                             omega
  have h4 : R * W ≤ 1048578 * 4 := Nat.mul_le_mul hR1 hW4
  have hch := chunk_len (l := l) hrR (hl.trans hn)
  have s0' : w.cell? ⟨b0, 0, none⟩ = some (.int .i64 (W : Int)) := hk.cell 0
  have s1' : w.cell? ⟨b0, 1, none⟩ = some (.int .i64 (R : Int)) := hk.cell 1
  have s2' : w.cell? ⟨b0, 2, none⟩ = some (.slice A n c) := hk.cell 2
  have s3' := hr
  have ca := fun (w : World) => cat_any W R k A n c w hkR hW4 hR1 hn hnc hcm
  have ca2 := fun (w : World) => cat_any W R r A n c w hrR hW4 hR1 hn hnc hcm
  unfold colV at ca ca2
  have hlb : b0 < w.heap.size := by omega
  have hlr : br < w.heap.size := by omega
  have e1 : IntKind.i64.wrap ((R : Int) - 1) = (r : Int) := by rw [i64_wrap (by omega)]; omega
  have e2 : IntKind.i64.wrap ((r : Int) * (W : Int)) = ((r * W : Nat) : Int) := by rw [← Int.natCast_mul, i64_wrap (by omega)]
  have hcut := run_head A n c (r * W) (by omega)
  rw [headA_eq] at hcut
  simp only [Int.natCast_mul] at hcut e2
  have HSRC := Lib.hid (fun (w2 : World) (h : w2.ownsRow lim 26 1 (.slice A n c) n (ids l)) => atA_reads (Reads.of_own h) hn hrR)
  have HCH := Lib.hid hch
  have HMUL := Lib.hid hm
  have HMUL2 := Lib.hid hrW
  have HFIT := Lib.hid (show k * W + W ≤ n by omega)
  have HO := Lib.hid ho
  have HK := Lib.hid hk
  have HRN := Lib.hid hrn
  have HLIM := Lib.hid hlim
  have HB0 := Lib.hid hb0
  have HBR := Lib.hid hbr
  have HNE := Lib.hid hne
  have HL := Lib.hid hl
  have HW := Lib.hid hw
  clear hr hk ho hl h1 h2 hm hrW hn hkR hnc hcm h4 hch hRr hrR hrn hlim hb0 hbr hne hw
  have HHS := Lib.hid (And.intro s0' (And.intro s1' (And.intro s2' s3')))
  go_enter Try.func120, Try.ntmps120
  go_wp2_with fail
  refine wp_region_held_drew (S := fun w' => w'.cell? ⟨b0, 0, none⟩ = some (.int .i64 (W : Int)) ∧ w'.cell? ⟨b0, 1, none⟩ = some (.int .i64 (R : Int)) ∧ w'.cell? ⟨b0, 2, none⟩ = some (.slice A n c) ∧ w'.cell? ⟨br, 0, none⟩ = some (.int .i64 (k : Int))) (by kernel_rfl) ⟨s0', s1', s2', s3'⟩ (fun hHeld => ?_)
  refine wpAnyH_take (i := 0) (oi := _) (v := ?_) rfl (by kernel_rfl) (by kernel_rfl) (by kernel_rfl) (fun _ _ _ h => h) (Or.inl ⟨by rfl, ?_⟩) hHeld ?_
  rotate_left
  · intro w hSw; obtain ⟨s0, s1, s2, s3⟩ := hSw; go_simp; try with_reducible rfl
  simp only [Act.put, List.getElem_toArray, List.getElem_cons_succ, List.getElem_cons_zero, List.setIfInBounds_toArray, List.set_cons_zero, List.set_cons_succ]
  refine wpAnyH_take (i := 1) (oi := _) (v := ?_) rfl (by kernel_rfl) (by kernel_rfl) (by kernel_rfl) (fun _ _ _ h => h) (Or.inl ⟨by rfl, ?_⟩) hHeld ?_
  rotate_left
  · intro w hSw; obtain ⟨s0, s1, s2, s3⟩ := hSw; go_simp; try with_reducible rfl
  simp only [Act.put, List.getElem_toArray, List.getElem_cons_succ, List.getElem_cons_zero, List.setIfInBounds_toArray, List.set_cons_zero, List.set_cons_succ]
  refine wpAnyH_take (i := 2) (oi := _) (v := ?_) rfl (by kernel_rfl) (by kernel_rfl) (by kernel_rfl) (fun _ _ _ h => h) (Or.inl ⟨by rfl, ?_⟩) hHeld ?_
  rotate_left
  · intro w hSw; obtain ⟨s0, s1, s2, s3⟩ := hSw; go_simp; try with_reducible rfl
  simp only [Act.put, List.getElem_toArray, List.getElem_cons_succ, List.getElem_cons_zero, List.setIfInBounds_toArray, List.set_cons_zero, List.set_cons_succ]
  refine wpAnyH_take (i := 3) (oi := _) (v := ?_) rfl (by kernel_rfl) (by kernel_rfl) (by kernel_rfl) (fun _ _ _ h => h) (Or.inl ⟨by rfl, ?_⟩) hHeld ?_
  rotate_left
  · intro w hSw; obtain ⟨s0, s1, s2, s3⟩ := hSw; go_simp; try with_reducible rfl
  simp only [Act.put, List.getElem_toArray, List.getElem_cons_succ, List.getElem_cons_zero, List.setIfInBounds_toArray, List.set_cons_zero, List.set_cons_succ]
  refine wpAnyH_take (i := 5) (oi := _) (v := ?_) rfl (by kernel_rfl) (by kernel_rfl) (by kernel_rfl) (fun _ _ _ h => h) (Or.inl ⟨by rfl, ?_⟩) hHeld ?_
  rotate_left
  · intro w hSw; obtain ⟨s0, s1, s2, s3⟩ := hSw; go_simp; try with_reducible rfl
  simp only [Act.put, List.getElem_toArray, List.getElem_cons_succ, List.getElem_cons_zero, List.setIfInBounds_toArray, List.set_cons_zero, List.set_cons_succ]
  refine wpAnyH_take (i := 6) (oi := _) (v := ?_) rfl (by kernel_rfl) (by kernel_rfl) (by kernel_rfl) (fun _ _ _ h => h) (Or.inl ⟨by rfl, ?_⟩) hHeld ?_
  rotate_left
  · intro w hSw; obtain ⟨s0, s1, s2, s3⟩ := hSw; go_simp; try with_reducible rfl
  simp only [Act.put, List.getElem_toArray, List.getElem_cons_succ, List.getElem_cons_zero, List.setIfInBounds_toArray, List.set_cons_zero, List.set_cons_succ]
  refine wpAnyH_take (i := 7) (oi := _) (v := ?_) rfl (by kernel_rfl) (by kernel_rfl) (by kernel_rfl) (fun _ _ _ h => h) (Or.inl ⟨by rfl, ?_⟩) hHeld ?_
  rotate_left
  · intro w hSw; obtain ⟨s0, s1, s2, s3⟩ := hSw; go_simp; try with_reducible rfl
  simp only [Act.put, List.getElem_toArray, List.getElem_cons_succ, List.getElem_cons_zero, List.setIfInBounds_toArray, List.set_cons_zero, List.set_cons_succ]
  refine wpAnyH_take (i := 8) (oi := _) (v := ?_) rfl (by kernel_rfl) (by kernel_rfl) (by kernel_rfl) (fun _ _ _ h => h) (Or.inl ⟨by rfl, ?_⟩) hHeld ?_
  rotate_left
  · intro w hSw; obtain ⟨s0, s1, s2, s3⟩ := hSw; go_simp; try with_reducible rfl
  simp only [Act.put, List.getElem_toArray, List.getElem_cons_succ, List.getElem_cons_zero, List.setIfInBounds_toArray, List.set_cons_zero, List.set_cons_succ]
  refine wpAnyH_take (i := 9) (oi := _) (v := ?_) rfl (by kernel_rfl) (by kernel_rfl) (by kernel_rfl) (fun _ _ _ h => h) (Or.inl ⟨by rfl, ?_⟩) hHeld ?_
  rotate_left
  · intro w hSw; obtain ⟨s0, s1, s2, s3⟩ := hSw; go_simp; try with_reducible rfl
  simp only [Act.put, List.getElem_toArray, List.getElem_cons_succ, List.getElem_cons_zero, List.setIfInBounds_toArray, List.set_cons_zero, List.set_cons_succ]
  refine wpAnyH_take (i := 10) (oi := _) (v := ?_) rfl (by kernel_rfl) (by kernel_rfl) (by kernel_rfl) (fun _ _ _ h => h) (Or.inl ⟨by rfl, ?_⟩) hHeld ?_
  rotate_left
  · intro w hSw; obtain ⟨s0, s1, s2, s3⟩ := hSw; go_simp; try with_reducible rfl
  simp only [Act.put, List.getElem_toArray, List.getElem_cons_succ, List.getElem_cons_zero, List.setIfInBounds_toArray, List.set_cons_zero, List.set_cons_succ]
  refine wpAnyH_take (i := 11) (oi := _) (v := ?_) rfl (by kernel_rfl) (by kernel_rfl) (by kernel_rfl) (fun _ _ _ h => h) (Or.inl ⟨by rfl, ?_⟩) hHeld ?_
  rotate_left
  · intro w hSw; obtain ⟨s0, s1, s2, s3⟩ := hSw; go_simp; try with_reducible rfl
  simp only [Act.put, List.getElem_toArray, List.getElem_cons_succ, List.getElem_cons_zero, List.setIfInBounds_toArray, List.set_cons_zero, List.set_cons_succ]
  refine wpAnyH_take (i := 12) (oi := _) (v := ?_) rfl (by kernel_rfl) (by kernel_rfl) (by kernel_rfl) (fun _ _ _ h => h) (Or.inl ⟨by rfl, ?_⟩) hHeld ?_
  rotate_left
  · intro w hSw; obtain ⟨s0, s1, s2, s3⟩ := hSw; go_simp; try with_reducible rfl
  simp only [Act.put, List.getElem_toArray, List.getElem_cons_succ, List.getElem_cons_zero, List.setIfInBounds_toArray, List.set_cons_zero, List.set_cons_succ]
  refine Og.start (fr := fun y => { tmps := #[.pointer (some ⟨b0, 0, none⟩), .pointer (some ⟨br, 0, none⟩), undef, .int .i64 0, .pointer (some ⟨b0, 0, none⟩), .pointer (some ⟨b0, 0, none⟩), .agg #[.int .i64 (W : Int), .int .i64 (R : Int), .slice A n c], .int .i64 (k : Int), y 4, .pointer (some ⟨b0, 0, none⟩), .pointer (some ⟨b0, 0, none⟩), .agg #[.int .i64 (W : Int), .int .i64 (R : Int), .slice A n c], .pointer (some ⟨b0, 0, none⟩), .pointer (some ⟨b0, 0, none⟩), .pointer (some ⟨b0, 1, none⟩), .int .i64 (R : Int), .int .i64 (r : Int), y 13, y 14, undef, undef, undef, undef, undef, undef, undef, undef, undef, undef, undef, undef, undef, undef, undef, undef, undef, undef, undef, undef, undef, undef, undef, undef, undef, undef, undef, undef, undef, undef, undef, undef, undef], defers := [] })
    (C := fun w' => Below lim w w')
    (F := fun j y w' => match j with
      | 4 => y 4 = .slice (atA A W k) W W
      | 13 => y 13 = .slice (atA A W r) W W
      | 14 => w'.ownsRow lim 26 1 (.slice A n c) n (ids (splice l (k * W) (chunk l W r)))
      | 100 => w'.ownsRow lim 26 1 (.slice A n c) n (ids l)
      | _ => True)
    { rem := [4, 13, 14], facts := [4, 13, 14, 100], needs := fun i => match i with | 14 => [4, 13, 100] | _ => [], keeps := fun i => match i with | 4 => [13, 100] | 13 => [4, 100] | _ => [4, 13], final := [14] }
    (fun _ => undef) rfl (by kernel_rfl) ?hCS ?hC (Og.All.cons ?hI Og.All.nil) (Og.Steps.cons _ rfl rfl ?st4 (Og.Steps.cons _ rfl rfl ?st13 (Og.Steps.cons _ rfl rfl ?st14 Og.Steps.nil))) ?hE
  case hCS =>
    intro w' hb
    obtain ⟨t0, t1, t2, t3⟩ := HHS.out
    exact ⟨cell_below' hb t0 HB0.out, cell_below' hb t1 HB0.out, cell_below' hb t2 HB0.out, cell_below' hb t3 HBR.out⟩
  case hC => exact (Below.refl lim w).drew
  case hI => exact HO.out
  case st4 =>
    intro y w1 hC _ K hK
    go_simp
    refine (ca _).mono ?_
    rintro e w2 ⟨rfl, hb2⟩
    have hz := hC.size
    have HL' := HLIM.out
    exact hK.out (.slice (atA A W k) W W) w2 (hC.trans (hb2.mono (by omega))) rfl (Og.All.cons (fun h => h) (Og.All.cons (fun h => own_below h hb2) Og.All.nil))
  case st13 =>
    intro y w1 hC _ K hK
    go_simp
    refine (ca2 _).mono ?_
    rintro e w2 ⟨rfl, hb2⟩
    have hz := hC.size
    have HL' := HLIM.out
    exact hK.out (.slice (atA A W r) W W) w2 (hC.trans (hb2.mono (by omega))) rfl (Og.All.cons (fun h => h) (Og.All.cons (fun h => own_below h hb2) Og.All.nil))
  case st14 =>
    intro y w1 hC hN K hK
    have h4 : y 4 = .slice (atA A W k) W W := hN.head
    have h13 : y 13 = .slice (atA A W r) W W := hN.tail.head
    have h100 : w1.ownsRow lim 26 1 (.slice A n c) n (ids l) := hN.tail.tail.head
    refine wp_copy_ownrow (.tmp 8) (.tmp 17) _ _ rfl 26 Try.underlying44 info_uu (atA A W k) (atA A W r) W W W W h4 h13 lim 26 A n c (ids l) (k * W) (ids (chunk l W r)) h100 ?_ ?_ ?_ (ids_one _) ?_
    · rw [ids_len, HCH.out]; simp
    · intro h0
      rw [ids_len, HCH.out] at h0
      obtain ⟨ad, e, _, hc⟩ := (HSRC.out w1 h100).2 h0
      refine ⟨?_, ad, e, hc⟩
      unfold atA
      rw [if_neg (by rw [HMUL.out]; omega)]
    · rw [ids_len, HCH.out]; exact HFIT.out
    intro w5 ho5 hb5
    exact hK.out _ w5 (hC.trans hb5) (by show w5.ownsRow _ _ _ _ _ _; rw [← ids_splice]; exact ho5) (Og.All.cons (fun h => h) (Og.All.cons (fun h => h) Og.All.nil))
  case hE =>
    intro y w1 hC hF
    have ho1 : w1.ownsRow lim 26 1 (.slice A n c) n (ids (splice l (k * W) (chunk l W r))) := hF.head
    have hk1 : Blk w1 b0 68 #[.int .i64 (W : Int), .int .i64 (R : Int), .slice A n c] := HK.out.below hC HB0.out
    obtain ⟨⟨q0, q1, q2⟩, qf⟩ := blk_cells3 hk1
    have qf1 := qf 1
    have qf2 := qf 2
    have HO1 := Lib.hid ho1
    have HK1 := Lib.hid hk1
    have HC1 := Lib.hid hC
    clear hF ho1 hk1 hC qf s0' s1' s2' s3' hHeld
    generalize y 4 = y4
    generalize y 13 = y13
    generalize y 14 = y14
    go_wp2_with fail
    have hk3 := HK1.out.set_ 1 (.int .i64 (r : Int))
    have hb3 : Below b0 w1 (w1.setCell ⟨b0, 1, none⟩ (.int .i64 (r : Int))) := (Below.refl _ _).setCell (p := ⟨b0, 1, none⟩) (Nat.le_refl _) _
    have ho3 := HO1.out.kept (grown_cell w1 b0 1 (.int .i64 (r : Int))) (.inr (own_blk_ne HO1.out HK1.out (by decide)))
    have hx3 : ∀ i, i ≠ b0 → (w1.setCell ⟨b0, 1, none⟩ (.int .i64 (r : Int))).heap[i]? = w1.heap[i]? := fun i hi => Below.heap_setCell _ _ _ _ (by simpa using hi)
    generalize w1.setCell ⟨b0, 1, none⟩ (.int .i64 (r : Int)) = w3 at *
    have p0 : w3.cell? ⟨b0, 0, none⟩ = some (.int .i64 (W : Int)) := hk3.cell 0
    have p1 : w3.cell? ⟨b0, 1, none⟩ = some (.int .i64 (r : Int)) := hk3.cell 1
    have p2 : w3.cell? ⟨b0, 2, none⟩ = some (.slice A n c) := hk3.cell 2
    have pf : w3.frozen? ⟨b0, 2, none⟩ = false := hk3.frozen 2
    have HK3 := Lib.hid hk3
    have HB3 := Lib.hid hb3
    have HO3 := Lib.hid ho3
    have HX3 := Lib.hid hx3
    clear hk3 hb3 ho3 hx3 q0 q1 q2 qf1 qf2
    go_still_tail 24, (by kernel_rfl)
    change wpList _ _ _ _ _ w3.drew
    have pf2 : w3.drew.frozen? ⟨b0, 2, none⟩ = false := pf
    have p22 : w3.drew.cell? ⟨b0, 2, none⟩ = some (.slice A n c) := p2
    have HB4 := Lib.hid (HB3.out.drew)
    have HK4 := Lib.hid (HK3.out.drew)
    have HO4 := Lib.hid (show w3.drew.ownsRow _ _ _ _ _ _ from HO3.out)
    have HX4 := Lib.hid (show ∀ i, i ≠ b0 → w3.drew.heap[i]? = w1.heap[i]? from HX3.out)
    generalize w3.drew = w4 at *
    clear HB3 HK3 HO3 HX3 p0 p1 p2 pf
    go_wp2_with fail
    have hk5 := HK4.out.set_ 2 (.slice A (r * W) (r * W))
    have ho5 := HO4.out.kept (grown_cell w4 b0 2 (.slice A (r * W) (r * W))) (.inr (own_blk_ne HO4.out HK4.out (by decide)))
    go_ret
    refine ⟨rfl, hk5, fresh_take (W : Int) (r : Int) ho5 (fun y hy => ?_) HRN.out, fun i hi hne => ?_, fun B hB => ?_⟩
    · rcases splice_mem hy with hy | hy
      · exact HW.out y hy
      · exact HW.out y (chunk_mem hy)
    · exact (Below.heap_setCell _ _ _ _ (by simpa using hne)).trans ((HX4.out i hne).trans (HC1.out.block i hi))
    · exact ((HC1.out.mono (Nat.le_trans hB (Nat.le_of_lt HB0.out))).trans (HB4.out.mono hB)).setCell (p := ⟨b0, 2, none⟩) hB _
end Go.Proofs.Ytbcbknajhdaneaa
namespace Go.Proofs.Ytbcbknajhdaneaa
open Go.RowKit
set_option linter.unusedVariables false
set_option linter.unusedSimpArgs false
def swpP (x : Col) (row : Int) : Int × Int × List Int := if getE x row = 0 then (x.W, x.R - 1, swapC x.l x.W.toNat row.toNat (x.R - 1).toNat) else (0, 0, [])
theorem colFresh_base {w : World} {b b' : Nat} {x : Col} (h : ColFresh w b x) (hb : b' ≤ b) : ColFresh w b' x := ⟨h.1, h.2.base hb⟩
theorem getE_ways (x : Col) (row : Int) : (colB x.W x.R x.n = false ∧ getE x row = 180) ∨ (colB x.W x.R x.n = true ∧ row < 0 ∧ getE x row = 2) ∨ (colB x.W x.R x.n = true ∧ 0 ≤ row ∧ x.R ≤ row ∧ getE x row = 2) ∨ (colB x.W x.R x.n = true ∧ 0 ≤ row ∧ row < x.R ∧ getE x row = 0) := by
  unfold getE
  cases h : colB x.W x.R x.n
  · exact .inl ⟨rfl, by simp⟩
  · by_cases h1 : row < 0
    · exact .inr (.inl ⟨rfl, h1, by simp; omega⟩)
    · by_cases h2 : x.R ≤ row
      · exact .inr (.inr (.inl ⟨rfl, by omega, h2, by simp; omega⟩))
      · exact .inr (.inr (.inr ⟨rfl, by omega, by omega, by simp; omega⟩))
theorem ints_heap {w w' : World} {base : Nat} {e : TypeId} {A : Option Addr} {n : Nat} (h : IntS w base e A n) {g : Nat} {t : TypeId} {cs : Array Value} (hk : Blk w g t cs) (hne : e ≠ t) (hb : ∀ i, i ≠ g → w'.heap[i]? = w.heap[i]?) : IntS w' base e A n := fun h0 => by
  obtain ⟨g', cur, rfl, h1, h2, h3⟩ := h h0
  refine ⟨g', cur, rfl, h1, (hb g' fun e => ?_).trans h2, h3⟩
  subst e
  unfold Blk at hk
  rw [hk] at h2
  injection h2 with h2
  injection h2 with _ h4
  exact hne h4.symm
theorem colFresh_cell {w : World} {base g i : Nat} {x : Col} {t : TypeId} {cs : Array Value} (h : ColFresh w base x) (hk : Blk w g t cs) (hne : 26 ≠ t) (v : Value) : ColFresh (w.setCell ⟨g, i, none⟩ v) base x := by
  obtain ⟨⟨hR, hc⟩, hs⟩ := h
  have hb : ∀ k, k ≠ g → (w.setCell ⟨g, i, none⟩ v).heap[k]? = w.heap[k]? := fun k hk => Below.heap_setCell _ _ _ _ (by simpa using hk)
  have hs' := ints_heap hs hk hne hb
  refine ⟨⟨⟨hR.1, fun h0 => ?_⟩, hc⟩, hs'⟩
  obtain ⟨ad, e, h1, h2⟩ := hR.2 h0
  obtain ⟨g', cur, e', h3, h4, h5⟩ := hs h0
  obtain ⟨g2, cur2, e2, _, h6, _⟩ := hs' h0
  refine ⟨ad, e, by simpa using h1, fun j u hu => ?_⟩
  rw [e'] at e; injection e with e
  rw [e'] at e2; injection e2 with e2; injection e2 with e2
  subst e2
  have hg : g' ≠ g := by
    intro hh
    subst hh
    unfold Blk at hk
    rw [hk] at h4
    injection h4 with h4
    injection h4 with _ h7
    exact hne h7.symm
  rw [← h2 j u hu]
  have hbl : (ad.add j).block = g' := by rw [block_of_add, ← e]
  exact World.cell?_setCell_other _ _ _ _ (fun ee => hg (by have h9 := congrArg Addr.block ee; rw [hbl] at h9; first | exact h9 | exact h9.symm))
theorem fresh_set3 {w : World} {base g : Nat} {x : Col} {t : TypeId} {cs : Array Value} (h : ColFresh w base x) (hk : Blk w g t cs) (hne : 26 ≠ t) (a b c : Value) :
    ColFresh (((w.setCell ⟨g, 0, none⟩ a).setCell ⟨g, 1, none⟩ b).setCell ⟨g, 2, none⟩ c) base x :=
  colFresh_cell (colFresh_cell (colFresh_cell h hk hne a) (hk.set_ 0 a) hne b) ((hk.set_ 0 a).set_ 1 b) hne c
set_option maxRecDepth 100000 in
set_option maxHeartbeats 8000000 in
theorem does_swap (x : Col) (row : Int) (br : Nat) (w : World) (hx : ColOk w w.heap.size x) (hcr : w.cell? ⟨br, 0, none⟩ = some (.int .i64 row)) (hbr : br < w.heap.size) :
    Calls Try.prog 119 #[x.V, .int .i64 row, .func (.func 120) #[] #[.pointer (some ⟨br, 0, none⟩)]] w (ColR (swpP x row) (getE x row) w) := by
  obtain ⟨hRx, hc1, hc2, hw⟩ := hx
  have hl : x.l.length = x.n := by have := hRx.1; rw [ids_len] at this; omega
  have hways := getE_ways x row
  obtain ⟨W, R, XA, n, cx, l⟩ := x
  simp only at hRx hc1 hc2 hw hl hways
  have hB := ((Below.refl w.heap.size w).alloc (Nat.le_refl _) (.cells #[.int .i64 W, .int .i64 R, .slice XA n cx] 68)).alloc (by simp) (.cells #[.int .i64 0, .int .i64 0, .slice none 0 0] 68)
  have k0 := (Blk.new w 68 #[.int .i64 W, .int .i64 R, .slice XA n cx]).alloc (.cells #[.int .i64 0, .int .i64 0, .slice none 0 0] 68)
  have k1 := Blk.new (w.alloc (.cells #[.int .i64 W, .int .i64 R, .slice XA n cx] 68)) 68 #[.int .i64 0, .int .i64 0, .slice none 0 0]
  rw [World.size_alloc] at k1
  have cc := fun (w : World) => ccheck_any W R XA n cx w (Nat.le_trans hc1 hc2)
  obtain ⟨W0, hW0⟩ : ∃ W0, W0 = (w.alloc (.cells #[.int .i64 W, .int .i64 R, .slice XA n cx] 68)).alloc (.cells #[.int .i64 0, .int .i64 0, .slice none 0 0] 68) := ⟨_, rfl⟩
  rw [← hW0] at hB k0 k1
  have c0 : W0.cell? ⟨w.heap.size, 0, none⟩ = some (.int .i64 W) := k0.cell 0
  have c1 : W0.cell? ⟨w.heap.size, 1, none⟩ = some (.int .i64 R) := k0.cell 1
  have c2 : W0.cell? ⟨w.heap.size, 2, none⟩ = some (.slice XA n cx) := k0.cell 2
  have hsz0 : W0.heap.size = w.heap.size + 2 := by rw [hW0]; simp
  have zz := fun (w2 : World) (h : Below W0.heap.size W0 w2) => And.intro (blk_below k0 h) (And.intro (blk_below k1 h) (hB.trans (h.mono hB.size)))
  have HZ := Lib.hid zz
  have HS0 := Lib.hid hsz0
  have HW := Lib.hid hW0
  clear hW0 hsz0
  unfold colV colE at cc
  unfold Col.V colV
  simp only
  have hbad : getE ⟨W, R, XA, n, cx, l⟩ row ≠ 0 → getE ⟨W, R, XA, n, cx, l⟩ row = getE ⟨W, R, XA, n, cx, l⟩ row ∧ swpP ⟨W, R, XA, n, cx, l⟩ row = (0, 0, []) := by
    intro h
    exact ⟨rfl, by unfold swpP; rw [if_neg h]⟩
  have hgood : getE ⟨W, R, XA, n, cx, l⟩ row = 0 → getE ⟨W, R, XA, n, cx, l⟩ row = 0 ∧ swpP ⟨W, R, XA, n, cx, l⟩ row = (W, R - 1, swapC l W.toNat row.toNat (R - 1).toNat) := by
    intro h
    exact ⟨h, by unfold swpP; rw [if_pos h]⟩

  rcases hways with ⟨hcb, hg⟩ | ⟨hcb, hr1, hg⟩ | ⟨hcb, hr1, hr2, hg⟩ | ⟨hcb, hr1, hr2, hg⟩
  · rw [hcb] at cc
    obtain ⟨hE, hP⟩ := hbad (by rw [hg]; decide)
    rw [hE, hP, hg]
    clear hbad hgood hE hP hg hcb
    go_enter Try.func119, Try.ntmps119
    go_upto_region 1 with fail
    rw [← HW.out]
    go_wp2_with (first
      | (go_at_call 88; ((with_reducible refine (cc _).mono ?_); rintro e w2 ⟨rfl, hb2⟩; obtain ⟨z0, y0, zb⟩ := HZ.out _ hb2; obtain ⟨⟨y0, y1, y2⟩, yf⟩ := blk_cells3 y0; have yf0 := yf 0; have yf1 := yf 1; have yf2 := yf 2; clear yf z0))
      | fail)
    refine bodyPost_ret (v := .tuple #[.agg #[.int .i64 0, .int .i64 0, .slice none 0 0], .int .i64 180]) (by simp [results, Try.results119, go_sem, *]) rfl (colR_err 180 (below_set3 zb (by omega)))
  · rw [hcb] at cc
    obtain ⟨hE, hP⟩ := hbad (by rw [hg]; decide)
    rw [hE, hP, hg]
    clear hbad hgood hE hP hg hcb
    go_enter Try.func119, Try.ntmps119
    go_upto_region 1 with fail
    rw [← HW.out]
    go_wp2_with (first
      | (go_at_call 88; ((with_reducible refine (cc _).mono ?_); rintro e w2 ⟨rfl, hb2⟩; obtain ⟨z0, y0, zb⟩ := HZ.out _ hb2; obtain ⟨⟨y0, y1, y2⟩, yf⟩ := blk_cells3 y0; have yf0 := yf 0; have yf1 := yf 1; have yf2 := yf 2; clear yf z0))
      | fail)
    refine bodyPost_ret (v := .tuple #[.agg #[.int .i64 0, .int .i64 0, .slice none 0 0], .int .i64 2]) (by simp [results, Try.results119, go_sem, *]) rfl (colR_err 2 (below_set3 zb (by omega)))
  · rw [hcb] at cc
    obtain ⟨hE, hP⟩ := hbad (by rw [hg]; decide)
    rw [hE, hP, hg]
    have hd : decide (R ≤ row) = true := decide_eq_true hr2
    clear hbad hgood hE hP hg hcb
    go_enter Try.func119, Try.ntmps119
    go_upto_region 1 with fail
    rw [← HW.out]
    go_wp2_with (first
      | (go_at_call 88; ((with_reducible refine (cc _).mono ?_); rintro e w2 ⟨rfl, hb2⟩; obtain ⟨z0, y0, zb⟩ := HZ.out _ hb2; obtain ⟨⟨z0, z1, z2⟩, zf⟩ := blk_cells3 z0; obtain ⟨⟨y0, y1, y2⟩, yf⟩ := blk_cells3 y0; have yf0 := yf 0; have yf1 := yf 1; have yf2 := yf 2; clear yf zf))
      | fail)
    refine bodyPost_ret (v := .tuple #[.agg #[.int .i64 0, .int .i64 0, .slice none 0 0], .int .i64 2]) (by simp [results, Try.results119, go_sem, *]) rfl (colR_err 2 (below_set3 zb (by omega)))
  · rw [hcb] at cc
    have hg1 := hgood hg
    have hcb' := hcb
    unfold colB at hcb'
    obtain ⟨hW0', hW4, hR0, hR1, hn'⟩ := of_decide_eq_true hcb'
    have hms := mul_small hW0' hW4 hR0 hR1
    obtain ⟨Wn, rfl⟩ := Int.eq_ofNat_of_zero_le hW0'
    obtain ⟨Rn, rfl⟩ := Int.eq_ofNat_of_zero_le hR0
    obtain ⟨k, rfl⟩ := Int.eq_ofNat_of_zero_le hr1
    have hn2 : n = Wn * Rn := by rw [← Int.natCast_mul] at hn'; omega
    have hnn : n ≤ 4194312 := by omega
    have hkR : k < Rn := by omega
    have hd : decide (Rn ≤ k) = false := decide_eq_false (by omega)
    have cj1 := fun (w2 : World) (h : Below W0.heap.size W0 w2) => joined_any (some ⟨w2.heap.size, 0, none⟩) 1 1 [⟨XA, n, cx, l⟩] (w2.alloc (.cells #[.slice XA n cx] 43)) (lit_reads _ _ _ rfl)
      (fun y hy => by rw [List.mem_singleton] at hy; subst hy; exact ⟨((hRx.below (zz w2 h).2.2).alloc (zz w2 h).2.2.size _).more (by have := (zz w2 h).2.2.size; simp; omega), hc1, hc2, hw⟩) (by simp; omega) (by omega)
    simp only [List.flatMap_cons, List.flatMap_nil, List.append_nil] at cj1
    have HL := Lib.hid hl
    have HN := Lib.hid hn2
    have HWd := Lib.hid hw
    have HG1 := Lib.hid hg1
    clear hg1 hbad hgood hg hcb hcb' hRx hB k0 k1 zz hn' hn2 hl hw hms hW0' hR0 hr1
    go_enter Try.func119, Try.ntmps119
    go_upto_region 1 with fail
    rw [← HW.out]
    go_wp2_with (first
      | (go_at_call 88; ((with_reducible refine (cc _).mono ?_); rintro e w2 ⟨rfl, hb2⟩; obtain ⟨z0, y0, zb⟩ := HZ.out _ hb2; obtain ⟨⟨z0, z1, z2⟩, zf⟩ := blk_cells3 z0; clear zf y0))
      | (go_at_call 114; ((with_reducible refine (cj1 _ hb2).mono ?_); rintro e w4 ⟨v1, rfl, ho1, hb4⟩; obtain ⟨A1, c1', rfl⟩ := own_slice ho1; have hb5 : Below W0.heap.size W0 w4 := (hb2.alloc hb2.size _).trans (hb4.mono (by have := hb2.size; simp; omega)); obtain ⟨q0, q1, q2⟩ := HZ.out _ hb5; obtain ⟨⟨x0, x1, x2⟩, xf⟩ := blk_cells3 q0; have xf2 := xf 2; clear xf))
      | fail)
    have hcap : l.length ≤ c1' ∧ c1' ≤ maxLen := by
      obtain ⟨A', c', hv', h1, h2⟩ := own_cap ho1
      injection hv' with ha hn hc
      subst ha hc
      exact ⟨h1, by unfold maxLen; exact h2⟩
    have hk5 := q0.set_ 2 (.slice A1 l.length c1')
    have hk6 := q1.far (show w.heap.size + 1 ≠ (⟨w.heap.size, 2, none⟩ : Addr).block by simp) (.slice A1 l.length c1')
    have ho5 := ho1.kept (grown_cell w4 w.heap.size 2 (.slice A1 l.length c1')) (.inr (own_blk_ne ho1 q0 (by decide)))
    have hb6 := q2.setCell (p := ⟨w.heap.size, 2, none⟩) (Nat.le_refl _) (.slice A1 l.length c1')
    have hlim : (w2.alloc (.cells #[.slice XA n cx] 43)).heap.size ≤ (w4.setCell ⟨w.heap.size, 2, none⟩ (.slice A1 l.length c1')).heap.size := by have := hb4.size; simp at this ⊢; omega
    have hlw : w.heap.size + 3 ≤ (w2.alloc (.cells #[.slice XA n cx] 43)).heap.size := by have := hb2.size; have := HS0.out; simp; omega
    generalize (w2.alloc (.cells #[.slice XA n cx] 43)).heap.size = lim at *
    generalize w4.setCell ⟨w.heap.size, 2, none⟩ (.slice A1 l.length c1') = w5 at *
    clear cj1 cc hb2 hb4 hb5 z0 z1 z2 zb q0 q1 q2 x0 x1 x2 xf2 ho1
    have hr5 := cell_below' hb6 hcr hbr
    obtain ⟨hE, hP⟩ := HG1.out
    have HE := Lib.hid hE
    have HP := Lib.hid hP
    obtain ⟨r, hr⟩ : ∃ r, Rn = r + 1 := ⟨Rn - 1, by omega⟩
    have cd := swap1_any w.heap.size br lim Wn Rn r k A1 l.length c1' l w5 (by omega) (by omega) (by omega) hlim hk5 hr5 ho5 HWd.out hr hkR (by omega) (by omega) (HL.out.trans HN.out) hcap.1 hcap.2
    have hv5l : w5.heap.size ≥ w.heap.size + 2 := by have := hk6.lt; omega
    have HR := Lib.hid hr
    clear hE hP hr5 hcr hr
    go_wp2_with (first | ((with_reducible refine cd.mono ?_); rintro e w6 ⟨rfl, hk7, hf7, hx7, hb7⟩; have hk8 : Blk w6 (w.heap.size + 1) _ _ := (hx7 (w.heap.size + 1) (by omega) (by omega)).trans hk6; obtain ⟨⟨z0, z1, z2⟩, zf⟩ := blk_cells3 hk7; obtain ⟨⟨y0, y1, y2⟩, yf⟩ := blk_cells3 hk8; have yf0 := yf 0; have yf1 := yf 1; have yf2 := yf 2; clear zf yf) | fail)

    refine bodyPost_ret (v := .tuple #[.agg #[.int .i64 (Wn : Int), .int .i64 (r : Int), .slice A1 (r * Wn) (r * Wn)], .int .i64 0]) (by simp [results, Try.results119, go_sem, *]) rfl ?_
    show ColR _ _ w _ _
    rw [HE.out, HP.out]
    refine ⟨⟨(Wn : Int), (r : Int), A1, r * Wn, r * Wn, swapC l Wn k r⟩, rfl, ?_, ?_, below_set3 (hb6.trans (hb7 _ (Nat.le_refl _))) (by omega)⟩
    · rw [HR.out]; show ((Wn : Int), (r : Int), swapC l Wn k r) = _
      have e1 : (((r + 1 : Nat) : Int) - 1) = (r : Int) := by omega
      rw [e1, Int.toNat_natCast, Int.toNat_natCast, Int.toNat_natCast]
    · exact fresh_set3 (colFresh_base hf7 (by omega)) hk8 (by decide) _ _ _
end Go.Proofs.Ytbcbknajhdaneaa
