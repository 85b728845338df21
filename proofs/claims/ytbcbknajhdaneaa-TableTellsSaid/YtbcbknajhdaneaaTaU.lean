/- What is proved: rows of rows of words; contracts of column's joined and Get. -/
import Derived.Test.YtbcbknajhdaneaaTaT
namespace Go.Proofs.Ytbcbknajhdaneaa
open Go.RowKit
set_option linter.unusedVariables false
set_option linter.unusedSimpArgs false
/-- a row of words: its slice, and what it reads -/
structure Rw where
  A : Option Addr
  n : Nat
  c : Nat
  l : List Int
deriving Inhabited
def Rw.V (x : Rw) : Value := .slice x.A x.n x.c
def rws (G : List Rw) : List Value := G.map Rw.V
theorem rws_len (G : List Rw) : (rws G).length = G.length := by unfold rws; rw [List.length_map]
theorem rws_one (G : List Rw) : ∀ u ∈ rws G, u.oneCell' = true := by
  intro u hu
  obtain ⟨x, _, rfl⟩ := List.mem_map.1 hu
  rfl
def RwOk (w : World) (B : Nat) (x : Rw) : Prop := Reads w B 1 x.A x.n (ids x.l) ∧ x.n ≤ x.c ∧ x.c ≤ maxLen ∧ ∀ y ∈ x.l, Word y
theorem RwOk.keep {w w' : World} {B : Nat} {x : Rw} (h : RwOk w B x) (hb : Below B w w') : RwOk w' B x := ⟨h.1.below hb, h.2⟩
theorem RwOk.more {w : World} {B B' : Nat} {x : Rw} (h : RwOk w B x) (hb : B ≤ B') : RwOk w B' x := ⟨h.1.more hb, h.2⟩
theorem RwOk.len {w : World} {B : Nat} {x : Rw} (h : RwOk w B x) : x.l.length = x.n := by have := h.1.1; rw [ids_len] at this; omega
theorem rws_cell {w : World} {B n : Nat} {A : Option Addr} {G : List Rw} (h : Reads w B 1 A n (rws G)) {k : Nat} {x : Rw} (hk : G[k]? = some x) :
    ∃ b off, A = some ⟨b, off, none⟩ ∧ b < B ∧ w.cell? ⟨b, off + k, none⟩ = some (.slice x.A x.n x.c) := by
  have hn : k < n := by
    have h1 := h.1
    rw [rws_len] at h1
    have := (List.getElem?_eq_some_iff.1 hk).1
    omega
  obtain ⟨ad, u, rfl, hb, hu, hc⟩ := h.at_ hn
  obtain ⟨ad', u', e, _, _, hc'⟩ := h.at_ (show 0 < n by omega)
  injection e with e
  subst e
  unfold rws at hu
  rw [List.getElem?_map, hk] at hu
  cases hu
  obtain ⟨b, off, spot⟩ := ad
  have hspot : spot = none := by simpa [Addr.add] using World.cell?_spot hc'
  subst hspot
  exact ⟨b, off, rfl, hb, by rw [add_none] at hc; exact hc⟩
theorem ids_app (a b : List Int) : ids (a ++ b) = ids a ++ ids b := by unfold ids; rw [List.map_append]
theorem flat_take {G : List Rw} {k : Nat} {x : Rw} (h : G[k]? = some x) : (G.take (k + 1)).flatMap Rw.l = (G.take k).flatMap Rw.l ++ x.l := by
  rw [take_snoc h, List.flatMap_append]; simp
theorem flat_le (G : List Rw) (k : Nat) : ((G.take k).flatMap Rw.l).length ≤ (G.flatMap Rw.l).length := by
  have h : G.flatMap Rw.l = (G.take k).flatMap Rw.l ++ (G.drop k).flatMap Rw.l := by rw [← List.flatMap_append, List.take_append_drop]
  rw [h, List.length_append]; omega
set_option maxRecDepth 100000 in
set_option maxHeartbeats 4000000 in
theorem joined_any (A : Option Addr) (n c : Nat) (G : List Rw) (w : World) (hR : Reads w w.heap.size 1 A n (rws G)) (hG : ∀ x ∈ G, RwOk w w.heap.size x) (hs : (G.flatMap Rw.l).length ≤ 8589934592) (hn : n ≤ 281474976710656) :
    Calls Try.prog 114 #[.slice A n c] w (OwnU (G.flatMap Rw.l) w) := by
  have hl : G.length = n := by have := hR.1; rw [rws_len] at this; omega
  obtain ⟨i0, hi0, hz0, hz1, hz2⟩ := info_parts info_u64
  go_enter Try.func114, Try.ntmps114
  go_wp2_with fail
  go_loopw [3, 8] (fun o i wr => ∃ k : Nat, k ≤ n ∧ i = .int .i64 k ∧ wr.ownsRow w.heap.size 26 1 o ((G.take k).flatMap Rw.l).length (ids ((G.take k).flatMap Rw.l)) ∧ Below w.heap.size w wr)
    (fun _ i _ => n - (intOf i).toNat)
  case atStart => exact ⟨0, Nat.zero_le _, rfl, World.ownsRow_nil _ _ _ _, Below.refl _ _⟩
  case round =>
    obtain ⟨k, hk, rfl, hown, hb⟩ := hrel
    by_cases hlt : k < n
    · have e1 := List.getElem?_eq_getElem (l := G) (i := k) (by omega)
      generalize G[k]'(by omega) = x at e1
      obtain ⟨b, off, rfl, hbl, g⟩ := rws_cell hR e1
      have g1 := cell_below' hb g hbl
      have hx := hG x (List.mem_of_getElem? e1)
      have hxl := hx.len
      have hxr := hx.1.below hb
      have HT := Lib.hid (flat_take e1)
      have hle := flat_le G (k + 1)
      rw [flat_take e1, List.length_append, hxl] at hle
      have HO := Lib.hid hown
      have HR := Lib.hid hxr
      have HL := Lib.hid hxl
      obtain ⟨Ao, co, rfl⟩ := own_slice hown
      generalize (G.take k).flatMap Rw.l = q at *
      obtain ⟨xA, xn, xc, xl⟩ := x
      simp only at g1 hle
      clear hR hG e1 g hx hxl hxr hown
      go_wp2_with (first
        | (at_builtin
           refine wpList_append_any _ rfl (.tmp 12) (.tmp 13) _ rfl w.heap.size 26 i0 _ 1 8 Try.underlying43 hi0 hz0 hz1 hz2 rfl (by omega) _ q.length (ids q) rfl
             ?_ w.heap.size xA xn xc (ids xl) rfl ?_ (ids_one xl) (by simp only [maxLen]; omega) (by omega) hb.size ?_
           · exact HO.out
           · exact HR.out
           intro v1 w1 hown1 hg1 hat1)
        | fail)
      have hb1 := own_grown_below hb HO.out hg1
      go_roundw
      case rel => exact ⟨k + 1, by omega, by go_num, by rw [HT.out, ids_app, List.length_append, HL.out]; exact hown1, hb1⟩
      case measure => simp [intOf]; omega
    · have : k = n := by omega
      subst this
      rw [List.take_of_length_le (by omega)] at hown
      have HO := Lib.hid hown
      obtain ⟨Ao, co, rfl⟩ := own_slice hown
      clear hR hG hown
      go_wp2_with fail
      go_ret
      exact ⟨_, rfl, HO.out, hb⟩
def getE (x : Col) (row : Int) : Int := if colB x.W x.R x.n then (if 0 ≤ row ∧ row < x.R then 0 else 2) else 180
def chunk (l : List Int) (W k : Nat) : List Int := (l.drop (k * W)).take W
def getL (x : Col) (row : Int) : List Int := if getE x row = 0 then chunk x.l x.W.toNat row.toNat else []
def GetP (x : Col) (row : Int) (w : World) (e : Ending) (w' : World) : Prop :=
  ∃ v, e = .returned (.tuple #[v, .int .i64 (getE x row)]) ∧ w'.ownsRow w.heap.size 26 1 v (getL x row).length (ids (getL x row)) ∧ Below w.heap.size w w'
theorem info_uu : (Try.prog.info? 26).map (fun i => i.size) = some 1 := by
  obtain ⟨i0, hi0, hz0, hz1, hz2⟩ := info_parts info_u64
  rw [hi0]; simp [hz1]
theorem chunk_len {l : List Int} {W k R : Nat} (hk : k < R) (hl : l.length = W * R) : (chunk l W k).length = W := by
  unfold chunk
  have h1 := rows_le (W := W) hk
  have h2 : R * W = W * R := Nat.mul_comm _ _
  have hm : (k + 1) * W = k * W + W := Nat.succ_mul k W
  rw [List.length_take, List.length_drop]
  omega
theorem atA_reads {w : World} {B n W k R : Nat} {A : Option Addr} {l : List Int} (h : Reads w B 1 A n (ids l)) (hn : n = W * R) (hk : k < R) : Reads w B 1 (atA A W k) W (ids (chunk l W k)) := by
  have hl : l.length = W * R := by have := h.1; rw [ids_len] at this; omega
  have h1 := rows_le (W := W) hk
  have h2 : R * W = W * R := Nat.mul_comm _ _
  have hm : (k + 1) * W = k * W + W := Nat.succ_mul k W
  refine ⟨by rw [ids_len, chunk_len hk hl, Nat.mul_one], fun h0 => ?_⟩
  obtain ⟨ad, rfl, hb, hc⟩ := h.2 (by omega)
  unfold atA
  rw [if_neg (by omega)]
  refine ⟨ad.add (k * W), rfl, by rw [block_of_add]; exact hb, fun j u hu => ?_⟩
  rw [add_of_add]
  refine hc _ u ?_
  unfold ids chunk at hu
  rw [List.map_take, List.map_drop, List.getElem?_take] at hu
  split at hu
  · rw [List.getElem?_drop] at hu; exact hu
  · cases hu
set_option maxRecDepth 100000 in
set_option maxHeartbeats 4000000 in
theorem cget_any (x : Col) (row : Int) (w : World) (hx : ColOk w w.heap.size x) : Calls Try.prog 82 #[x.V, .int .i64 row] w (GetP x row w) := by
  obtain ⟨hR, hc1, hc2, hw⟩ := hx
  have hl : x.l.length = x.n := by have := hR.1; rw [ids_len] at this; omega
  obtain ⟨W, R, A, n, c, l⟩ := x
  simp only at hR hc1 hc2 hw hl
  have hB := (Below.refl w.heap.size w).alloc (Nat.le_refl _) (.cells #[.int .i64 W, .int .i64 R, .slice A n c] 68)
  have c0 := new_cell w 68 #[.int .i64 W, .int .i64 R, .slice A n c] (k := 0) (v := .int .i64 W) rfl
  have c1 := new_cell w 68 #[.int .i64 W, .int .i64 R, .slice A n c] (k := 1) (v := .int .i64 R) rfl
  have c2 := new_cell w 68 #[.int .i64 W, .int .i64 R, .slice A n c] (k := 2) (v := .slice A n c) rfl
  have cc := fun (w : World) => ccheck_any W R A n c w (Nat.le_trans hc1 hc2)
  have zz := fun (w2 : World) (h : Below (w.alloc (.cells #[.int .i64 W, .int .i64 R, .slice A n c] 68)).heap.size (w.alloc (.cells #[.int .i64 W, .int .i64 R, .slice A n c] 68)) w2) =>
    And.intro (cell_below' h c0 (by simp)) (And.intro (cell_below' h c1 (by simp)) (And.intro (cell_below' h c2 (by simp)) (hB.trans (h.mono hB.size))))
  unfold colV colE at cc
  unfold Col.V colV
  simp only
  cases hcb : colB W R n
  · have hf : GetP ⟨W, R, A, n, c, l⟩ row w = fun e w' => ∃ v, e = .returned (.tuple #[v, .int .i64 180]) ∧ w'.ownsRow w.heap.size 26 1 v 0 [] ∧ Below w.heap.size w w' := by
      funext e w'
      unfold GetP getL getE
      simp only [hcb]
      rfl
    rw [hf]
    rw [hcb] at cc
    clear hf hcb hR c0 c1 c2
    go_enter Try.func82, Try.ntmps82
    go_wp2_with (first
      | (go_at_call 88; ((with_reducible refine (cc _).mono ?_); rintro e w2 ⟨rfl, hb2⟩; obtain ⟨z0, z1, z2, zb⟩ := zz _ hb2))
      | fail)
    go_ret2
    exact ⟨_, rfl, World.ownsRow_nil _ _ _ _, zb⟩
  · rw [hcb] at cc
    by_cases hrow : 0 ≤ row ∧ row < R
    · have hcb' := hcb
      unfold colB at hcb'
      obtain ⟨hW0, hW4, hR0, hR1, hn⟩ := of_decide_eq_true hcb'
      obtain ⟨Wn, rfl⟩ := Int.eq_ofNat_of_zero_le hW0
      obtain ⟨Rn, rfl⟩ := Int.eq_ofNat_of_zero_le hR0
      obtain ⟨k, rfl⟩ := Int.eq_ofNat_of_zero_le hrow.1
      have hn2 : n = Wn * Rn := by rw [← Int.natCast_mul] at hn; omega
      have hk : k < Rn := by omega
      have hch := chunk_len (l := l) hk (hl.trans hn2)
      have hf : GetP ⟨(Wn : Int), (Rn : Int), A, n, c, l⟩ (k : Int) w = fun e w' => ∃ v, e = .returned (.tuple #[v, .int .i64 0]) ∧ w'.ownsRow w.heap.size 26 1 v Wn (ids (chunk l Wn k)) ∧ Below w.heap.size w w' := by
        funext e w'
        have hg : getE ⟨(Wn : Int), (Rn : Int), A, n, c, l⟩ (k : Int) = 0 := by
          unfold getE
          simp only [hcb, if_true]
          rw [if_pos hrow]
        have hgl : getL ⟨(Wn : Int), (Rn : Int), A, n, c, l⟩ (k : Int) = chunk l Wn k := by
          unfold getL
          rw [if_pos hg]
          simp only [Int.toNat_natCast]
        unfold GetP
        rw [hg, hgl, hch]
      rw [hf]
      have ca := fun (w : World) => cat_any Wn Rn k A n c w hk (by omega) (by omega) hn2 hc1 hc2
      unfold colV at ca
      have HR := Lib.hid (fun (w2 : World) (h : Below w.heap.size w w2) => atA_reads (hR.below h) hn2 hk)
      obtain ⟨i0, hi0, hz0, hz1, hz2⟩ := info_parts info_u64
      have hmk := fun W => run_make_row (P := Try.prog) 44 26 i0 (.int .u64 0) Try.underlying44 hi0 hz0 hz1 rfl .i64 .i64 Wn (by rw [hz2]; omega) (by omega) W
      have t2 : decide (Rn ≤ k) = false := decide_eq_false (by omega)
      have hWn : Wn ≤ 4 := by omega
      have HC := Lib.hid hch
      clear hf hcb hcb' hR c0 c1 c2 hn hn2 hl hch hrow hR0 hR1 hW0 hW4
      generalize atA A Wn k = Aa at *
      generalize chunk l Wn k = ch at *
      go_enter Try.func82, Try.ntmps82
      go_wp2_with (first
        | (go_at_call 88; ((with_reducible refine (cc _).mono ?_); rintro e w2 ⟨rfl, hb2⟩; obtain ⟨z0, z1, z2, zb⟩ := zz _ hb2; have zs : w.heap.size < w2.heap.size := (by have := hb2.size; simp at this; omega); have y0 := fun o : Obj => cell_below' ((Below.refl w2.heap.size w2).alloc (Nat.le_refl _) o) z0 zs; have y1 := fun o : Obj => cell_below' ((Below.refl w2.heap.size w2).alloc (Nat.le_refl _) o) z1 zs; have y2 := fun o : Obj => cell_below' ((Below.refl w2.heap.size w2).alloc (Nat.le_refl _) o) z2 zs; have hb4 := zb.alloc zb.size (.cells (madeCells #[.int .u64 0] Wn) 26)))
        | (go_at_call 117; ((with_reducible refine (ca _).mono ?_); rintro e w3 ⟨rfl, hb3⟩))
        | (refine wpList_copy_splice rfl (.tmp 24) (.tmp 27) _ _ rfl 26 Try.underlying44 info_uu _ Aa Wn Wn Wn Wn rfl rfl w2.heap.size 0 (madeCells #[.int .u64 0] Wn).toList 26 ?_ (ids ch) ?_ ?_ ?_ (ids_one ch) w.heap.size w ?_ ?_ ?_
           · exact (hb3.block w2.heap.size (by simp)).trans (last_blk _ _)
           · rw [ids_len, HC.out]; simp
           · intro h0
             obtain ⟨ad, e, hb, hc⟩ := (HR.out _ (hb4.trans (hb3.mono hb4.size))).2 (by rw [ids_len, HC.out] at h0; exact h0)
             exact ⟨rfl, ad, e, hc⟩
           · rw [ids_len, HC.out, Array.length_toList, size_madeCells]; simp
           · exact hb4.trans (hb3.mono hb4.size)
           · exact zb.size
           intro w5 hh hb5)
        | fail)
      go_ret2
      refine ⟨_, rfl, ?_, hb5⟩
      have hh := hh.out
      refine ⟨by rw [ids_len, HC.out, Nat.mul_one], .inr ⟨w2.heap.size, Wn, _, rfl, zb.size, hh, by omega, by simp only [maxLen]; omega, ?_, ?_⟩⟩
      · rw [List.size_toArray, length_splice _ _ _ (by rw [ids_len, HC.out, Array.length_toList, size_madeCells]; simp), Array.length_toList, size_madeCells]; simp
      · rw [Nat.mul_one]
        unfold splice
        rw [List.take_zero, List.nil_append, List.take_append_of_le_length (by rw [ids_len, HC.out]; omega), List.take_of_length_le (by rw [ids_len, HC.out]; omega)]
    · have hf : GetP ⟨W, R, A, n, c, l⟩ row w = fun e w' => ∃ v, e = .returned (.tuple #[v, .int .i64 2]) ∧ w'.ownsRow w.heap.size 26 1 v 0 [] ∧ Below w.heap.size w w' := by
        funext e w'
        unfold GetP getL getE
        simp only [hcb, hrow, if_true, if_false]
        rfl
      rw [hf]
      clear hf hcb hR c0 c1 c2
      by_cases h0 : row < 0
      · go_enter Try.func82, Try.ntmps82
        go_wp2_with (first
          | (go_at_call 88; ((with_reducible refine (cc _).mono ?_); rintro e w2 ⟨rfl, hb2⟩; obtain ⟨z0, z1, z2, zb⟩ := zz _ hb2))
          | fail)
        go_ret2
        exact ⟨_, rfl, World.ownsRow_nil _ _ _ _, zb⟩
      · have t2 : decide (R ≤ row) = true := decide_eq_true (by omega)
        go_enter Try.func82, Try.ntmps82
        go_wp2_with (first
          | (go_at_call 88; ((with_reducible refine (cc _).mono ?_); rintro e w2 ⟨rfl, hb2⟩; obtain ⟨z0, z1, z2, zb⟩ := zz _ hb2))
          | fail)
        go_ret2
        exact ⟨_, rfl, World.ownsRow_nil _ _ _ _, zb⟩
end Go.Proofs.Ytbcbknajhdaneaa
