/- What is proved: shift's Move, up to the range over what both have. -/
import Derived.Test.YtbcbknajhdaneaaVSb2
import Derived.Test.YtbcbknajhdaneaaVStop
import Derived.RangeFuncNested
import Derived.RangeFuncWrites
namespace Go.Proofs.Ytbcbknajhdaneaa
open Go.RowKit Go.Maps
set_option linter.unusedVariables false
set_option linter.unusedSimpArgs false
attribute [local go_sem] Oper.semAt_some
theorem nilRw_fresh (w : World) (base : Nat) : RwFresh w base ⟨none, 0, 0, []⟩ := colFresh_nil _ _ _ _
/-- what Move's first loop keeps -/
def MvL (f to : Tab) (row : Int) (h bv gv : Nat) (L : List (List Int)) (w W : World) : Prop :=
  (∃ G, G.map Rw.l = L ∧ CarI f to row h (h + 2) bv (h + 1) gv to.Cn to.Cn h G W) ∧ Blk W (h + 3) 82 zMov ∧ Blk W (h + 4) 32 #[.int .i64 0] ∧ Below h w W
theorem mvL_new {f to : Tab} {row : Int} {w W : World} (kf : Blk W w.heap.size 25 #[.slice f.TA f.Tn f.Tc, .slice f.CA f.Cn f.Cc, .slice f.EA f.En f.Ec]) (kt : Blk W (w.heap.size + 1) 25 #[.slice to.TA to.Tn to.Tc, .slice to.CA to.Cn to.Cc, .slice to.EA to.En to.Ec])
    (kr : Blk W (w.heap.size + 2) 3 #[.int .i64 row]) (km : Blk W (w.heap.size + 3) 82 zMov) (ke : Blk W (w.heap.size + 4) 32 #[.int .i64 0]) (hb : Below w.heap.size w W) (hn : to.Cn ≤ 65536) :
    MvL f to row w.heap.size (W.heap.size + 1) W.heap.size (List.replicate to.Cn []) w ((W.alloc (.cells (madeCells #[.slice none 0 0] to.Cn) 44)).alloc (.cells #[.slice (some ⟨W.heap.size, 0, none⟩) to.Cn to.Cn] 28)) := by
  have ho := made_own W (.slice none 0 0) 44 to.Cn to.Cn (Nat.le_refl _) (by simp only [maxLen]; omega)
  have hk := Blk.new (W.alloc (.cells (madeCells #[.slice none 0 0] to.Cn) 44)) 28 #[.slice (some ⟨W.heap.size, 0, none⟩) to.Cn to.Cn]
  rw [World.size_alloc] at hk
  have hcs : ((madeCells #[.slice none 0 0] to.Cn).toList.take to.Cn) = rws (List.replicate to.Cn ⟨none, 0, 0, []⟩) := by
    apply List.ext_getElem?
    intro i
    unfold rws madeCells
    rw [List.getElem?_take, List.getElem?_map, List.getElem?_replicate, Array.toList_map, List.getElem?_map]
    by_cases h : i < to.Cn
    · simp [h, Nat.mod_one, Rw.V]
    · simp [h]
  rw [hcs] at ho
  refine ⟨⟨List.replicate to.Cn ⟨none, 0, 0, []⟩, by rw [List.map_replicate], ⟨(kf.alloc _).alloc _, (kr.alloc _).alloc _, hk, (kt.alloc _).alloc _, (base_le ho hb.size).alloc _, fun v hv => ?_⟩⟩, (km.alloc _).alloc _, (ke.alloc _).alloc _, (hb.alloc hb.size _).alloc (by have := hb.size; simp; omega) _⟩
  rw [List.eq_of_mem_replicate hv]
  exact nilRw_fresh _ _
section
variable {f to : Tab} {row : Int} {h bv gv : Nat} {L : List (List Int)} {w W : World} (hI : MvL f to row h bv gv L w W)
include hI
theorem mvL_kf : Blk W h 25 #[.slice f.TA f.Tn f.Tc, .slice f.CA f.Cn f.Cc, .slice f.EA f.En f.Ec] := by obtain ⟨⟨_, _, hC⟩, _⟩ := hI; exact hC.kf
theorem mvL_kt : Blk W (h + 1) 25 #[.slice to.TA to.Tn to.Tc, .slice to.CA to.Cn to.Cc, .slice to.EA to.En to.Ec] := by obtain ⟨⟨_, _, hC⟩, _⟩ := hI; exact hC.kt
theorem mvL_kv : Blk W bv 28 #[.slice (some ⟨gv, 0, none⟩) to.Cn to.Cn] := by obtain ⟨⟨_, _, hC⟩, _⟩ := hI; exact hC.kv
theorem mvL_fz (k : Nat) : W.frozen? ⟨gv, k, none⟩ = false := by obtain ⟨⟨_, _, hC⟩, _⟩ := hI; exact hC.own.frozenAt k
theorem mvL_cell {k : Nat} (hk : k < to.Cn) : ∃ u, W.cell? ⟨gv, k, none⟩ = some u := by
  obtain ⟨⟨G, _, hC⟩, _⟩ := hI
  have hGl : G.length = to.Cn := by have h1 := hC.own.1; rw [rws_len] at h1; omega
  have e4 := List.getElem?_eq_getElem (l := G) (i := k) (by omega)
  obtain ⟨b5, off5, e2, _, g2⟩ := rws_cell (Reads.of_own hC.own) e4
  injection e2 with e2
  injection e2 with e2 e3
  subst e2 e3
  rw [Nat.zero_add] at g2
  exact ⟨_, g2⟩
theorem MvL.below {W' : World} (hb : Below W.heap.size W W') (hh : h ≤ w.heap.size) : MvL f to row h bv gv L w W' := by
  obtain ⟨⟨G, hG, hC⟩, km, ke, hw⟩ := hI
  exact ⟨⟨G, hG, hC.below hb⟩, blk_below km hb, blk_below ke hb, hw.trans (hb.mono (by have := hw.size; omega))⟩
end
theorem mvL_own {β : Type} {f to : Tab} {row : Int} {h bv gv B : Nat} {w : World} (g : β → List (List Int)) (hh : h ≤ w.heap.size) (hB : h ≤ B) : OwnFrom B (fun (s : β) W => MvL f to row h bv gv (g s) w W) := fun s W W' rw_ hI hg hr => by
  obtain ⟨⟨G, hG, hC⟩, km, ke, hb⟩ := hI
  have hk := KeepC.grown hg (fun r e => (hr r e).2)
  exact ⟨⟨G, hG, hC.keepC hk⟩, hk.2 _ _ _ km, hk.2 _ _ _ ke, hb.grown hg (Nat.le_trans hh hb.size) (fun k e => Nat.le_trans hB (hr k e).1)⟩
/-- behind carry -/
theorem mvL_carry {f to : Tab} {row : Int} {h bv gv k : Nat} {L : List (List Int)} {w W w6 : World} {v : Rw} {G : List Rw} (hG : G.map Rw.l = L) (hC : CarI f to row h (h + 2) bv (h + 1) gv to.Cn to.Cn h G W)
    (km : Blk W (h + 3) 82 zMov) (ke : Blk W (h + 4) 32 #[.int .i64 0]) (hb : Below h w W) (hh : h ≤ W.heap.size) (hv : RwFresh w6 h v) (h6 : Below W.heap.size W w6) :
    MvL f to row h bv gv (L.set k v.l) w (w6.setCell ⟨gv, k, none⟩ v.V) ∧ Below h W (w6.setCell ⟨gv, k, none⟩ v.V) ∧ KeepsOthers W (w6.setCell ⟨gv, k, none⟩ v.V) ∧
      (∀ (g : Nat) (t : TypeId) (cs : Array Value), 44 ≠ t → Blk W g t cs → Blk (w6.setCell ⟨gv, k, none⟩ v.V) g t cs) := by
  obtain ⟨h1, h2, h3, h4⟩ := carry_done (k := k) hC hh hv h6
  exact ⟨⟨⟨G.set k v, by rw [List.map_set, hG], h1⟩, h4 _ _ _ (by decide) km, h4 _ _ _ (by decide) ke, hb.trans h2⟩, h2, h3, h4⟩
/-- the table with the row more, in Move's cell -/
structure PuR (pt : PT) (h bn : Nat) (t' : Tab) (W X : World) : Prop where
  p : t'.p = pt
  k : Blk X bn 25 #[.slice t'.TA t'.Tn t'.Tc, .slice t'.CA t'.Cn t'.Cc, .slice t'.EA t'.En t'.Ec]
  fr : TabFresh X h t'
  b : Below W.heap.size W X
def set3 (W : World) (g : Nat) (a b c : Value) : World := ((W.setCell ⟨g, 0, none⟩ a).setCell ⟨g, 1, none⟩ b).setCell ⟨g, 2, none⟩ c
theorem puR_set {pt : PT} {h bn base : Nat} {t' : Tab} {W w2 : World} {a b c : Value} (hp : t'.p = pt) (hk : Blk w2 bn 25 #[a, b, c]) (hf : TabFresh w2 base t') (hb : Below W.heap.size W w2) (hh : h ≤ base) (hbn : W.heap.size ≤ bn) :
    PuR pt h bn t' W (set3 w2 bn (.slice t'.TA t'.Tn t'.Tc) (.slice t'.CA t'.Cn t'.Cc) (.slice t'.EA t'.En t'.Ec)) :=
  ⟨hp, by simpa [set3] using ((hk.set_ 0 (.slice t'.TA t'.Tn t'.Tc)).set_ 1 (.slice t'.CA t'.Cn t'.Cc)).set_ 2 (.slice t'.EA t'.En t'.Ec), (hf.base hh).set3 hk _ _ _, below_set3 hb hbn⟩
theorem mvL_step {f to : Tab} {row : Int} {h bv gv k W : Nat} {L : List (List Int)} {w wr w6 w7 : World} (hI : MvL f to row h bv gv L w wr) (hh : h ≤ w.heap.size) (h6 : Below wr.heap.size wr w6) (hW : W ≤ 65536)
    (e7 : w7 = w6.alloc (.cells (madeCells #[.int .u64 0] W) 26)) : MvL f to row h bv gv (L.set k (zerosL W)) w (w7.setCell ⟨gv, k, none⟩ (.slice (some ⟨w6.heap.size, 0, none⟩) W W)) := by
  obtain ⟨⟨G, hG, hC⟩, km, ke, hb⟩ := hI
  have hz := zeros_own w6 W (made_zeros W) hW
  have h67 : Below w6.heap.size w6 w7 := by rw [e7]; exact (Below.refl _ _).alloc (Nat.le_refl _) _
  rw [← e7] at hz
  have h7 := h6.trans (h67.mono h6.size)
  have hbz := hb.size
  have h6z := h6.size
  have hv : RwFresh w7 h ⟨some ⟨w6.heap.size, 0, none⟩, W, W, zerosL W⟩ := colFresh_base (rwFresh_own hz (fun y hy => by unfold zerosL at hy; rw [List.eq_of_mem_replicate hy]; exact ⟨by omega, by omega⟩)) (by omega)
  obtain ⟨h1, h2, h3, h4⟩ := carry_done (k := k) hC (by omega) hv h7
  refine ⟨⟨G.set k ⟨some ⟨w6.heap.size, 0, none⟩, W, W, zerosL W⟩, by rw [List.map_set, hG], h1⟩, h4 _ _ _ (by decide) km, h4 _ _ _ (by decide) ke, hb.trans h2⟩
theorem fill_step {α : Type} {zs : List α} {n k : Nat} {x d : α} (h : zs[k]? = some x) (hn : zs.length = n) : (zs.take k ++ List.replicate (n - k) d).set k x = zs.take (k + 1) ++ List.replicate (n - (k + 1)) d := by
  have hk := (List.getElem?_eq_some_iff.1 h).1
  have e : n - k = n - (k + 1) + 1 := by omega
  have e2 : (zs.take k).length = k := by rw [List.length_take]; omega
  rw [e, List.replicate_succ, List.set_append_right _ _ (by omega), e2, Nat.sub_self, List.set_cons_zero, take_snoc h, List.append_assoc]
  rfl
set_option maxRecDepth 100000 in
set_option maxHeartbeats 16000000 in
theorem move_main (f to : Tab) (r : Nat) (w : World) (hf : TabOk w w.heap.size f) (ht : TabOk w w.heap.size to) (sf : TabSm f) (st : TabSm to)
    (nf : f.Cn ≤ 65536 ∧ f.Tn ≤ 65536 ∧ f.En ≤ 65536) (nt : to.Cn ≤ 65536 ∧ to.Tn ≤ 65536 ∧ to.En ≤ 65535) (bf : tabB f = true) (bt : tabB to = true) (hr : r < f.es.length) :
    Calls Try.prog 50 #[f.V, to.V, .int .i64 (r : Int)] w (MovR (mvF f to r) (mvT f to r) (mvR f to r) (mvM f to r) (mvE f to r) w) := by
  obtain ⟨W0, hW0, hB, hsz, k0, k1, k2, k3, k4⟩ := five_blk w 25 25 3 82 32 #[.slice f.TA f.Tn f.Tc, .slice f.CA f.Cn f.Cc, .slice f.EA f.En f.Ec] #[.slice to.TA to.Tn to.Tc, .slice to.CA to.Cn to.Cc, .slice to.EA to.En to.Ec]
    #[.int .i64 (r : Int)] zMov #[.int .i64 0]
  have cs := fun (W : World) (h : Below W0.heap.size W0 W) => shcheck_any f to W ((hf.keep (hB.trans (h.mono hB.size))).more (hB.trans (h.mono hB.size)).size) ((ht.keep (hB.trans (h.mono hB.size))).more (hB.trans (h.mono hB.size)).size) sf st
  have hbb : (tabB f && tabB to) = true := by rw [bf, bt]; rfl
  unfold shE at cs
  rw [hbb, if_pos rfl] at cs
  obtain ⟨⟨c0, c1, c2⟩, _⟩ := blk_cells3 k0
  obtain ⟨⟨d0, d1, d2⟩, _⟩ := blk_cells3 k1
  have hlf := hf.len
  have hlt := ht.len
  have HNF := Lib.hid nf
  have HNT := Lib.hid nt
  have HLF := Lib.hid hlf
  have HBF := Lib.hid bf
  have HSTM := Lib.hid st
  have HSFM := Lib.hid sf
  have HLT := Lib.hid hlt
  have HRL := Lib.hid hr
  have hidx : ∀ (k : Nat) (y : Col), to.F[k]? = some y → ∃ W : Nat, y.W = (W : Int) ∧ W ≤ 4 ∧ (zsV to)[k]? = some (zerosL W) := fun k y hy => by
    obtain ⟨h0, h1, _⟩ := tab_col bt ht.nl hy
    refine ⟨y.W.toNat, by omega, by omega, ?_⟩
    unfold zsV
    rw [List.getElem?_map, hy]
    rfl
  have HIX := Lib.hid hidx
  have HFF := Lib.hid (tabB_parts bf).2.1
  have HTFL := Lib.hid (tabB_parts bt).2.1
  have HINJ := Lib.hid (show Inj f.ty from ((tyR_iff f.ty).1 (tabB_parts bf).1).inj)
  have hzl : (zsV to).length = to.Cn := by unfold zsV; rw [List.length_map]; exact hlt.2.1
  have HZL := Lib.hid hzl
  have HW := Lib.hid hW0
  have HTF := Lib.hid hf
  have HTT := Lib.hid ht
  have HK := Lib.hid (fun (W : World) (h : Below W0.heap.size W0 W) => And.intro (blk_below k0 h) (And.intro (blk_below k1 h) (And.intro (blk_below k2 h) (And.intro (blk_below k3 h) (And.intro (blk_below k4 h) (hB.trans (h.mono hB.size)))))))
  have HE0 := Lib.hid (show mvE f to (r : Int) = if (bothT f to).all (carOk f to r) = true then tpuE to (idAt f.es r) (gOf (mvV f to r)) else 231 from by
    unfold mvE
    rw [hbb, if_pos rfl, if_neg (by omega), Int.toNat_natCast])
  have HP0 := Lib.hid (show (MovR (mvF f to r) (mvT f to r) (mvR f to r) (mvM f to r) (mvE f to r) w) = MovR (mvF f to r) (mvT f to r) (mvR f to r) (mvM f to r) (mvE f to r) w from rfl)
  have HMF := Lib.hid (show mvF f to r = _ from rfl)
  obtain ⟨POST, hPOST⟩ : ∃ P, P = MovR (mvF f to r) (mvT f to r) (mvR f to r) (mvM f to r) (mvE f to r) w := ⟨_, rfl⟩
  rw [← hPOST]
  have HPOST := Lib.hid hPOST
  clear HP0 HMF hPOST
  have i1 : ¬ ((r : Int) < 0) := by omega
  have i2 : decide ((r : Int) < 0) = false := decide_eq_false i1
  have i3 : ¬ ((f.En : Int) ≤ (r : Int)) := by omega
  have i4 : decide ((f.En : Int) ≤ (r : Int)) = false := decide_eq_false i3
  obtain ⟨iv, hiv, hzv0, hzv1, hzv2⟩ := info_parts info_val
  obtain ⟨iu, hiu, hzu0, hzu1, hzu2⟩ := info_parts info_u64
  have hcn := nt.1
  unfold Tab.V at cs ⊢
  unfold zMov at HW
  clear hW0 hsz k0 k1 k2 k3 k4 hf ht hbb bf bt hlf hlt hr hidx hzl nf nt
  refine (callsIn_wide (n := 6)).1 ?_
  refine callsIn_of_wp_marks Try.func50 rfl trivial ?_ rfl
  simp only [Try.ntmps50, List.size_toArray, List.length_cons, List.length_nil, Nat.reduceAdd, Nat.reduceSub, Array.replicate_succ, Array.replicate_zero, List.push_toArray, List.append_toArray, List.nil_append, List.cons_append]
  refine wpIn_wide.2 ?_
  go_upto_region 1 with fail
  rw [← HW.out]
  go_upto_region 6 with (first
    | (go_at_call 98; ((with_reducible refine (cs _ (Below.refl _ _)).mono ?_); rintro en w2 ⟨rfl, hb2⟩; obtain ⟨k0, k1, k2, k3, k4, hbw⟩ := HK.out _ hb2; obtain ⟨⟨c0, c1, c2⟩, _⟩ := blk_cells3 k0; obtain ⟨⟨d0, d1, d2⟩, _⟩ := blk_cells3 k1; obtain ⟨q0, _⟩ := blk_cell1 k2; have hML := mvL_new k0 k1 k2 k3 k4 hbw hcn; have HML := Lib.hid hML; clear hML k0 k1 k2 k3 k4))
    | (refine wpList_make_row w2 rfl (.tmp 37) (.tmp 37) _ rfl 44 iv (.slice none 0 0) Try.underlying28 hiv hzv0 hzv1 rfl .i64 .i64 to.Cn rfl rfl (by rw [hzv2]; omega) (by omega) ?_)
    | fail)
  clear c0 c1 c2 d0 d1 d2 q0 hb2 hbw cs
  generalize ((w2.alloc (.cells (madeCells #[.slice none 0 0] to.Cn) 44)).alloc (.cells #[.slice (some ⟨w2.heap.size, 0, none⟩) to.Cn to.Cn] 28)) = W5 at *
  generalize w2.heap.size = gv at *
  obtain ⟨⟨d0, d1, d2⟩, _⟩ := blk_cells3 (mvL_kt HML.out)
  have hfl := HLT.out.2.1
  go_upto_region 7 with fail
  clear d0 d1 d2
  go_loopw [42] (fun i wr => ∃ k : Nat, k ≤ to.Cn ∧ i = .int .i64 k ∧ MvL f to r w.heap.size (gv + 1) gv ((zsV to).take k ++ List.replicate (to.Cn - k) []) w wr)
    (fun i _ => to.Cn - (intOf i).toNat)
  case atStart => exact ⟨0, Nat.zero_le _, rfl, by rw [List.take_zero, List.nil_append, Nat.sub_zero]; exact HML.out⟩
  case round =>
    obtain ⟨k, hk, rfl, hS⟩ := hrel
    by_cases hlt : k < to.Cn
    · have e1 := List.getElem?_eq_getElem (l := to.F) (i := k) (by omega)
      generalize to.F[k]'(by omega) = y at e1
      obtain ⟨W, hW, hW4, hz⟩ := HIX.out k y e1
      obtain ⟨b0, off0, hA, hlb, cc0⟩ := cols_cells HTT.out.cs e1
      obtain ⟨TB, hTB⟩ : ∃ Z, Z = to.CA := ⟨_, rfl⟩
      rw [← hTB]
      obtain rfl : TB = some ⟨b0, off0, none⟩ := hTB.trans hA
      obtain ⟨y0, y1, y2⟩ := cc0.below hS.2.2.2 hlb
      rw [hW] at y0
      have i1 : (k : Int) < (to.Cn : Int) := by omega
      have hfs := fill_step (d := ([] : List Int)) hz HZL.out
      have HFS := Lib.hid hfs
      have HS := Lib.hid hS
      have HTB := Lib.hid hTB
      have hmk := fun (W0 : World) => run_make_row (P := Try.prog) 44 26 iu (.int .u64 0) Try.underlying44 hiu hzu0 hzu1 rfl .i64 .i64 W (by rw [hzu2]; omega) (by omega) W0
      obtain ⟨yW, yR, yA, yn, yc, yl⟩ := y
      simp only at *
      subst hW
      clear e1 hz cc0 hfs hS hA hTB
      go_upto_region 9 with fail
      obtain ⟨w8, hw8⟩ : ∃ w8, w8 = wr.alloc (.cells #[.int .i64 (W : Int), .int .i64 yR, .slice yA yn yc] 68) := ⟨_, rfl⟩
      have hb8 : Below wr.heap.size wr w8 := by rw [hw8]; exact (Below.refl _ _).alloc (Nat.le_refl _) _
      have kc : Blk w8 wr.heap.size 68 #[.int .i64 (W : Int), .int .i64 yR, .slice yA yn yc] := by rw [hw8]; exact Blk.new wr _ _
      have hS8 := HS.out.below hb8 (Nat.le_refl _)
      obtain ⟨v0, _⟩ := blk_cell1 (mvL_kv hS8)
      have kc0 := kc.cell 0
      have HM9 := Lib.hid (fun (w9 : World) (e9 : w9 = w8.drew.alloc (.cells (madeCells #[.int .u64 0] W) 26)) => mvL_step (k := k) HS.out (Nat.le_refl _) hb8.drew (by omega) e9)
      have HC9 := Lib.hid (fun (w9 : World) (e9 : w9 = w8.drew.alloc (.cells (madeCells #[.int .u64 0] W) 26)) => show Below w8.heap.size w8 w9 from by rw [e9]; exact (Below.refl _ _).drew.alloc (Nat.le_refl _) _)
      have HS8 := Lib.hid hS8
      rw [← hw8]
      clear hw8 hb8 hS8 y0 y1 y2
      refine wp_region_noPanic ?_
      refine wp_region_stop 6 (fun b w' => match b with | true => True | false => w'.cell? ⟨gv + 1, 0, none⟩ = some (.slice (some ⟨gv, 0, none⟩) to.Cn to.Cn) ∧ w'.cell? ⟨wr.heap.size, 0, none⟩ = some (.int .i64 (W : Int))) (by kernel_rfl) ⟨v0, kc0⟩ (fun hHeld => ?_)
      refine wpAnyS_take (i := 0) (oi := _) (v := ?_) rfl (by kernel_rfl) (by kernel_rfl) (by kernel_rfl) (by kernel_rfl) (by kernel_rfl) (fun _ _ _ h => h) (Or.inl ⟨by rfl, ?_⟩) hHeld ?_
      rotate_left
      · intro w hSw; obtain ⟨s0, s1⟩ := hSw; go_simp; try with_reducible rfl
      simp only [Act.put, List.getElem_toArray, List.getElem_cons_succ, List.getElem_cons_zero, List.setIfInBounds_toArray, List.set_cons_zero, List.set_cons_succ]
      refine wpAnyS_take (i := 1) (oi := _) (v := ?_) rfl (by kernel_rfl) (by kernel_rfl) (by kernel_rfl) (by kernel_rfl) (by kernel_rfl) (fun _ _ _ h => h) (Or.inl ⟨by rfl, ?_⟩) hHeld ?_
      rotate_left
      · intro w hSw; obtain ⟨s0, s1⟩ := hSw; go_simp; try with_reducible rfl
      simp only [Act.put, List.getElem_toArray, List.getElem_cons_succ, List.getElem_cons_zero, List.setIfInBounds_toArray, List.set_cons_zero, List.set_cons_succ]
      refine wpAnyS_take (i := 2) (oi := _) (v := ?_) rfl (by kernel_rfl) (by kernel_rfl) (by kernel_rfl) (by kernel_rfl) (by kernel_rfl) (fun _ _ _ h => h) (Or.inl ⟨by rfl, ?_⟩) hHeld ?_
      rotate_left
      · intro w hSw; obtain ⟨s0, s1⟩ := hSw; go_simp; try with_reducible rfl
      simp only [Act.put, List.getElem_toArray, List.getElem_cons_succ, List.getElem_cons_zero, List.setIfInBounds_toArray, List.set_cons_zero, List.set_cons_succ]
      refine wpAnyS_take (i := 3) (oi := _) (v := ?_) rfl (by kernel_rfl) (by kernel_rfl) (by kernel_rfl) (by kernel_rfl) (by kernel_rfl) (fun _ _ _ h => h) (Or.inl ⟨by rfl, ?_⟩) hHeld ?_
      rotate_left
      · intro w hSw; obtain ⟨s0, s1⟩ := hSw; go_simp; try with_reducible rfl
      simp only [Act.put, List.getElem_toArray, List.getElem_cons_succ, List.getElem_cons_zero, List.setIfInBounds_toArray, List.set_cons_zero, List.set_cons_succ]
      refine wpAnyS_ready (rs := [4]) (by kernel_rfl) (by simp) (AllReadyS.cons false (by kernel_rfl) (o := _) rfl (fun K hK => ?_) AllReadyS.nil)
      go_simp
      try simp only [hmk, Result.andThen]
      go_simp
      obtain ⟨w9, e9⟩ : ∃ w9, w9 = (w8.alloc (.cells (madeCells #[.int .u64 0] W) 26)).drew := ⟨_, rfl⟩
      have hb9 := HC9.out w9 e9
      have hm9 := HM9.out w9 e9
      have HST := Lib.hid hm9
      have hS9 := HS8.out.below hb9 (Nat.le_refl _)
      obtain ⟨u9, hu9⟩ := mvL_cell hS9 hlt
      have hz9 := mvL_fz hS9 k
      have hl0 : gv + 1 < w8.heap.size := (mvL_kv HS8.out).lt
      have hl1 : wr.heap.size < w8.heap.size := kc.lt
      have hdz : w8.drew.heap.size = w8.heap.size := rfl
      rw [← e9]
      clear hm9 hS9 e9
      refine hK.out _ _ ⟨cell_below' hb9 v0 hl0, cell_below' hb9 kc0 hl1⟩ (fun hHeld => ?_)
      clear hK K
      try simp only [Act.put, List.getElem_toArray, List.getElem_cons_succ, List.getElem_cons_zero, List.setIfInBounds_toArray, List.set_cons_zero, List.set_cons_succ]
      refine wpAnyS_take' (i := 5) (oi := _) (v := ?_) rfl (by kernel_rfl) (by kernel_rfl) (by kernel_rfl) (by kernel_rfl) false (by kernel_rfl) (fun _ _ _ h => h) (Or.inl ⟨by rfl, ?_⟩) hHeld ?_
      rotate_left
      · intro w hSw; clear hSw; go_simp; try with_reducible rfl
      simp only [Act.put, List.getElem_toArray, List.getElem_cons_succ, List.getElem_cons_zero, List.setIfInBounds_toArray, List.set_cons_zero, List.set_cons_succ]
      refine wpAnyS_ready (rs := [6]) (by kernel_rfl) (by simp) (AllReadyS.cons true (by kernel_rfl) (o := _) rfl (fun K hK => ?_) AllReadyS.nil)
      go_simp
      refine hK.out _ _ trivial (fun hHeld => ?_)
      clear hK K
      try simp only [Act.put, List.getElem_toArray, List.getElem_cons_succ, List.getElem_cons_zero, List.setIfInBounds_toArray, List.set_cons_zero, List.set_cons_succ]
      refine wpAnyS_done (by kernel_rfl) (NoPanic.normal ?_) _
      clear hHeld v0 kc kc0 hb9 hu9 hz9 hl0 hl1
      go_wp2_with fail
      go_roundw
      case rel => exact ⟨k + 1, by omega, by go_num, by rw [← HFS.out]; exact HST.out⟩
      case measure => simp [intOf]; omega
    · have hke : k = to.Cn := by omega
      subst hke
      have e0 : (zsV to).take to.Cn ++ List.replicate (to.Cn - to.Cn) ([] : List Int) = zsV to := by rw [Nat.sub_self, List.replicate_zero, List.append_nil, List.take_of_length_le (by rw [HZL.out]; exact Nat.le_refl _)]
      rw [e0] at hS
      have HS := Lib.hid hS
      have i1 : ¬ ((to.Cn : Int) < (to.Cn : Int)) := by omega
      clear hS e0
      go_upto_region 12 with fail
      obtain ⟨w8, hw8⟩ : ∃ w8, w8 = wr.alloc (.cells #[.func (.func 99) #[] #[.pointer (some ⟨w.heap.size, 0, none⟩), .pointer (some ⟨w.heap.size + 1 + 1, 0, none⟩), .pointer (some ⟨gv + 1, 0, none⟩), .pointer (some ⟨w.heap.size + 1, 0, none⟩)]] 136) := ⟨_, rfl⟩
      have hb8 : Below wr.heap.size wr w8 := by rw [hw8]; exact (Below.refl _ _).alloc (Nat.le_refl _) _
      have kfn : Blk w8 wr.heap.size 136 #[.func (.func 99) #[] #[.pointer (some ⟨w.heap.size, 0, none⟩), .pointer (some ⟨w.heap.size + 1 + 1, 0, none⟩), .pointer (some ⟨gv + 1, 0, none⟩), .pointer (some ⟨w.heap.size + 1, 0, none⟩)]] := by rw [hw8]; exact Blk.new wr _ _
      have hS8 := HS.out.below hb8 (Nat.le_refl _)
      obtain ⟨⟨c0, c1, c2⟩, _⟩ := blk_cells3 (mvL_kf hS8)
      obtain ⟨⟨d0, d1, d2⟩, _⟩ := blk_cells3 (mvL_kt hS8)
      have cb := both_any w.heap.size f to w8 hS8.2.2.2.size (HTF.out.keep hS8.2.2.2) (HTT.out.keep hS8.2.2.2) HNF.out.2.1 HNT.out.2.1 HINJ.out
      unfold SeqB at cb
      have HS8 := Lib.hid hS8
      have HFN := Lib.hid kfn
      rw [← hw8]
      clear hw8 hb8 hS8 kfn HS HML
      unfold Tab.V at cb
      go_wp2_with (first
        | (go_at_call 100; ((with_reducible refine cb.mono ?_); rintro en w9 ⟨bf, bt, rfl, hst, hb9⟩))
        | fail)
      have hS9 := HS8.out.below hb9 (Nat.le_refl _)
      have hfn9 := blk_below HFN.out hb9
      have hz9 := hS9.2.2.2.size
      generalize wr.heap.size = bn at *
      have hbn := hfn9.lt
      clear c0 c1 c2 d0 d1 d2 hb9 HS8 HFN cb
      refine wpIn_wide (n := 6) |>.1 ?_
      refine wpIn_rangeFunc_ownG (w0 := w9) rfl (by omega) (gf := 126) (lb := #[.pointer (some ⟨bf, 0, none⟩), .pointer (some ⟨bt, 0, none⟩)]) rfl trivial (enters_of Try.func126 (by kernel_rfl) rfl)
        (hst (6 - 1) (by omega)) kpM_t (kpM_b hz9) (Below.refl _ _) (fun _ => rfl)
        (fun pre W => pre.all (carOk f to r) = true ∧ MvL f to r w.heap.size (gv + 1) gv (pre.foldl (stepV f r) (zsV to)) w W ∧ Blk W bn 136 #[.func (.func 99) #[] #[.pointer (some ⟨w.heap.size, 0, none⟩), .pointer (some ⟨w.heap.size + 1 + 1, 0, none⟩), .pointer (some ⟨gv + 1, 0, none⟩), .pointer (some ⟨w.heap.size + 1, 0, none⟩)]])
        (fun c pre W => c = .ret ∧ pre.all (carOk f to r) = false ∧ Blk W (w.heap.size + 3) 82 zMov ∧ Blk W (w.heap.size + 4) 32 #[.int .i64 231] ∧ Below w.heap.size w W)
        (OwnFrom.and (ownFrom_pure _ _) (OwnFrom.and (mvL_own _ (Nat.le_refl _) hz9) (ownFrom_blk hbn _ _)))
        (fun c => OwnFrom.and (ownFrom_pure _ _) (OwnFrom.and (ownFrom_pure _ _) (OwnFrom.and (ownFrom_blk hS9.2.1.lt _ _) (OwnFrom.and (ownFrom_blk hS9.2.2.1.lt _ _) (ownFrom_below (Nat.le_refl _) hz9)))))
        ⟨by simp, hS9, hfn9⟩ ?a1 ?assign ?body ?done ?stop
      case assign =>
        intro l x W K hK
        unfold encP
        gi_wp2
        exact hK
      case body =>
        rintro l pre x W ⟨hall, hL, hfn⟩ hlt3
        obtain ⟨⟨G, hG, hC⟩, km, ke, hbw⟩ := hL
        have hbz := hbw.size
        obtain ⟨⟨xi, xk⟩, hx1, hx2⟩ := x
        have e1 := List.getElem?_eq_getElem (l := f.F) (i := xi) (by rw [HFF.out]; exact hx1)
        generalize f.F[xi]'(by rw [HFF.out]; exact hx1) = cx at e1
        have e2 := List.getElem?_eq_getElem (l := to.F) (i := xk) (by rw [HTFL.out]; exact hx2)
        generalize to.F[xk]'(by rw [HTFL.out]; exact hx2) = cy at e2
        have hkn : xk < to.Cn := by rw [← hfl, HTFL.out]; exact hx2
        have cc := carry_any f to r w.heap.size (w.heap.size + 2) (gv + 1) (w.heap.size + 1) gv to.Cn to.Cn w.heap.size xi xk G cx cy W hC (HTF.out.keep hbw) (HTT.out.keep hbw) e1 e2 hkn hbz
        have hcar : carOk f to (r : Int) (⟨(xi, xk), hx1, hx2⟩ : PIn f.ty.length to.ty.length) = carB cx cy r := by unfold carOk; simp only [e1, e2]
        have hgl : getLi f xi (r : Int) = getL cx r := by unfold getLi; rw [e1]
        have f0 := hfn.cell 0
        have HALL := Lib.hid hall
        have HCAR := Lib.hid hcar
        have hcarry := fun (v : Rw) (w6 : World) (hv : RwFresh w6 w.heap.size v) (h6 : Below W.heap.size W w6) => mvL_carry (k := xk) hG hC km ke hbw hbz hv h6
        have HCARRY := Lib.hid hcarry
        have HGL := Lib.hid hgl
        have HFN := Lib.hid hfn
        clear hall hcar hcarry hG hC km ke hbw e1 e2 hgl hfn
        cases hcb : carB cx cy (r : Int)
        · rw [hcb] at cc
          gi_wp2_with (first
            | (refine ⟨trivial, ?_⟩; gi_at_call 99; (with_reducible refine (CallsIn.inRound l (callsIn_wide.2 cc)).mono ?_); rintro e w2 ⟨rfl, v, hvl, w6, hv, h6, rfl⟩; obtain ⟨n1, n2, n3, n4⟩ := HCARRY.out v w6 hv h6; have N1 := Lib.hid n1; have N2 := Lib.hid n2; have N3 := Lib.hid n3; obtain ⟨⟨q0, q1, q2, q3, q4, q5, q6, q7⟩, ⟨qf0, qf1, qf2, qf3, qf4, qf5, qf6, qf7⟩⟩ := blk_cells8 (show Blk _ _ _ #[_, _, _, _, _, _, _, _] from n1.2.1); obtain ⟨p0, pf⟩ := blk_cell1 n1.2.2.1; clear n1 n2 n3 n4)
            | fail)
          obtain ⟨m1, m2, m3, m4, m5⟩ := setMov_all (show Blk _ _ _ #[_, _, _, _, _, _, _, _] from N1.out.2.1) N1.out.2.2.1 (.slice none 0 0) (.slice none 0 0) (.slice none 0 0) (.slice none 0 0) (.slice none 0 0) (.slice none 0 0) (.int .i64 0) (.int .u64 0) (.int .i64 231)
          refine ⟨(N3.out.trans m3).from _, rfl, ?_, m1, m2, N1.out.2.2.2.trans (m5 _ (by omega) (by omega))⟩
          rw [List.all_append, List.all_cons, HCAR.out, hcb, Bool.false_and, Bool.and_false]
        · rw [hcb] at cc
          gi_wp2_with (first
            | (refine ⟨trivial, ?_⟩; gi_at_call 99; (with_reducible refine (CallsIn.inRound l (callsIn_wide.2 cc)).mono ?_); rintro e w2 ⟨rfl, v, hvl, w6, hv, h6, rfl⟩; obtain ⟨n1, n2, n3, n4⟩ := HCARRY.out v w6 hv h6; have N1 := Lib.hid n1; have N2 := Lib.hid n2; have N3 := Lib.hid n3; have N4 := Lib.hid n4; clear n1 n2 n3 n4)
            | fail)
          refine ⟨N3.out.from _, ⟨N2.out, N3.out.walks⟩, ?_, ?_, ?_⟩
          · rw [List.all_append, HALL.out, Bool.true_and, List.all_cons, List.all_nil, Bool.and_true, HCAR.out]; exact hcb
          · rw [List.foldl_append]
            show MvL f to r w.heap.size (gv + 1) gv ((pre.foldl (stepV f r) (zsV to)).set xk (getLi f xi r)) w _
            rw [HGL.out, ← hvl]
            exact N1.out
          · exact N4.out _ _ _ (by decide) HFN.out
      case stop =>
        rintro D c pre W hD hpre ⟨rfl, hex, hk2, hk3, hbw⟩ hK
        have hE : mvE f to (r : Int) = 231 := by
          rw [HE0.out, if_neg]
          intro hh
          rw [List.all_eq_true] at hh
          have : pre.all (carOk f to (r : Int)) = true := List.all_eq_true.2 fun x hx => hh x (hpre.subset hx)
          rw [this] at hex
          cases hex
        have hPO : POST = MovR noT noT 0 0 231 w := by
          rw [HPOST.out]
          unfold mvF mvT mvR mvM
          rw [hE, if_neg (by decide), if_neg (by decide), if_neg (by decide), if_neg (by decide)]
        have HPO := Lib.hid hPO
        have hk2' := blk_put hK (.deferred none) hk2
        have hk3' := blk_put hK (.deferred none) hk3
        obtain ⟨⟨q0, q1, q2, q3, q4, q5, q6, q7⟩, _⟩ := blk_cells8 (show Blk _ _ _ #[_, _, _, _, _, _, _, _] from hk2')
        obtain ⟨p0, _⟩ := blk_cell1 hk3'
        clear hk2 hk3 hk2' hk3' hE hPO hex
        refine wpIn_wide.2 ?_
        go_wp2
        refine ⟨by simp, .inl ⟨_, _, rfl, run_takeDeferred hK, ?_⟩⟩
        refine ⟨.tuple #[.agg #[.slice none 0 0, .slice none 0 0, .slice none 0 0, .slice none 0 0, .slice none 0 0, .slice none 0 0, .int .i64 0, .int .u64 0], .int .i64 231], by simp [results, Try.f50, go_sem, q0, q1, q2, q3, q4, q5, q6, q7, p0], ?_⟩
        show POST _ _
        rw [HPO.out]
        exact movR_nil 231 (hbw.trans (belowK_b (w := w) (Nat.le_refl _) W D _ _ (by omega) hK rfl rfl))
      case done =>
        rintro D ys' W hD rfl ⟨hall, hL, hfn⟩ hK
        obtain ⟨⟨G, hG, hC⟩, km, ke, hbw⟩ := hL
        have hbz := hbw.size
        have hD2 : D < W.heap.size := (Array.getElem?_eq_some_iff.1 hK).1
        have hGL : ∀ v ∈ G, v.l.length = v.n := fun v hv => (hC.fr v hv).ok.len
        obtain ⟨ha1, ha2⟩ := tpu_alike (t := to) (e := idAt f.es r) (G := G) (G' := gOf (mvV f to r)) (by rw [gOf_l]; exact hG) hGL (gOf_len _)
        have hE : mvE f to (r : Int) = tpuE to (idAt f.es r) G := by
          rw [HE0.out, if_pos (show (bothT f to).all (carOk f to (r : Int)) = true from hall), ← ha1]
        have e1 := idAt_of HRL.out
        generalize hwho : idAt f.es r = who at *
        have hww : Word who := HTF.out.esw who (List.mem_of_getElem? e1)
        obtain ⟨be, oe, hEA, hle, hce⟩ := ids_cell HTF.out.es e1
        have cpu := fun (W2 : World) (hb : Below W.heap.size W W2) => tpush_any to who hww (some ⟨gv, 0, none⟩) to.Cn to.Cn G W2 ((HTT.out.keep (hbw.trans (hb.mono hbz))).more (Nat.le_trans hbz hb.size)) HSTM.out ⟨HNT.out.1, HNT.out.2.1, HNT.out.2.2⟩
          (Reads.of_own (own_below hC.own hb)) (fun v hv => ((hC.fr v hv).below hb).ok) HNT.out.1
        have csw := fun (W2 : World) (hb : Below W.heap.size W W2) => tswap_any f r W2 ((HTF.out.keep (hbw.trans (hb.mono hbz))).more (Nat.le_trans hbz hb.size)) HSFM.out HNF.out
        have HSS := Lib.hid (fun (W2 : World) (hb : Below W.heap.size W W2) => And.intro (blk_below hC.kf hb) (And.intro (blk_below hC.kt hb) (And.intro (blk_below hC.kr hb) (And.intro (blk_below hC.kv hb) (And.intro (cell_below' hb (cell_below' hbw hce hle) (by omega)) (And.intro (show Blk _ _ _ #[_, _, _, _, _, _, _, _] from blk_below km hb) (And.intro (blk_below ke hb) (And.intro ((hb.block D hD2).trans hK) (hbw.trans (hb.mono hbz))))))))))
        obtain ⟨⟨⟨f0, f1, f2⟩, _⟩, ⟨⟨t0, t1, t2⟩, _⟩⟩ := And.intro (blk_cells3 hC.kf) (blk_cells3 hC.kt)
        obtain ⟨r0, _⟩ := blk_cell1 hC.kr
        obtain ⟨v0, _⟩ := blk_cell1 hC.kv
        have g0 := cell_below' hbw hce hle
        have hPE : tpuE to who G ≠ 0 → POST = MovR noT noT 0 0 (tpuE to who G) w := fun hh => by
          rw [HPOST.out]
          unfold mvF mvT mvR mvM
          rw [hE, if_neg hh, if_neg hh, if_neg hh, if_neg hh]
        have hP0 : tpuE to who G = 0 → POST = MovR (tswP f r) (tpuP to who G) (to.En : Int) (tswM f r) 0 w := fun hh => by
          rw [HPOST.out]
          unfold mvF mvT mvR mvM
          rw [hE, hh, if_pos rfl, if_pos rfl, if_pos rfl, if_pos rfl, HLT.out.2.2, Int.toNat_natCast, hwho, ha2]
        have hat : atE f (r : Int) = 0 := by
          unfold atE
          rw [if_pos HBF.out, if_pos ⟨by omega, by have := HRL.out; omega⟩]
        rw [hat] at csw
        have HPE := Lib.hid hPE
        have HP0 := Lib.hid hP0
        have hlr : (r : Int) < (f.En : Int) := by have := HRL.out; have := HLF.out; omega
        obtain ⟨TE, hTE⟩ : ∃ Z, Z = f.EA := ⟨_, rfl⟩
        have HTE := Lib.hid hTE
        rw [← hTE] at f2
        obtain rfl : TE = some ⟨be, oe, none⟩ := hTE.trans hEA
        unfold SetR at cpu
        unfold SwpR at csw
        generalize hpu : tpuP to who G = pU at *
        generalize her : tpuE to who G = er at *
        generalize tswP f r = pS at *
        generalize tswM f r = mS at *
        clear hall hG hC km ke hfn hGL ha1 ha2 hE e1 hce hPE hP0 hat hTE hEA hpu her
        unfold Tab.V at cpu csw
        have HS17 := Lib.hid (fun (W2 : World) (hb : Below W.heap.size W W2) => show (W2.cell? ⟨w.heap.size, 2, none⟩ = some (.slice (some ⟨be, oe, none⟩) f.En f.Ec) ∧ W2.cell? ⟨be, oe + r, none⟩ = some (.int .u64 who)) ∧ (W2.cell? ⟨w.heap.size + 1, 0, none⟩ = some (.slice to.TA to.Tn to.Tc) ∧ W2.cell? ⟨w.heap.size + 1, 1, none⟩ = some (.slice to.CA to.Cn to.Cc) ∧ W2.cell? ⟨w.heap.size + 1, 2, none⟩ = some (.slice to.EA to.En to.Ec)) ∧ W2.cell? ⟨w.heap.size + 1 + 1, 0, none⟩ = some (.int .i64 (r : Int)) ∧ W2.cell? ⟨gv + 1, 0, none⟩ = some (.slice (some ⟨gv, 0, none⟩) to.Cn to.Cn) from by
          obtain ⟨kf, kt, kr, kv, ge, _⟩ := HSS.out W2 hb
          have h9 := (blk_cells3 kf).1.2.2
          rw [← HTE.out] at h9
          exact ⟨⟨h9, ge⟩, (blk_cells3 kt).1, kr.cell 0, kv.cell 0⟩)
        go_upto_region 17 with fail
        refine wp_region_noPanic ?_
        refine wp_region_stop 12 (fun b w' => match b with | true => True | false => (w'.cell? ⟨w.heap.size, 2, none⟩ = some (.slice (some ⟨be, oe, none⟩) f.En f.Ec) ∧ w'.cell? ⟨be, oe + r, none⟩ = some (.int .u64 who)) ∧ (w'.cell? ⟨w.heap.size + 1, 0, none⟩ = some (.slice to.TA to.Tn to.Tc) ∧ w'.cell? ⟨w.heap.size + 1, 1, none⟩ = some (.slice to.CA to.Cn to.Cc) ∧ w'.cell? ⟨w.heap.size + 1, 2, none⟩ = some (.slice to.EA to.En to.Ec)) ∧ w'.cell? ⟨w.heap.size + 1 + 1, 0, none⟩ = some (.int .i64 (r : Int)) ∧ w'.cell? ⟨gv + 1, 0, none⟩ = some (.slice (some ⟨gv, 0, none⟩) to.Cn to.Cn)) (by kernel_rfl) ⟨⟨f2, g0⟩, ⟨t0, t1, t2⟩, r0, v0⟩ (fun hHeld => ?_)
        refine wpAnyS_take (i := 0) (oi := _) (v := ?_) rfl (by kernel_rfl) (by kernel_rfl) (by kernel_rfl) (by kernel_rfl) (by kernel_rfl) (fun _ _ _ h => h) (Or.inl ⟨by rfl, ?_⟩) hHeld ?_
        rotate_left
        · intro w hSw; obtain ⟨⟨s0, s1⟩, ⟨s2, s3, s4⟩, s5, s6⟩ := hSw; go_simp; try with_reducible rfl
        simp only [Act.put, List.getElem_toArray, List.getElem_cons_succ, List.getElem_cons_zero, List.setIfInBounds_toArray, List.set_cons_zero, List.set_cons_succ]
        refine wpAnyS_take (i := 1) (oi := _) (v := ?_) rfl (by kernel_rfl) (by kernel_rfl) (by kernel_rfl) (by kernel_rfl) (by kernel_rfl) (fun _ _ _ h => h) (Or.inl ⟨by rfl, ?_⟩) hHeld ?_
        rotate_left
        · intro w hSw; obtain ⟨⟨s0, s1⟩, ⟨s2, s3, s4⟩, s5, s6⟩ := hSw; go_simp; try with_reducible rfl
        simp only [Act.put, List.getElem_toArray, List.getElem_cons_succ, List.getElem_cons_zero, List.setIfInBounds_toArray, List.set_cons_zero, List.set_cons_succ]
        refine wpAnyS_take (i := 2) (oi := _) (v := ?_) rfl (by kernel_rfl) (by kernel_rfl) (by kernel_rfl) (by kernel_rfl) (by kernel_rfl) (fun _ _ _ h => h) (Or.inl ⟨by rfl, ?_⟩) hHeld ?_
        rotate_left
        · intro w hSw; obtain ⟨⟨s0, s1⟩, ⟨s2, s3, s4⟩, s5, s6⟩ := hSw; go_simp; try with_reducible rfl
        simp only [Act.put, List.getElem_toArray, List.getElem_cons_succ, List.getElem_cons_zero, List.setIfInBounds_toArray, List.set_cons_zero, List.set_cons_succ]
        refine wpAnyS_take (i := 3) (oi := _) (v := ?_) rfl (by kernel_rfl) (by kernel_rfl) (by kernel_rfl) (by kernel_rfl) (by kernel_rfl) (fun _ _ _ h => h) (Or.inl ⟨by rfl, ?_⟩) hHeld ?_
        rotate_left
        · intro w hSw; obtain ⟨⟨s0, s1⟩, ⟨s2, s3, s4⟩, s5, s6⟩ := hSw; go_simp; try with_reducible rfl
        simp only [Act.put, List.getElem_toArray, List.getElem_cons_succ, List.getElem_cons_zero, List.setIfInBounds_toArray, List.set_cons_zero, List.set_cons_succ]
        refine wpAnyS_take (i := 4) (oi := _) (v := ?_) rfl (by kernel_rfl) (by kernel_rfl) (by kernel_rfl) (by kernel_rfl) (by kernel_rfl) (fun _ _ _ h => h) (Or.inl ⟨by rfl, ?_⟩) hHeld ?_
        rotate_left
        · intro w hSw; obtain ⟨⟨s0, s1⟩, ⟨s2, s3, s4⟩, s5, s6⟩ := hSw; go_simp; try with_reducible rfl
        simp only [Act.put, List.getElem_toArray, List.getElem_cons_succ, List.getElem_cons_zero, List.setIfInBounds_toArray, List.set_cons_zero, List.set_cons_succ]
        refine wpAnyS_take (i := 5) (oi := _) (v := ?_) rfl (by kernel_rfl) (by kernel_rfl) (by kernel_rfl) (by kernel_rfl) (by kernel_rfl) (fun _ _ _ h => h) (Or.inl ⟨by rfl, ?_⟩) hHeld ?_
        rotate_left
        · intro w hSw; obtain ⟨⟨s0, s1⟩, ⟨s2, s3, s4⟩, s5, s6⟩ := hSw; go_simp; try with_reducible rfl
        simp only [Act.put, List.getElem_toArray, List.getElem_cons_succ, List.getElem_cons_zero, List.setIfInBounds_toArray, List.set_cons_zero, List.set_cons_succ]
        refine wpAnyS_take (i := 6) (oi := _) (v := ?_) rfl (by kernel_rfl) (by kernel_rfl) (by kernel_rfl) (by kernel_rfl) (by kernel_rfl) (fun _ _ _ h => h) (Or.inl ⟨by rfl, ?_⟩) hHeld ?_
        rotate_left
        · intro w hSw; obtain ⟨⟨s0, s1⟩, ⟨s2, s3, s4⟩, s5, s6⟩ := hSw; go_simp; try with_reducible rfl
        simp only [Act.put, List.getElem_toArray, List.getElem_cons_succ, List.getElem_cons_zero, List.setIfInBounds_toArray, List.set_cons_zero, List.set_cons_succ]
        refine wpAnyS_ready (rs := [7, 11]) (by kernel_rfl) (by simp) (AllReadyS.cons false (by kernel_rfl) (o := _) rfl (fun K hK => ?_) (AllReadyS.cons false (by kernel_rfl) (o := _) rfl (fun K hK => ?_) AllReadyS.nil))
        · skip
          have hb01 : Below W.heap.size W W.drew := (Below.refl _ _).drew
          go_simp
          refine (cpu _ hb01).mono ?_
          rintro en w2 ⟨vt, rfl, ⟨t', rfl, htp, hfr⟩, hb2⟩
          have hb02 : Below W.heap.size W w2 := hb01.trans (hb2.mono hb01.size)
          try unfold Tab.V
          refine hK.out _ _ (HS17.out _ hb02) (fun hHeld => ?_)
          clear hK K
          try simp only [Act.put, List.getElem_toArray, List.getElem_cons_succ, List.getElem_cons_zero, List.setIfInBounds_toArray, List.set_cons_zero, List.set_cons_succ]
          refine wpAnyS_take' (i := 8) (oi := _) (v := ?_) rfl (by kernel_rfl) (by kernel_rfl) (by kernel_rfl) (by kernel_rfl) false (by kernel_rfl) (fun _ _ _ h => h) (Or.inl ⟨by rfl, ?_⟩) hHeld ?_
          rotate_left
          · intro w hSw; clear hSw; go_simp; try with_reducible rfl
          simp only [Act.put, List.getElem_toArray, List.getElem_cons_succ, List.getElem_cons_zero, List.setIfInBounds_toArray, List.set_cons_zero, List.set_cons_succ]
          refine wpAnyS_take' (i := 9) (oi := _) (v := ?_) rfl (by kernel_rfl) (by kernel_rfl) (by kernel_rfl) (by kernel_rfl) false (by kernel_rfl) (fun _ _ _ h => h) (Or.inl ⟨by rfl, ?_⟩) hHeld ?_
          rotate_left
          · intro w hSw; clear hSw; go_simp; try with_reducible rfl
          simp only [Act.put, List.getElem_toArray, List.getElem_cons_succ, List.getElem_cons_zero, List.setIfInBounds_toArray, List.set_cons_zero, List.set_cons_succ]
          refine wpAnyS_take' (i := 10) (oi := _) (v := ?_) rfl (by kernel_rfl) (by kernel_rfl) (by kernel_rfl) (by kernel_rfl) false (by kernel_rfl) (fun _ _ _ h => h) (Or.inl ⟨by rfl, ?_⟩) hHeld ?_
          rotate_left
          · intro w hSw; clear hSw; go_simp; try with_reducible rfl
          simp only [Act.put, List.getElem_toArray, List.getElem_cons_succ, List.getElem_cons_zero, List.setIfInBounds_toArray, List.set_cons_zero, List.set_cons_succ]
          refine wpAnyS_ready (rs := [11]) (by kernel_rfl) (by simp) (AllReadyS.cons false (by kernel_rfl) (o := _) rfl (fun K hK => ?_) AllReadyS.nil)
          go_simp
          obtain ⟨x1, hx1⟩ : ∃ x1, x1 = w2.alloc (.cells #[.slice none 0 0, .slice none 0 0, .slice none 0 0] 25) := ⟨_, rfl⟩
          have hb21 : Below w2.heap.size w2 x1 := by rw [hx1]; exact (Below.refl _ _).alloc (Nat.le_refl _) _
          have hkb : Blk x1 w2.heap.size 25 #[.slice none 0 0, .slice none 0 0, .slice none 0 0] := by rw [hx1]; exact Blk.new w2 _ _
          have hfrb := hfr.below hb21
          have hbb := hb02.trans (hb21.mono hb02.size)
          have hz01 := hb02.size
          have hz00 : W.drew.heap.size = W.heap.size := rfl
          rw [← hx1]
          generalize w2.heap.size = bn at *
          obtain ⟨⟨z0, z1, z2⟩, zf⟩ := blk_cells3 hkb
          have zf0 := zf 0
          have zf1 := zf 1
          have zf2 := zf 2
          clear hx1 zf
          refine hK.out _ _ (HS17.out _ hbb) (fun hHeld => ?_)
          clear hK K
          try simp only [Act.put, List.getElem_toArray, List.getElem_cons_succ, List.getElem_cons_zero, List.setIfInBounds_toArray, List.set_cons_zero, List.set_cons_succ]
          refine wpAnyS_ready (rs := [12]) (by kernel_rfl) (by simp) (AllReadyS.cons true (by kernel_rfl) (o := _) rfl (fun K hK => ?_) AllReadyS.nil)
          go_simp
          refine hK.out _ _ trivial (fun hHeld => ?_)
          clear hK K
          try simp only [Act.put, List.getElem_toArray, List.getElem_cons_succ, List.getElem_cons_zero, List.setIfInBounds_toArray, List.set_cons_zero, List.set_cons_succ]
          refine wpAnyS_take' (i := 13) (oi := _) (v := ?_) rfl (by kernel_rfl) (by kernel_rfl) (by kernel_rfl) (by kernel_rfl) true (by kernel_rfl) (fun _ _ _ h => h) (Or.inl ⟨by rfl, ?_⟩) hHeld ?_
          rotate_left
          · intro w hSw; clear hSw; go_simp; try with_reducible rfl
          simp only [Act.put, List.getElem_toArray, List.getElem_cons_succ, List.getElem_cons_zero, List.setIfInBounds_toArray, List.set_cons_zero, List.set_cons_succ]
          obtain ⟨X, hX⟩ : ∃ X, X = set3 x1 bn (.slice t'.TA t'.Tn t'.Tc) (.slice t'.CA t'.Cn t'.Cc) (.slice t'.EA t'.En t'.Ec) := ⟨_, rfl⟩
          have hPu : PuR pU w.heap.size bn t' W X := by rw [hX]; exact puR_set htp hkb hfrb hbb (by omega) (by omega)
          unfold set3 at hX
          refine wpAnyS_done (by kernel_rfl) (NoPanic.normal ?_) _
          rw [← hX]

          clear hX hHeld cpu f0 f1 f2 t0 t1 t2 r0 v0 g0 HS17
          obtain ⟨kf, kt, kr, kv, ge, km, ke, hKX, hbX⟩ := HSS.out X hPu.b
          obtain ⟨⟨q0, q1, q2, q3, q4, q5, q6, q7⟩, ⟨qf0, qf1, qf2, qf3, qf4, qf5, qf6, qf7⟩⟩ := blk_cells8 km
          obtain ⟨p0, pf⟩ := blk_cell1 ke
          have KM := Lib.hid km
          have KE := Lib.hid ke
          have HKX := Lib.hid hKX
          have HBX := Lib.hid hbX
          have HPU := Lib.hid hPu
          by_cases her0 : er = 0
          · subst her0
            have HPO := Lib.hid (HP0.out rfl)
            obtain ⟨⟨f0, f1, f2⟩, _⟩ := blk_cells3 kf
            obtain ⟨r0, _⟩ := blk_cell1 kr
            have hcs := csw X hPu.b
            have HKT := Lib.hid kt
            clear kf kt kr kv ge km ke hKX hbX hPu csw HPE HP0 q0 q1 q2 q3 q4 q5 q6 q7 qf0 qf1 qf2 qf3 qf4 qf5 qf6 qf7 p0 pf
            go_upto_region 21 with (first
              | (go_at_call 33; ((with_reducible refine hcs.mono ?_); rintro en w3 ⟨vl, rfl, ⟨tl, rfl, hlp, hlf⟩, hb3⟩; (try unfold Tab.V)))
              | fail)
            obtain ⟨x3, hx3⟩ : ∃ x3, x3 = w3.alloc (.cells #[.slice tl.TA tl.Tn tl.Tc, .slice tl.CA tl.Cn tl.Cc, .slice tl.EA tl.En tl.Ec] 25) := ⟨_, rfl⟩
            have hb3' : Below X.heap.size X x3 := by rw [hx3]; exact hb3.alloc hb3.size _
            have hkl : Blk x3 w3.heap.size 25 #[.slice tl.TA tl.Tn tl.Tc, .slice tl.CA tl.Cn tl.Cc, .slice tl.EA tl.En tl.Ec] := by rw [hx3]; exact Blk.new w3 _ _
            have hlf3 : TabFresh x3 X.heap.size tl := by rw [hx3]; exact hlf.below ((Below.refl _ _).alloc (Nat.le_refl _) _)
            rw [← hx3]
            obtain ⟨⟨l0, l1, l2⟩, _⟩ := blk_cells3 hkl
            obtain ⟨⟨n0, n1, n2⟩, _⟩ := blk_cells3 (blk_below HPU.out.k hb3')
            obtain ⟨⟨t0, t1, t2⟩, _⟩ := blk_cells3 (blk_below HKT.out hb3')
            have km := blk_below KM.out hb3'
            have ke := blk_below KE.out hb3'
            obtain ⟨⟨q0, q1, q2, q3, q4, q5, q6, q7⟩, ⟨qf0, qf1, qf2, qf3, qf4, qf5, qf6, qf7⟩⟩ := blk_cells8 km
            obtain ⟨p0, pf⟩ := blk_cell1 ke
            have HLF := Lib.hid hlf3
            have HLP := Lib.hid hlp
            have hDX : D < X.heap.size := (Array.getElem?_eq_some_iff.1 HKX.out).1
            have hK3 := (hb3'.block D hDX).trans HKX.out
            have HK3 := Lib.hid hK3
            have HB3 := Lib.hid hb3'
            have KM3 := Lib.hid km
            have KE3 := Lib.hid ke
            clear hx3 hb3' hkl hlf3 km ke hlf hlp hb3 hK3 f0 f1 f2 r0 hcs
            generalize w3.heap.size = bl at *
            clear hDX
            go_wp2
            obtain ⟨m1, m2, m3, m4, m5⟩ := setMov_all KM3.out KE3.out (.slice tl.TA tl.Tn tl.Tc) (.slice tl.CA tl.Cn tl.Cc) (.slice tl.EA tl.En tl.Ec) (.slice t'.TA t'.Tn t'.Tc) (.slice t'.CA t'.Cn t'.Cc) (.slice t'.EA t'.En t'.Ec) (.int .i64 (to.En : Int)) (.int .u64 mS) (.int .i64 0)
            have hK' := m3.same D _ HK3.out rfl
            have hk2' := blk_put hK' (.deferred none) m1
            have hk3' := blk_put hK' (.deferred none) m2
            obtain ⟨⟨y0, y1, y2, y3, y4, y5, y6, y7⟩, _⟩ := blk_cells8 hk2'
            obtain ⟨y8, _⟩ := blk_cell1 hk3'
            unfold setMov set8 at y0 y1 y2 y3 y4 y5 y6 y7 y8
            refine ⟨by simp, .inl ⟨_, _, rfl, run_takeDeferred hK', ?_⟩⟩
            refine ⟨.tuple #[.agg #[.slice tl.TA tl.Tn tl.Tc, .slice tl.CA tl.Cn tl.Cc, .slice tl.EA tl.En tl.Ec, .slice t'.TA t'.Tn t'.Tc, .slice t'.CA t'.Cn t'.Cc, .slice t'.EA t'.En t'.Ec, .int .i64 (to.En : Int), .int .u64 mS], .int .i64 0], by simp [results, Try.f50, go_sem, y0, y1, y2, y3, y4, y5, y6, y7, y8], ?_⟩
            show POST _ _
            rw [HPO.out]
            have hkt := (KeepT.below HB3.out).trans (m4.trans (KeepC.put hK' (.deferred none)).t)
            have hXz := HBX.out.size
            have hXw := HPU.out.b.size
            exact ⟨tl, t', X, rfl, HLP.out, HPU.out.p, HPU.out.fr, HBX.out, hkt, HLF.out.keep (m4.trans (KeepC.put hK' (.deferred none)).t), ((HBX.out.trans (HB3.out.mono hXz)).trans (m5 _ (by omega) (by omega))).trans (belowK_b (w := w) (Nat.le_refl _) _ D _ _ (by omega) hK' rfl rfl)⟩
          · have d1 : (er != 0) = true := by simpa using her0
            have HPO := Lib.hid (HPE.out her0)
            clear kf kt kr kv ge km ke hKX hbX hPu csw HPE HP0 her0
            go_wp2
            obtain ⟨m1, m2, m3, m4, m5⟩ := setMov_all KM.out KE.out (.slice none 0 0) (.slice none 0 0) (.slice none 0 0) (.slice none 0 0) (.slice none 0 0) (.slice none 0 0) (.int .i64 0) (.int .u64 0) (.int .i64 er)
            have hK' := m3.same D _ HKX.out rfl
            have hk2' := blk_put hK' (.deferred none) m1
            have hk3' := blk_put hK' (.deferred none) m2
            obtain ⟨⟨y0, y1, y2, y3, y4, y5, y6, y7⟩, _⟩ := blk_cells8 hk2'
            obtain ⟨y8, _⟩ := blk_cell1 hk3'
            unfold setMov set8 at y0 y1 y2 y3 y4 y5 y6 y7 y8
            refine ⟨by simp, .inl ⟨_, _, rfl, run_takeDeferred hK', ?_⟩⟩
            refine ⟨.tuple #[.agg #[.slice none 0 0, .slice none 0 0, .slice none 0 0, .slice none 0 0, .slice none 0 0, .slice none 0 0, .int .i64 0, .int .u64 0], .int .i64 er], by simp [results, Try.f50, go_sem, y0, y1, y2, y3, y4, y5, y6, y7, y8], ?_⟩
            show POST _ _
            rw [HPO.out]
            exact movR_nil er ((HBX.out.trans (m5 _ (by omega) (by omega))).trans (belowK_b (w := w) (Nat.le_refl _) _ D _ _ (by omega) hK' rfl rfl))

        · skip
          go_simp
          obtain ⟨x1, hx1⟩ : ∃ x1, x1 = (W.alloc (.cells #[.slice none 0 0, .slice none 0 0, .slice none 0 0] 25)).drew := ⟨_, rfl⟩
          have hb01 : Below W.heap.size W x1 := by rw [hx1]; exact ((Below.refl _ _).alloc (Nat.le_refl _) _).drew
          have hk1 : Blk x1 W.heap.size 25 #[.slice none 0 0, .slice none 0 0, .slice none 0 0] := by rw [hx1]; exact Blk.new W _ _
          rw [← hx1]
          refine hK.out _ _ (HS17.out _ hb01) (fun hHeld => ?_)
          clear hK K hx1
          try simp only [Act.put, List.getElem_toArray, List.getElem_cons_succ, List.getElem_cons_zero, List.setIfInBounds_toArray, List.set_cons_zero, List.set_cons_succ]
          refine wpAnyS_ready (rs := [7]) (by kernel_rfl) (by simp) (AllReadyS.cons false (by kernel_rfl) (o := _) rfl (fun K hK => ?_) AllReadyS.nil)
          go_simp
          refine (cpu _ hb01).mono ?_
          rintro en w2 ⟨vt, rfl, ⟨t', rfl, htp, hfr⟩, hb2⟩
          have hb02 : Below W.heap.size W w2 := hb01.trans (hb2.mono hb01.size)
          try unfold Tab.V
          have hkb := blk_below hk1 hb2
          have hfrb := hfr
          have hbb := hb02
          have hz01 := hb01.size
          obtain ⟨bn, hbn⟩ : ∃ bn, bn = W.heap.size := ⟨_, rfl⟩
          have hbn2 : W.heap.size ≤ bn := by omega
          rw [← hbn] at hkb
          rw [← hbn]
          obtain ⟨⟨z0, z1, z2⟩, zf⟩ := blk_cells3 hkb
          have zf0 := zf 0
          have zf1 := zf 1
          have zf2 := zf 2
          clear zf hbn
          refine hK.out _ _ (HS17.out _ hb02) (fun hHeld => ?_)
          clear hK K
          try simp only [Act.put, List.getElem_toArray, List.getElem_cons_succ, List.getElem_cons_zero, List.setIfInBounds_toArray, List.set_cons_zero, List.set_cons_succ]
          refine wpAnyS_take' (i := 8) (oi := _) (v := ?_) rfl (by kernel_rfl) (by kernel_rfl) (by kernel_rfl) (by kernel_rfl) false (by kernel_rfl) (fun _ _ _ h => h) (Or.inl ⟨by rfl, ?_⟩) hHeld ?_
          rotate_left
          · intro w hSw; clear hSw; go_simp; try with_reducible rfl
          simp only [Act.put, List.getElem_toArray, List.getElem_cons_succ, List.getElem_cons_zero, List.setIfInBounds_toArray, List.set_cons_zero, List.set_cons_succ]
          refine wpAnyS_take' (i := 9) (oi := _) (v := ?_) rfl (by kernel_rfl) (by kernel_rfl) (by kernel_rfl) (by kernel_rfl) false (by kernel_rfl) (fun _ _ _ h => h) (Or.inl ⟨by rfl, ?_⟩) hHeld ?_
          rotate_left
          · intro w hSw; clear hSw; go_simp; try with_reducible rfl
          simp only [Act.put, List.getElem_toArray, List.getElem_cons_succ, List.getElem_cons_zero, List.setIfInBounds_toArray, List.set_cons_zero, List.set_cons_succ]
          refine wpAnyS_take' (i := 10) (oi := _) (v := ?_) rfl (by kernel_rfl) (by kernel_rfl) (by kernel_rfl) (by kernel_rfl) false (by kernel_rfl) (fun _ _ _ h => h) (Or.inl ⟨by rfl, ?_⟩) hHeld ?_
          rotate_left
          · intro w hSw; clear hSw; go_simp; try with_reducible rfl
          simp only [Act.put, List.getElem_toArray, List.getElem_cons_succ, List.getElem_cons_zero, List.setIfInBounds_toArray, List.set_cons_zero, List.set_cons_succ]
          refine wpAnyS_ready (rs := [12]) (by kernel_rfl) (by simp) (AllReadyS.cons true (by kernel_rfl) (o := _) rfl (fun K hK => ?_) AllReadyS.nil)
          go_simp
          refine hK.out _ _ trivial (fun hHeld => ?_)
          clear hK K
          try simp only [Act.put, List.getElem_toArray, List.getElem_cons_succ, List.getElem_cons_zero, List.setIfInBounds_toArray, List.set_cons_zero, List.set_cons_succ]
          refine wpAnyS_take' (i := 13) (oi := _) (v := ?_) rfl (by kernel_rfl) (by kernel_rfl) (by kernel_rfl) (by kernel_rfl) true (by kernel_rfl) (fun _ _ _ h => h) (Or.inl ⟨by rfl, ?_⟩) hHeld ?_
          rotate_left
          · intro w hSw; clear hSw; go_simp; try with_reducible rfl
          simp only [Act.put, List.getElem_toArray, List.getElem_cons_succ, List.getElem_cons_zero, List.setIfInBounds_toArray, List.set_cons_zero, List.set_cons_succ]
          obtain ⟨X, hX⟩ : ∃ X, X = set3 w2 bn (.slice t'.TA t'.Tn t'.Tc) (.slice t'.CA t'.Cn t'.Cc) (.slice t'.EA t'.En t'.Ec) := ⟨_, rfl⟩
          have hPu : PuR pU w.heap.size bn t' W X := by rw [hX]; exact puR_set htp hkb hfrb hbb (by omega) (by omega)
          unfold set3 at hX
          refine wpAnyS_done (by kernel_rfl) (NoPanic.normal ?_) _
          rw [← hX]

          clear hX hHeld cpu f0 f1 f2 t0 t1 t2 r0 v0 g0 HS17
          obtain ⟨kf, kt, kr, kv, ge, km, ke, hKX, hbX⟩ := HSS.out X hPu.b
          obtain ⟨⟨q0, q1, q2, q3, q4, q5, q6, q7⟩, ⟨qf0, qf1, qf2, qf3, qf4, qf5, qf6, qf7⟩⟩ := blk_cells8 km
          obtain ⟨p0, pf⟩ := blk_cell1 ke
          have KM := Lib.hid km
          have KE := Lib.hid ke
          have HKX := Lib.hid hKX
          have HBX := Lib.hid hbX
          have HPU := Lib.hid hPu
          by_cases her0 : er = 0
          · subst her0
            have HPO := Lib.hid (HP0.out rfl)
            obtain ⟨⟨f0, f1, f2⟩, _⟩ := blk_cells3 kf
            obtain ⟨r0, _⟩ := blk_cell1 kr
            have hcs := csw X hPu.b
            have HKT := Lib.hid kt
            clear kf kt kr kv ge km ke hKX hbX hPu csw HPE HP0 q0 q1 q2 q3 q4 q5 q6 q7 qf0 qf1 qf2 qf3 qf4 qf5 qf6 qf7 p0 pf
            go_upto_region 21 with (first
              | (go_at_call 33; ((with_reducible refine hcs.mono ?_); rintro en w3 ⟨vl, rfl, ⟨tl, rfl, hlp, hlf⟩, hb3⟩; (try unfold Tab.V)))
              | fail)
            obtain ⟨x3, hx3⟩ : ∃ x3, x3 = w3.alloc (.cells #[.slice tl.TA tl.Tn tl.Tc, .slice tl.CA tl.Cn tl.Cc, .slice tl.EA tl.En tl.Ec] 25) := ⟨_, rfl⟩
            have hb3' : Below X.heap.size X x3 := by rw [hx3]; exact hb3.alloc hb3.size _
            have hkl : Blk x3 w3.heap.size 25 #[.slice tl.TA tl.Tn tl.Tc, .slice tl.CA tl.Cn tl.Cc, .slice tl.EA tl.En tl.Ec] := by rw [hx3]; exact Blk.new w3 _ _
            have hlf3 : TabFresh x3 X.heap.size tl := by rw [hx3]; exact hlf.below ((Below.refl _ _).alloc (Nat.le_refl _) _)
            rw [← hx3]
            obtain ⟨⟨l0, l1, l2⟩, _⟩ := blk_cells3 hkl
            obtain ⟨⟨n0, n1, n2⟩, _⟩ := blk_cells3 (blk_below HPU.out.k hb3')
            obtain ⟨⟨t0, t1, t2⟩, _⟩ := blk_cells3 (blk_below HKT.out hb3')
            have km := blk_below KM.out hb3'
            have ke := blk_below KE.out hb3'
            obtain ⟨⟨q0, q1, q2, q3, q4, q5, q6, q7⟩, ⟨qf0, qf1, qf2, qf3, qf4, qf5, qf6, qf7⟩⟩ := blk_cells8 km
            obtain ⟨p0, pf⟩ := blk_cell1 ke
            have HLF := Lib.hid hlf3
            have HLP := Lib.hid hlp
            have hDX : D < X.heap.size := (Array.getElem?_eq_some_iff.1 HKX.out).1
            have hK3 := (hb3'.block D hDX).trans HKX.out
            have HK3 := Lib.hid hK3
            have HB3 := Lib.hid hb3'
            have KM3 := Lib.hid km
            have KE3 := Lib.hid ke
            clear hx3 hb3' hkl hlf3 km ke hlf hlp hb3 hK3 f0 f1 f2 r0 hcs
            generalize w3.heap.size = bl at *
            clear hDX
            go_wp2
            obtain ⟨m1, m2, m3, m4, m5⟩ := setMov_all KM3.out KE3.out (.slice tl.TA tl.Tn tl.Tc) (.slice tl.CA tl.Cn tl.Cc) (.slice tl.EA tl.En tl.Ec) (.slice t'.TA t'.Tn t'.Tc) (.slice t'.CA t'.Cn t'.Cc) (.slice t'.EA t'.En t'.Ec) (.int .i64 (to.En : Int)) (.int .u64 mS) (.int .i64 0)
            have hK' := m3.same D _ HK3.out rfl
            have hk2' := blk_put hK' (.deferred none) m1
            have hk3' := blk_put hK' (.deferred none) m2
            obtain ⟨⟨y0, y1, y2, y3, y4, y5, y6, y7⟩, _⟩ := blk_cells8 hk2'
            obtain ⟨y8, _⟩ := blk_cell1 hk3'
            unfold setMov set8 at y0 y1 y2 y3 y4 y5 y6 y7 y8
            refine ⟨by simp, .inl ⟨_, _, rfl, run_takeDeferred hK', ?_⟩⟩
            refine ⟨.tuple #[.agg #[.slice tl.TA tl.Tn tl.Tc, .slice tl.CA tl.Cn tl.Cc, .slice tl.EA tl.En tl.Ec, .slice t'.TA t'.Tn t'.Tc, .slice t'.CA t'.Cn t'.Cc, .slice t'.EA t'.En t'.Ec, .int .i64 (to.En : Int), .int .u64 mS], .int .i64 0], by simp [results, Try.f50, go_sem, y0, y1, y2, y3, y4, y5, y6, y7, y8], ?_⟩
            show POST _ _
            rw [HPO.out]
            have hkt := (KeepT.below HB3.out).trans (m4.trans (KeepC.put hK' (.deferred none)).t)
            have hXz := HBX.out.size
            have hXw := HPU.out.b.size
            exact ⟨tl, t', X, rfl, HLP.out, HPU.out.p, HPU.out.fr, HBX.out, hkt, HLF.out.keep (m4.trans (KeepC.put hK' (.deferred none)).t), ((HBX.out.trans (HB3.out.mono hXz)).trans (m5 _ (by omega) (by omega))).trans (belowK_b (w := w) (Nat.le_refl _) _ D _ _ (by omega) hK' rfl rfl)⟩
          · have d1 : (er != 0) = true := by simpa using her0
            have HPO := Lib.hid (HPE.out her0)
            clear kf kt kr kv ge km ke hKX hbX hPu csw HPE HP0 her0
            go_wp2
            obtain ⟨m1, m2, m3, m4, m5⟩ := setMov_all KM.out KE.out (.slice none 0 0) (.slice none 0 0) (.slice none 0 0) (.slice none 0 0) (.slice none 0 0) (.slice none 0 0) (.int .i64 0) (.int .u64 0) (.int .i64 er)
            have hK' := m3.same D _ HKX.out rfl
            have hk2' := blk_put hK' (.deferred none) m1
            have hk3' := blk_put hK' (.deferred none) m2
            obtain ⟨⟨y0, y1, y2, y3, y4, y5, y6, y7⟩, _⟩ := blk_cells8 hk2'
            obtain ⟨y8, _⟩ := blk_cell1 hk3'
            unfold setMov set8 at y0 y1 y2 y3 y4 y5 y6 y7 y8
            refine ⟨by simp, .inl ⟨_, _, rfl, run_takeDeferred hK', ?_⟩⟩
            refine ⟨.tuple #[.agg #[.slice none 0 0, .slice none 0 0, .slice none 0 0, .slice none 0 0, .slice none 0 0, .slice none 0 0, .int .i64 0, .int .u64 0], .int .i64 er], by simp [results, Try.f50, go_sem, y0, y1, y2, y3, y4, y5, y6, y7, y8], ?_⟩
            show POST _ _
            rw [HPO.out]
            exact movR_nil er ((HBX.out.trans (m5 _ (by omega) (by omega))).trans (belowK_b (w := w) (Nat.le_refl _) _ D _ _ (by omega) hK' rfl rfl))

end Go.Proofs.Ytbcbknajhdaneaa
