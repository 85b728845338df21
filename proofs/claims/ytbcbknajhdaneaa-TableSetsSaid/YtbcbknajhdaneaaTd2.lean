/- What is proved: rows of rows of rows of words; the contract of the document's Of. -/
import Derived.Test.YtbcbknajhdaneaaTd1
import Derived.Test.YtbcbknajhdaneaaHeld
namespace Go.Proofs.Ytbcbknajhdaneaa
open Go.RowKit
set_option linter.unusedVariables false
set_option linter.unusedSimpArgs false
section
variable {P : Program} (w : World)
theorem append_types (t t2 ty e e2 : TypeId) (ht : P.underlying t = some (.slice e)) (ht2 : P.underlying t2 = some (.slice e2)) (b : Option Addr) (n c : Nat) (x : Value) : (Builtin.append_ #[t, t2] ty #[.slice b n c, x]).run P w = (Builtin.append_ #[t, t] ty #[.slice b n c, x]).run P w := by
  simp [Builtin.append_, run_underlying ht, run_underlying ht2]
theorem wp_append_two {o : Oper} {a : Act} {K : Act → World → Prop} {Q : Exit → Act → World → Prop} (s x : Operand) (t t2 e2 : TypeId)
    (ho : o.op = .call { callee := .builtin .append, args := #[s, x], argTypes := #[t, t2] }) (ht2 : P.underlying t2 = some (.slice e2))
    (base : Nat) (e : TypeId) (i : TypeInfo) (z : Value) (size bytes : Nat) (ht : P.underlying t = some (.slice e)) (hi : P.info? e = some i) (hz : i.zero = some z)
    (hsize : i.size = size) (hby : i.bytes = bytes) (hzs : z.cells.size = size) (hsz : 0 < size)
    (v : Value) (n : Nat) (xs : List Value) (hs : a.eval s = v) (hown : w.ownsRow base e size v n xs)
    (B : Nat) (A : Option Addr) (m c : Nat) (news : List Value) (hx : a.eval x = .slice A m c) (hr : Reads w B size A m news) (h1 : ∀ u ∈ news, u.oneCell' = true)
    (h63 : n + m ≤ maxLen) (hbytes : (n + m) * bytes ≤ 140737488355328) (hbase : base ≤ w.heap.size)
    (h : ∀ v' w', w'.ownsRow base e size v' (n + m) (xs ++ news) → w.grownBy w' v.ownBlock → (v'.ownBlock = v.ownBlock ∨ v'.ownBlock = some w.heap.size) → K (a.put o.dst v') w') : o.wp P a w K Q := by
  obtain ⟨v', w', hrun, h2, h3, h4⟩ := run_append_any (P := P) w base t o.type e i z size bytes ht hi hz hsize hby hzs hsz v n xs hown B A m c news hr h1 h63 hbytes hbase
  obtain ⟨Av, cv, hv⟩ : ∃ A c, v = .slice A n c := by
    rcases hown.2 with ⟨rfl, rfl⟩ | ⟨g, cap, cur, rfl, _⟩
    · exact ⟨_, _, rfl⟩
    · exact ⟨_, _, rfl⟩
  subst hv
  unfold Oper.wp execOp
  simp only [ho, resolve, invoke, builtin, Sem.run_bind, Sem.run_pure, Result.andThen_ok, List.map_toArray, List.map_cons, List.map_nil, hs, hx, append_types w t t2 o.type e e2 ht ht2, hrun]
  exact h v' w' h2 h3 h4
theorem step_append_two {ops : Array Oper} {o : Oper} {a : Act} {K : Act → World → Prop} {Q : Exit → Act → World → Prop} {E : Prop} (hgd : o.guard = none) (s x : Operand) (t t2 e2 : TypeId)
    (ho : o.op = .call { callee := .builtin .append, args := #[s, x], argTypes := #[t, t2] }) (ht2 : P.underlying t2 = some (.slice e2))
    (base : Nat) (e : TypeId) (i : TypeInfo) (z : Value) (size bytes : Nat) (ht : P.underlying t = some (.slice e)) (hi : P.info? e = some i) (hz : i.zero = some z)
    (hsize : i.size = size) (hby : i.bytes = bytes) (hzs : z.cells.size = size) (hsz : 0 < size)
    (v : Value) (n : Nat) (xs : List Value) (hs : a.eval s = v) (hown : w.ownsRow base e size v n xs)
    (B : Nat) (A : Option Addr) (m c : Nat) (news : List Value) (hx : a.eval x = .slice A m c) (hr : Reads w B size A m news) (h1 : ∀ u ∈ news, u.oneCell' = true)
    (h63 : n + m ≤ maxLen) (hbytes : (n + m) * bytes ≤ 140737488355328) (hbase : base ≤ w.heap.size)
    (h : ∀ v' w', w'.ownsRow base e size v' (n + m) (xs ++ news) → w.grownBy w' v.ownBlock → (v'.ownBlock = v.ownBlock ∨ v'.ownBlock = some w.heap.size) → K (a.put o.dst v') w') :
    if Region.wanted o (yielded ops a.tmps) = true then Oper.wp P o a w K Q else E := by
  have hw : Region.wanted o (yielded ops a.tmps) = true := by simp [Region.wanted, hgd]
  rw [if_pos hw]
  exact wp_append_two w s x t t2 e2 ho ht2 base e i z size bytes ht hi hz hsize hby hzs hsz v n xs hs hown B A m c news hx hr h1 h63 hbytes hbase h
end
/-- a row of rows of words: its slice, and what it reads -/
structure Gr where
  A : Option Addr
  n : Nat
  c : Nat
  G : List Rw
deriving Inhabited
def Gr.V (x : Gr) : Value := .slice x.A x.n x.c
def grs (L : List Gr) : List Value := L.map Gr.V
theorem grs_len (L : List Gr) : (grs L).length = L.length := by unfold grs; rw [List.length_map]
theorem grs_one (L : List Gr) : ∀ u ∈ grs L, u.oneCell' = true := by
  intro u hu
  obtain ⟨x, _, rfl⟩ := List.mem_map.1 hu
  rfl
def Gr.vl (x : Gr) : List (List Int) := x.G.map Rw.l
def vls (L : List Gr) : List (List (List Int)) := L.map Gr.vl
structure GrOk (w : World) (B : Nat) (x : Gr) : Prop where
  r : Reads w B 1 x.A x.n (rws x.G)
  c : x.n ≤ x.c ∧ x.c ≤ maxLen
  g : ∀ v ∈ x.G, RwOk w B v
theorem GrOk.keep {w w' : World} {B : Nat} {x : Gr} (h : GrOk w B x) (hb : Below B w w') : GrOk w' B x := ⟨h.r.below hb, h.c, fun v hv => (h.g v hv).keep hb⟩
theorem GrOk.more {w : World} {B B' : Nat} {x : Gr} (h : GrOk w B x) (hb : B ≤ B') : GrOk w B' x := ⟨h.r.more hb, h.c, fun v hv => (h.g v hv).more hb⟩
theorem grs_cell {w : World} {B n : Nat} {A : Option Addr} {L : List Gr} (h : Reads w B 1 A n (grs L)) {k : Nat} {x : Gr} (hk : L[k]? = some x) :
    ∃ b off, A = some ⟨b, off, none⟩ ∧ b < B ∧ w.cell? ⟨b, off + k, none⟩ = some (.slice x.A x.n x.c) :=
  rws_cell (G := L.map fun g => ⟨g.A, g.n, g.c, []⟩) (x := ⟨x.A, x.n, x.c, []⟩) (by unfold rws; rw [List.map_map]; exact h) (by rw [List.getElem?_map, hk]; rfl)
/-- the words of column k, in rows of values -/
def colOf (R : List (List (List Int))) (k : Nat) : List Int := R.flatMap fun r => match r[k]? with | some v => v | none => []
theorem colOf_take {L : List Gr} {j k : Nat} {x : Gr} {v : Rw} (h : L[j]? = some x) (hv : x.G[k]? = some v) : colOf (vls (L.take (j + 1))) k = colOf (vls (L.take j)) k ++ v.l := by
  unfold vls colOf
  rw [take_snoc h, List.map_append, List.flatMap_append]
  congr 1
  simp [Gr.vl, hv]
theorem colOf_le (R : List (List (List Int))) (k j : Nat) : (colOf (R.take j) k).length ≤ (colOf R k).length := by
  have h : colOf R k = colOf (R.take j) k ++ colOf (R.drop j) k := by unfold colOf; rw [← List.flatMap_append, List.take_append_drop]
  rw [h, List.length_append]; omega
theorem vls_take (L : List Gr) (j : Nat) : vls (L.take j) = (vls L).take j := by unfold vls; rw [List.map_take]
def ofL (R : List (List (List Int))) (E : Int) : Nat → List Int → List PC
  | _, [] => []
  | k, n :: ws => (n, E, colOf R k) :: ofL R E (k + 1) ws
theorem ofL_snoc (R : List (List (List Int))) (E : Int) : ∀ (F : List Int) (b : Nat) (x : Int), ofL R E b (F ++ [x]) = ofL R E b F ++ [(x, E, colOf R (b + F.length))]
  | [], _, _ => rfl
  | y :: F, b, x => by
    show _ :: ofL R E (b + 1) (F ++ [x]) = _ :: (ofL R E (b + 1) F ++ _)
    rw [ofL_snoc R E F (b + 1) x, List.length_cons, Nat.add_right_comm, Nat.add_assoc]
theorem ofL_take (R : List (List (List Int))) (E : Int) {F : List Int} {k : Nat} {x : Int} (h : F[k]? = some x) : ofL R E 0 (F.take (k + 1)) = ofL R E 0 (F.take k) ++ [(x, E, colOf R k)] := by
  have hk := (List.getElem?_eq_some_iff.1 h).1
  rw [take_snoc h, ofL_snoc, Nat.zero_add, List.length_take, Nat.min_eq_left (by omega)]
theorem ofL_len (R : List (List (List Int))) (E : Int) : ∀ (F : List Int) (b : Nat), (ofL R E b F).length = F.length
  | [], _ => rfl
  | x :: F, b => by show (ofL R E (b + 1) F).length + 1 = F.length + 1; rw [ofL_len R E F]
theorem far1 {w : World} {g b i j : Nat} {u : Value} (a0 : Value) (hne : b ≠ g) (h : w.cell? ⟨b, i, none⟩ = some u) : (w.setCell ⟨g, j, none⟩ a0).cell? ⟨b, i, none⟩ = some u :=
  (World.cell?_setCell_other w _ _ a0 (fun ee => hne (by injection ee with e1 _ _; exact e1.symm))).trans h
theorem grown_set1 (w : World) (g i : Nat) (a : Value) : w.grownBy (w.setCell ⟨g, i, none⟩ a) (some g) := by
  refine ⟨rfl, rfl, rfl, by simp, fun k _ hk => ?_⟩
  have hne : k ≠ g := fun e => hk (by rw [e])
  rw [Below.heap_setCell _ _ _ _ (by simpa using hne)]
theorem blk_grown_own {w w' : World} {g b n size : Nat} {t e : TypeId} {cs : Array Value} {v : Value} {xs : List Value} (h : Blk w g t cs) (ho : w.ownsRow b e size v n xs) (hne : e ≠ t) (hg : w.grownBy w' v.ownBlock) : Blk w' g t cs :=
  h.grown hg fun e => own_blk_ne ho h hne e.symm
theorem colOf_word {L : List Gr} {w : World} {B : Nat} (h : ∀ g ∈ L, GrOk w B g) (k : Nat) : ∀ y ∈ colOf (vls L) k, Word y := by
  intro y hy
  unfold colOf vls at hy
  obtain ⟨r, hr, hy⟩ := List.mem_flatMap.1 hy
  obtain ⟨g, hg, rfl⟩ := List.mem_map.1 hr
  unfold Gr.vl at hy
  rw [List.getElem?_map] at hy
  cases hv : g.G[k]? with
  | none => rw [hv] at hy; simp at hy
  | some v => rw [hv] at hy; exact ((h g hg).g v (List.mem_of_getElem? hv)).2.2.2 y hy
/-- the table of the document's Of -/
def OfR (ps : List PC) (a c : Value) (w : World) (e : Ending) (w' : World) : Prop :=
  ∃ v F, e = .returned (.agg #[a, v, c]) ∧ w'.ownsRow w.heap.size 68 3 v F.length (cols F) ∧ F.map Col.p = ps ∧ (∀ x ∈ F, ColFresh w' w.heap.size x) ∧ Below w.heap.size w w'
set_option maxRecDepth 100000 in
set_option maxHeartbeats 8000000 in
theorem of_any (TA : Option Addr) (Tn Tc : Nat) (NA : Option Addr) (nn nc : Nat) (ws : List Int) (EA : Option Addr) (En Ec : Nat) (LA : Option Addr) (ln lc : Nat) (L : List Gr) (w : World)
    (hN : Reads w w.heap.size 1 NA nn (ins ws)) (hL : Reads w w.heap.size 1 LA ln (grs L)) (hG : ∀ g ∈ L, GrOk w w.heap.size g) (hk : ∀ g ∈ L, nn ≤ g.G.length) (hs : ∀ k, (colOf (vls L) k).length ≤ 8589934592) (hnn : nn ≤ 65536) (hln : ln ≤ 8589934592) (hEn : En ≤ 8589934592) :
    Calls Try.prog 47 #[.slice TA Tn Tc, .slice NA nn nc, .slice EA En Ec, .slice LA ln lc] w (OfR (ofL (vls L) (En : Int) 0 ws) (.slice TA Tn Tc) (.slice EA En Ec) w) := by
  obtain ⟨i0, hi0, hz0, hz1, hz2⟩ := info_parts info_u64
  obtain ⟨i1, hj0, hj1, hj2, hj3⟩ := info_parts info_col
  have hwl : ws.length = nn := by have := hN.1; unfold ins at this; rw [List.length_map] at this; omega
  have hLl : L.length = ln := by have := hL.1; rw [grs_len] at this; omega
  obtain ⟨W0, hW0⟩ : ∃ W0, W0 = (w.alloc (.cells #[.slice none 0 0, .slice none 0 0, .slice none 0 0] 25)).alloc (.cells #[.slice TA Tn Tc, .slice none 0 0, .slice EA En Ec] 25) := ⟨_, rfl⟩
  have hB : Below w.heap.size w W0 := by rw [hW0]; exact ((Below.refl w.heap.size w).alloc (Nat.le_refl _) _).alloc (by simp) _
  have hsz : W0.heap.size = w.heap.size + 2 := by rw [hW0]; simp
  have k0 : Blk W0 w.heap.size 25 #[.slice none 0 0, .slice none 0 0, .slice none 0 0] := by rw [hW0]; exact (Blk.new w _ _).alloc _
  have k1 : Blk W0 (w.heap.size + 1) 25 #[.slice TA Tn Tc, .slice none 0 0, .slice EA En Ec] := by
    rw [hW0]
    have h := Blk.new (w.alloc (.cells #[.slice none 0 0, .slice none 0 0, .slice none 0 0] 25)) 25 #[.slice TA Tn Tc, .slice none 0 0, .slice EA En Ec]
    rw [World.size_alloc] at h
    exact h
  have HW := Lib.hid hW0
  have HWL := Lib.hid hwl
  have HLL := Lib.hid hLl
  have HSS := Lib.hid hs
  have HKK := Lib.hid hk
  have HGG := Lib.hid hG
  have HNN := Lib.hid hN
  have HL0 := Lib.hid hL
  have HS := Lib.hid hsz
  have HB := Lib.hid hB
  have HK0 := Lib.hid k0
  have HK1 := Lib.hid k1
  clear hW0 hwl hLl hs hk hG hN hL hsz hB k0 k1
  go_enter Try.func47, Try.ntmps47
  go_upto_region 2 with fail
  rw [← HW.out]
  go_wp2_with fail
  go_loopw [20] (fun i wr => ∃ k : Nat, k ≤ nn ∧ i = .int .i64 k ∧ Below w.heap.size w wr ∧ Blk wr w.heap.size 25 #[.slice none 0 0, .slice none 0 0, .slice none 0 0] ∧
      ∃ v F, Blk wr (w.heap.size + 1) 25 #[.slice TA Tn Tc, v, .slice EA En Ec] ∧ wr.ownsRow w.heap.size 68 3 v F.length (cols F) ∧ F.map Col.p = ofL (vls L) (En : Int) 0 (ws.take k) ∧ ∀ x ∈ F, ColFresh wr w.heap.size x)
    (fun i _ => nn - (intOf i).toNat)
  case atStart => exact ⟨0, Nat.zero_le _, rfl, HB.out, HK0.out, .slice none 0 0, [], HK1.out, World.ownsRow_nil _ _ _ _, rfl, by simp⟩
  case round =>
    obtain ⟨k, hk, rfl, hb, kz, v0, F, kt, ho, hp, hfr⟩ := hrel
    obtain ⟨A0, c0, rfl⟩ := own_slice ho
    have hFl : F.length = k := by
      have h1 := congrArg List.length hp
      rw [List.length_map, ofL_len, List.length_take, HWL.out, Nat.min_eq_left hk] at h1
      exact h1
    have HB1 := Lib.hid hb
    have HKZ := Lib.hid kz
    have HKT := Lib.hid kt
    have HO := Lib.hid ho
    have HP := Lib.hid hp
    have HFR := Lib.hid hfr
    have HFL := Lib.hid hFl
    by_cases hlt : k < nn
    · have e1 := List.getElem?_eq_getElem (l := ws) (i := k) (by rw [HWL.out]; exact hlt)
      generalize ws[k]'(by rw [HWL.out]; exact hlt) = x at e1
      obtain ⟨b, off, hNA, hbl, g⟩ := ins_cell HNN.out e1
      have g0 := cell_below' hb g hbl
      have HT := Lib.hid (ofL_take (vls L) (En : Int) e1)
      have hQ : True := trivial
      subst hNA
      clear hb kz kt ho hp hfr hFl g e1
      go_wp2_with fail
      obtain ⟨wo, rfl⟩ : ∃ wo, wo = wr := ⟨_, rfl⟩
      have hk3 := Blk.new wo 68 #[.int .i64 x, .int .i64 (En : Int), .slice none 0 0]
      have hb3 := (Below.refl wo.heap.size wo).alloc (Nat.le_refl _) (.cells #[.int .i64 x, .int .i64 (En : Int), .slice none 0 0] 68)
      have HK3 := Lib.hid hk3
      have HB3 := Lib.hid hb3
      clear hk3 hb3 g0
      go_hide hQ2
      go_loopw [31] (fun i wr => ∃ j : Nat, j ≤ ln ∧ i = .int .i64 j ∧ Below wo.heap.size wo wr ∧
          ∃ va, Blk wr wo.heap.size 68 #[.int .i64 x, .int .i64 (En : Int), va] ∧ wr.ownsRow wo.heap.size 26 1 va (colOf (vls (L.take j)) k).length (ids (colOf (vls (L.take j)) k)))
        (fun i _ => ln - (intOf i).toNat)
      case atStart => exact ⟨0, Nat.zero_le _, rfl, HB3.out, .slice none 0 0, HK3.out, World.ownsRow_nil _ _ _ _⟩
      case round =>
        obtain ⟨j, hj, rfl, hbq, va, hkw, how⟩ := hrel
        obtain ⟨Aw, cw, rfl⟩ := own_slice how
        by_cases hlt2 : j < ln
        · have e2 := List.getElem?_eq_getElem (l := L) (i := j) (by rw [HLL.out]; exact hlt2)
          generalize L[j]'(by rw [HLL.out]; exact hlt2) = y at e2
          have hym := List.mem_of_getElem? e2
          have hyo := HGG.out y hym
          have hyn := HKK.out y hym
          have e3 := List.getElem?_eq_getElem (l := y.G) (i := k) (by omega)
          generalize y.G[k]'(by omega) = v at e3
          have hvm := List.mem_of_getElem? e3
          have hvo := hyo.g v hvm
          obtain ⟨b2, off2, hLA, hbl2, g2⟩ := grs_cell HL0.out e2
          obtain ⟨b3, off3, hyA, hbl3, g3⟩ := rws_cell hyo.r e3
          have hyl : k < y.n := by have := hyo.r.1; rw [rws_len] at this; have := (List.getElem?_eq_some_iff.1 e3).1; omega
          have hB1 := HB1.out
          have hB2 : Below w.heap.size w wr := hB1.trans (hbq.mono hB1.size)
          have c2 := cell_below' hB2 g2 hbl2
          have s1' := cell_below' hB2 g3 hbl3
          have s1o := cell_below' hB1 g3 hbl3
          obtain ⟨⟨s00, s01, s0'⟩, _⟩ := blk_cells3 hkw
          have HRV := Lib.hid ((hvo.keep hB2).more hB2.size).1
          have HTT := Lib.hid (colOf_take e2 e3)
          have HLN := Lib.hid (show (colOf (vls (L.take j)) k).length + v.n ≤ 8589934592 by
            have h1 := colOf_le (vls L) k (j + 1)
            rw [← vls_take, colOf_take e2 e3, List.length_append, hvo.len] at h1
            have := HSS.out k
            omega)
          have HVL := Lib.hid hvo.len
          have HOW := Lib.hid how
          have HKW := Lib.hid hkw
          have HBB := Lib.hid (show b3 < wo.heap.size by have := hB1.size; omega)
          have HBN := Lib.hid (show b3 ≠ wo.heap.size by have := hB1.size; omega)
          obtain ⟨yA, yn, yc, yG⟩ := y
          simp only at hyA hyl c2
          subst hLA hyA
          have i1 : (k : Int) < (yn : Int) := by omega
          clear hym hyo hyn hvm hvo e2 e3 g2 g3 how hkw hB1 hB2 hyl s00 s01
          go_wp2_with fail
          subst hQ2
          refine wp_region_held_drew (S := fun w' => w'.cell? ⟨b3, off3 + k, none⟩ = some (.slice v.A v.n v.c)) (by kernel_rfl) s1' (fun hHeld => ?_)
          refine wpAnyH_take (i := 0) (oi := _) (v := ?_) rfl (by kernel_rfl) (by kernel_rfl) (by kernel_rfl) (fun _ _ _ h => h) (Or.inl ⟨by rfl, ?_⟩) hHeld ?_
          rotate_left
          · intro w hSw; obtain s1 := hSw; go_simp; try with_reducible rfl
          simp only [Act.put, List.getElem_toArray, List.getElem_cons_succ, List.getElem_cons_zero, List.setIfInBounds_toArray, List.set_cons_zero, List.set_cons_succ]
          refine wpAnyH_take (i := 2) (oi := _) (v := ?_) rfl (by kernel_rfl) (by kernel_rfl) (by kernel_rfl) (fun _ _ _ h => h) (Or.inl ⟨by rfl, ?_⟩) hHeld ?_
          rotate_left
          · intro w hSw; obtain s1 := hSw; go_simp; try with_reducible rfl
          simp only [Act.put, List.getElem_toArray, List.getElem_cons_succ, List.getElem_cons_zero, List.setIfInBounds_toArray, List.set_cons_zero, List.set_cons_succ]
          refine wpAnyH_take (i := 3) (oi := _) (v := ?_) rfl (by kernel_rfl) (by kernel_rfl) (by kernel_rfl) (fun _ _ _ h => h) (Or.inl ⟨by rfl, ?_⟩) hHeld ?_
          rotate_left
          · intro w hSw; obtain s1 := hSw; go_simp; try with_reducible rfl
          simp only [Act.put, List.getElem_toArray, List.getElem_cons_succ, List.getElem_cons_zero, List.setIfInBounds_toArray, List.set_cons_zero, List.set_cons_succ]
          refine wpAnyH_take (i := 4) (oi := _) (v := ?_) rfl (by kernel_rfl) (by kernel_rfl) (by kernel_rfl) (fun _ _ _ h => h) (Or.inl ⟨by rfl, ?_⟩) hHeld ?_
          rotate_left
          · intro w hSw; obtain s1 := hSw; go_simp; try with_reducible rfl
          simp only [Act.put, List.getElem_toArray, List.getElem_cons_succ, List.getElem_cons_zero, List.setIfInBounds_toArray, List.set_cons_zero, List.set_cons_succ]
          refine wpAnyH_take (i := 5) (oi := _) (v := ?_) rfl (by kernel_rfl) (by kernel_rfl) (by kernel_rfl) (fun _ _ _ h => h) (Or.inl ⟨by rfl, ?_⟩) hHeld ?_
          rotate_left
          · intro w hSw; obtain s1 := hSw; go_simp; try with_reducible rfl
          simp only [Act.put, List.getElem_toArray, List.getElem_cons_succ, List.getElem_cons_zero, List.setIfInBounds_toArray, List.set_cons_zero, List.set_cons_succ]
          refine wpAnyH_ready (rs := [1]) (by kernel_rfl) (by simp) (AllReadyH.cons (o := _) rfl (fun K hK => ?_) AllReadyH.nil)
          go_simp
          skip
          refine hK.out _ _ hHeld (fun hHeld => ?_)
          clear hK K
          try simp only [Act.put, List.getElem_toArray, List.getElem_cons_succ, List.getElem_cons_zero, List.setIfInBounds_toArray, List.set_cons_zero, List.set_cons_succ]
          refine wpAnyH_ready (rs := [6]) (by kernel_rfl) (by simp) (AllReadyH.cons (o := _) rfl (fun K hK => ?_) AllReadyH.nil)
          refine step_append_two _ rfl (.tmp 36) (.tmp 40) 43 44 26 rfl Try.underlying44 wo.heap.size 26 i0 _ 1 8 Try.underlying43 hi0 hz0 hz1 hz2 rfl (by omega) _ (colOf (vls (L.take j)) k).length (ids (colOf (vls (L.take j)) k)) (by rfl) HOW.out _ _ v.n v.c (ids v.l) (by rfl) HRV.out (ids_one v.l) ?_ ?_ hbq.size ?_
          · have := HLN.out; simp only [maxLen]; omega
          · have := HLN.out; omega
          intro v9 w9 ho9 hg9 hat9
          have hb9 := own_grown_below (w := wr.drew) hbq.drew HOW.out hg9
          have hk9 := HKW.out.drew.grown hg9 (fun e => own_blk_ne HOW.out HKW.out (by decide) e.symm)
          obtain ⟨A9, c9, rfl⟩ := own_slice ho9
          obtain ⟨⟨q0, q1, q2⟩, qf⟩ := blk_cells3 hk9
          have qf2 := qf 2
          have HG9 := Lib.hid hb9
          have HO9 := Lib.hid ho9
          have HK9 := Lib.hid hk9
          clear qf ho9 hg9 hat9 hk9
          refine hK.out _ _ (cell_below' HG9.out s1o HBB.out) (fun hHeld => ?_)
          clear hK K
          try simp only [Act.put, List.getElem_toArray, List.getElem_cons_succ, List.getElem_cons_zero, List.setIfInBounds_toArray, List.set_cons_zero, List.set_cons_succ]
          refine wpAnyH_take (i := 7) (oi := _) (v := ?_) rfl (by kernel_rfl) (by kernel_rfl) (by kernel_rfl) (fun _ _ _ h => h) (Or.inl ⟨by rfl, ?_⟩) hHeld ?_
          rotate_left
          · intro w hSw; obtain s1 := hSw; go_simp; try with_reducible rfl
          simp only [Act.put, List.getElem_toArray, List.getElem_cons_succ, List.getElem_cons_zero, List.setIfInBounds_toArray, List.set_cons_zero, List.set_cons_succ]
          refine wpAnyH_ready (rs := [8]) (by kernel_rfl) (by simp) (AllReadyH.cons (o := _) rfl (fun K hK => ?_) AllReadyH.nil)
          go_simp
          skip
          refine hK.out _ _ (far1 _ HBN.out (cell_below' HG9.out s1o HBB.out)) (fun hHeld => ?_)
          clear hK K
          try simp only [Act.put, List.getElem_toArray, List.getElem_cons_succ, List.getElem_cons_zero, List.setIfInBounds_toArray, List.set_cons_zero, List.set_cons_succ]
          refine wpAnyH_done (by kernel_rfl) ?_ _
          go_wp2_with fail
          go_roundw
          case rel =>
            refine ⟨j + 1, by omega, by go_num, HG9.out.setCell (p := ⟨wo.heap.size, 2, none⟩) (Nat.le_refl _) _, _, HK9.out.set_ 2 _, ?_⟩
            rw [HTT.out, ids_app, List.length_append, HVL.out]
            exact HO9.out.kept (grown_set1 _ _ _ _) (.inr (own_blk_ne HO9.out HK9.out (by decide)))
          case measure => simp [intOf]; omega
        · have : j = ln := by omega
          subst this
          have HLF := Lib.hid (show L.take j = L from List.take_of_length_le (by rw [HLL.out]; exact Nat.le_refl _))
          have HKW := Lib.hid hkw
          have HOW := Lib.hid how
          have HBQ := Lib.hid hbq
          have hbt := HB1.out.trans (hbq.mono HB1.out.size)
          have kt2 := HKT.out.below hbq (by have := HB1.out.size; have := HS.out; have := HKT.out.lt; omega)
          obtain ⟨⟨z0, z1, z2⟩, zf⟩ := blk_cells3 kt2
          have zf1 := zf 1
          obtain ⟨⟨s00, s01, s02⟩, _⟩ := blk_cells3 hkw
          have HKT2 := Lib.hid kt2
          have HBT := Lib.hid hbt
          clear hkw how hbq kt2 zf hbt
          subst hQ2
          go_wp2_with (first
            | (at_builtin
               refine wpList_append_any _ rfl (.tmp 45) (.tmp 47) _ rfl w.heap.size 68 i1 _ 3 40 Try.underlying23 hj0 hj1 hj2 hj3 rfl (by omega) (.slice A0 F.length c0) F.length (cols F) rfl
                 ?_ (wr.heap.size + 1) (some ⟨wr.heap.size, 0, none⟩) 1 1 [.int .i64 x, .int .i64 (En : Int), .slice Aw (colOf (vls (L.take j)) k).length cw] rfl ?_ (by simp [Value.oneCell']) (by have := HFL.out; simp only [maxLen]; omega) (by have := HFL.out; omega) ?_ ?_
               · exact (own_below HO.out HBQ.out).alloc _
               · exact lit_reads1 _ _ _ rfl
               · have := HBT.out.size; simp; omega
               intro v1 w1 hown1 hg1 hat1
               obtain ⟨A1, c1', rfl⟩ := own_slice hown1
               have HG1 := Lib.hid hg1
               have HO1 := Lib.hid hown1
               have hk5 := blk_grown_own (HKT2.out.alloc (.cells #[.int .i64 x, .int .i64 (En : Int), .slice Aw (colOf (vls (L.take j)) k).length cw] 68)) ((own_below HO.out HBQ.out).alloc _) (by decide) HG1.out
               obtain ⟨⟨y0, y1, y2⟩, yf⟩ := blk_cells3 hk5
               have yf1 := yf 1
               have HK5 := Lib.hid hk5
               clear hg1 hown1 hat1 yf hk5)
            | fail)
          go_roundw
          case rel =>
            have hk6 := blk_grown_own ((Blk.below HKZ.out HBQ.out (by have := HB1.out.size; have := HKZ.out.lt; omega)).alloc (.cells #[.int .i64 x, .int .i64 (En : Int), .slice Aw (colOf (vls (L.take j)) k).length cw] 68)) ((own_below HO.out HBQ.out).alloc _) (by decide) HG1.out
            have hb6 : Below w.heap.size w w1 := own_grown_below (HBT.out.alloc HBT.out.size (.cells #[.int .i64 x, .int .i64 (En : Int), .slice Aw (colOf (vls (L.take j)) k).length cw] 68)) ((own_below HO.out HBQ.out).alloc _) HG1.out
            have hw6 := colOf_word HGG.out k
            rw [HLF.out] at HOW
            have hnw : ColFresh wr w.heap.size ⟨x, (En : Int), Aw, (colOf (vls L) k).length, cw, colOf (vls L) k⟩ := colFresh_base (colFresh_own x (En : Int) HOW.out hw6) HB1.out.size
            rw [HLF.out] at HG1
            have ho1 := HO1.out
            rw [HLF.out] at ho1
            have hst : ∀ z, ColFresh wr w.heap.size z → ColFresh w1 w.heap.size z := fun z hz => colFresh_grown (hz.below ((Below.refl _ wr).alloc (Nat.le_refl _) _)) ((own_below HO.out HBQ.out).alloc _) (by decide) HG1.out
            refine ⟨k + 1, by omega, by go_num, hb6.setCell (p := ⟨w.heap.size + 1, 1, none⟩) (by simp) _, hk6.far (by simp) _, _, F ++ [⟨x, (En : Int), Aw, (colOf (vls L) k).length, cw, colOf (vls L) k⟩], HK5.out.set_ 1 _, ?_, ?_, fun z hz => ?_⟩
            · rw [cols_app, List.length_append]; exact ho1.kept (grown_set1 _ _ _ _) (.inr (own_blk_ne ho1 HK5.out (by decide)))
            · rw [List.map_append, HP.out, HT.out]; rfl
            · rcases List.mem_append.1 hz with hz | hz
              · exact colFresh_cell (hst z ((HFR.out z hz).below HBQ.out)) HK5.out (by decide) _
              · rw [List.mem_singleton] at hz; subst hz
                exact colFresh_cell (hst _ hnw) HK5.out (by decide) _
          case measure => simp [intOf]; omega
    · have : k = nn := by omega
      subst this
      obtain ⟨⟨z0, z1, z2⟩, zf⟩ := blk_cells3 kz
      have zf0 := zf 0
      have zf1 := zf 1
      have zf2 := zf 2
      obtain ⟨⟨y0, y1, y2⟩, _⟩ := blk_cells3 kt
      clear hb kz kt ho hp hfr hFl zf
      go_wp2_with fail
      refine bodyPost_ret (v := .agg #[.slice TA Tn Tc, .slice A0 F.length c0, .slice EA En Ec]) (by simp [results, Try.results47, go_sem, *]) rfl ?_
      exact ⟨_, F, rfl, HO.out.kept (grown_set3 _ _ _ _ _) (.inr (own_blk_ne HO.out HKZ.out (by decide))), by rw [HP.out, List.take_of_length_le (by rw [HWL.out]; exact Nat.le_refl _)], fun x hx => fresh_set3 (HFR.out x hx) HKZ.out (by decide) _ _ _, below_set3 HB1.out (Nat.le_refl _)⟩
end Go.Proofs.Ytbcbknajhdaneaa
