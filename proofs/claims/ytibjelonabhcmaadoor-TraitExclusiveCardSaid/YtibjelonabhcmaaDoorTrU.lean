/- What is proved: laws of an append within a block and of clear; contracts of slices.Delete at relations and at ids, of one element, in a block of one's own. -/
import Derived.Test.YtibjelonabhcmaaDoorTrT
import Derived.Lib.SliceRun
namespace Go.Proofs.YtibjelonabhcmaaDoor
open Go.RowKit
set_option linter.unusedVariables false
set_option linter.unusedSimpArgs false
theorem setRow_blk {w : World} {g : Nat} {t : TypeId} {cs : Array Value} (h : Blk w g t cs) (ds : Array Value) : Blk (w.setRow g ds) g t ds := setRow_heap w g cs ds t _ h
theorem Blk.setCells_ {g : Nat} {t : TypeId} : ∀ (vs : List Value) (o : Nat) (w : World) (cs : Array Value), Blk w g t cs → ∃ cs', Blk (w.setCells g o vs) g t cs' ∧ cs'.size = cs.size ∧ ∀ j, j < o → cs'[j]? = cs[j]?
  | [], o, w, cs, h => ⟨cs, h, rfl, fun _ _ => rfl⟩
  | v :: vs, o, w, cs, h => by
    obtain ⟨cs', h1, h2, h3⟩ := Blk.setCells_ vs (o + 1) (w.setCell ⟨g, o, none⟩ v) _ (h.set_ o v)
    refine ⟨cs', h1, by rw [h2]; simp, fun j hj => ?_⟩
    rw [h3 j (by omega), Array.getElem?_setIfInBounds]
    rw [if_neg (by omega)]
theorem below_setCells {B g : Nat} {w0 : World} (hB : B ≤ g) : ∀ (vs : List Value) (o : Nat) (w : World), Below B w0 w → Below B w0 (w.setCells g o vs)
  | [], _, _, h => h
  | v :: vs, o, w, h => below_setCells hB vs (o + 1) _ (h.setCell (p := ⟨g, o, none⟩) hB v)
theorem run_clear_one {P : Program} (w : World) (t e ty : TypeId) (z : Value) (ht : P.underlying t = some (.slice e)) (hv : ∀ w, (zeroValue e).run P w = .ok z w) (h1 : ∀ u ∈ z.cells.toList, u.oneCell' = true) (b o c : Nat)
    (hc : ∀ j, j < z.cells.size → (w.cell? ⟨b, o + j, none⟩).isSome = true) (hf : ∀ j, j < z.cells.size → w.frozen? ⟨b, o + j, none⟩ = false) :
    (Builtin.clear_ #[t] ty #[.slice (some ⟨b, o, none⟩) 1 c]).run P w = .ok (.tuple #[]) (w.setCells b o z.cells.toList) := by
  have hzc : (Builtin.zeroCells z.cells 1).toList = z.cells.toList := by
    apply List.ext_getElem
    · simp [size_zeroCells]
    · intro i h1 h2
      have h3 : i < z.cells.size := by simpa using h2
      simp [Builtin.zeroCells, Nat.mod_eq_of_lt h3, h3]
  have hst := run_storeCells_cells (P := P) b o z.cells.toList 0 w (by simpa using hc) (by simpa using hf) h1
  simp only [Nat.add_zero] at hst
  simp [Builtin.clear_, run_underlying ht, hv, hzc, hst]
theorem step_append_blk {P : Program} {ops : Array Oper} {o : Oper} {a : Act} {w : World} {K : Act → World → Prop} {Q : Exit → Act → World → Prop} {E : Prop}
    (hg : o.guard = none) (s x : Operand) (t : TypeId) (hop : o.op = Op.call { callee := Callee.builtin Builtin.append, args := #[s, x], argTypes := #[t, t] })
    (e : TypeId) (i : TypeInfo) (size : Nat) (h1 : P.underlying t = some (.slice e)) (h2 : P.info? e = some i) (h4 : i.size = size)
    (g n cap : Nat) (cur : Array Value) (hblk : Blk w g e cur) (hs : a.eval s = .slice (some ⟨g, 0, none⟩) n cap)
    (ad : Addr) (m c : Nat) (news : List Value) (hx : a.eval x = .slice (some ad) m c) (hn : news.length = m * size) (hc : ∀ j u, news[j]? = some u → w.cell? (ad.add j) = some u) (h1c : ∀ u ∈ news, u.oneCell' = true)
    (hroom : n + m ≤ cap) (hfit : n * size + news.length ≤ cur.size)
    (hK : ∀ w', Blk w' g e (cur.toList.take (n * size) ++ news ++ cur.toList.drop (n * size + news.length)).toArray → w.grownBy w' (some g) → K (a.put o.dst (.slice (some ⟨g, 0, none⟩) (n + m) cap)) w') :
    if Region.wanted o (yielded ops a.tmps) = true then Oper.wp P o a w K Q else E := by
  have hw : Region.wanted o (yielded ops a.tmps) = true := by simp [Region.wanted, hg]
  rw [if_pos hw]
  subst h4
  have hrun := run_append_room (P := P) w t o.type e i h1 h2 g n cap cur hblk ad m c news hn hc h1c hroom hfit
  have hk := hK _ (setRow_blk hblk _) ⟨rfl, rfl, rfl, by simp, fun k _ hk => setRow_other w g k _ (fun e => hk (by rw [e]))⟩
  clear hK
  generalize w.setRow g _ = W2 at hrun hk
  unfold Oper.wp
  simp [execOp, hop, resolve, invoke, builtin, hs, hx, hrun, Result.andThen]
  exact hk
theorem Blk.heldDrew {w : World} {g : Nat} {t : TypeId} {cs : Array Value} (h : Blk w g t cs) : Blk w.drew g t cs := h
theorem del_clear {P : Program} {t e : TypeId} {z : Value} {k : Nat} (ht : P.underlying t = some (.slice e)) (hv : ∀ w, (zeroValue e).run P w = .ok z w) (hzs : z.cells.size = k) (h1 : ∀ u ∈ z.cells.toList, u.oneCell' = true)
    {w0 w : World} {g : Nat} {cur : Array Value} {n c i : Nat} {xs : List Value} (hB : Blk w g e (cur.toList.take (i * k) ++ xs.drop ((i + 1) * k) ++ cur.toList.drop (i * k + (xs.drop ((i + 1) * k)).length)).toArray)
    (hk : 0 < k) (hsz : cur.size = c * k) (htk : cur.toList.take (n * k) = xs) (hlen : (xs.drop ((i + 1) * k)).length = (n - (i + 1)) * k) (hxl : xs.length = n * k) (hi : i < n) (hnc : n ≤ c) (hb : Below g w0 w) {m : Nat} (hm : m = n - 1) :
    ∃ W3 cur3, (∀ ty q one, one = 1 → (Builtin.clear_ #[t] ty #[.slice (some ⟨g, m * k, none⟩) one q]).run P w = .ok (.tuple #[]) W3) ∧ Blk W3 g e cur3 ∧ cur3.size = c * k ∧ cur3.toList.take (m * k) = xs.take (i * k) ++ xs.drop ((i + 1) * k) ∧ Below g w0 W3 := by
  subst hm
  have hik : (i + 1) * k ≤ n * k := Nat.mul_le_mul_right _ hi
  have hnk : n * k ≤ c * k := Nat.mul_le_mul_right _ hnc
  have e0 : (i + 1) * k = i * k + k := by rw [Nat.add_mul, Nat.one_mul]
  have e1 : (n - 1) * k + k = n * k := by
    obtain ⟨q, rfl⟩ : ∃ q, n = q + 1 := ⟨n - 1, by omega⟩
    rw [Nat.add_sub_cancel, Nat.add_mul, Nat.one_mul]
  have e2 : i * k + (n - (i + 1)) * k = (n - 1) * k := by rw [← Nat.add_mul]; congr 1; omega
  have hpre : cur.toList.take (i * k) = xs.take (i * k) := by rw [← htk, List.take_take]; congr 1; omega
  generalize hL : (cur.toList.take (i * k) ++ xs.drop ((i + 1) * k) ++ cur.toList.drop (i * k + (xs.drop ((i + 1) * k)).length)) = L at hB
  have hLl : L.length = c * k := by
    rw [← hL]; simp only [List.length_append, List.length_take, List.length_drop, Array.length_toList, hsz, hxl]; omega
  have hLt : L.take ((n - 1) * k) = xs.take (i * k) ++ xs.drop ((i + 1) * k) := by
    rw [← hL, hpre]
    have : (xs.take (i * k) ++ xs.drop ((i + 1) * k)).length = (n - 1) * k := by
      rw [List.length_append, hlen, List.length_take, hxl]; omega
    rw [← this, List.take_left]
  obtain ⟨cur3, h3, h4, h5⟩ := Blk.setCells_ z.cells.toList ((n - 1) * k) w _ hB
  have hsome : ∀ j, j < z.cells.size → (w.cell? ⟨g, (n - 1) * k + j, none⟩).isSome = true := fun j hj => by
    rw [hB.cell]
    have : (n - 1) * k + j < L.toArray.size := by rw [List.size_toArray, hLl]; omega
    rw [Array.getElem?_eq_getElem this]; rfl
  refine ⟨_, cur3, fun ty q one h1e => by subst h1e; exact run_clear_one w t e ty z ht hv h1 g _ q hsome (fun j _ => hB.frozen _), h3, by rw [h4, List.size_toArray, hLl], ?_, below_setCells (Nat.le_refl _) _ _ _ hb⟩
  · rw [← hLt]
    apply List.ext_getElem?
    intro j
    rw [List.getElem?_take, List.getElem?_take]
    split
    · rename_i hj
      rw [Array.getElem?_toList, h5 j hj, List.getElem?_toArray]
    · rfl
theorem zv_rel : ∀ w, (zeroValue 31).run Tryd.prog w = .ok (.agg #[.int .i64 0, .bool false, .bool false, .int .i64 0, .int .i64 0, .int .i64 0]) w := fun _ => by kernel_rfl
theorem zv_id : ∀ w, (zeroValue 38).run Tryd.prog w = .ok (.int .u64 0) w := fun _ => by kernel_rfl
def DelP (w : World) (g n c k : Nat) (t : TypeId) (xs : List Value) (e : Ending) (w' : World) : Prop :=
  ∃ cur, e = .returned (.slice (some ⟨g, 0, none⟩) n c) ∧ Blk w' g t cur ∧ cur.size = c * k ∧ cur.toList.take (n * k) = xs ∧ Below g w w'
theorem blk_src {w : World} {g c n k i : Nat} {t : TypeId} {cur : Array Value} {xs : List Value} {ad : Addr} (had : (if c = i + 1 then some (⟨g, 0, none⟩ : Addr) else some ⟨g, (i + 1) * k, none⟩) = some ad) (h : Blk w g t cur) (hk : 0 < k) (htk : cur.toList.take (n * k) = xs) (hi : i + 1 ≤ n) (hnc : n ≤ c) :
    ∀ j u, (xs.drop ((i + 1) * k))[j]? = some u → w.cell? (ad.add j) = some u := by
  intro j u hu
  have hx : xs.length ≤ n * k := by rw [← htk, List.length_take]; omega
  rw [List.getElem?_drop] at hu
  have hj : (i + 1) * k + j < n * k := by
    have := (List.getElem?_eq_some_iff.1 hu).1
    omega
  have hne : ¬ c = i + 1 := by
    intro hc
    have : n = i + 1 := by omega
    subst this
    omega
  rw [if_neg hne] at had
  injection had with had
  subst had
  rw [add_none, h.cell]
  rw [← htk, List.getElem?_take, if_pos hj] at hu
  rw [← Array.getElem?_toList]; exact hu
set_option maxRecDepth 100000 in
set_option maxHeartbeats 4000000 in
theorem delete_rel (g n c i : Nat) (cur : Array Value) (xs : List Value) (w : World) (hblk : Blk w g 31 cur) (hnc : n ≤ c) (hsz : cur.size = c * 6) (htk : cur.toList.take (n * 6) = xs) (h1 : ∀ u ∈ xs, u.oneCell' = true) (hi : i < n) (hn : n ≤ 65536) (hc : c ≤ 9223372036854775807) :
    Calls Tryd.prog 53 #[.slice (some ⟨g, 0, none⟩) n c, .int .i64 i, .int .i64 ((i : Int) + 1)] w (DelP w g (n - 1) c 6 31 (xs.take (i * 6) ++ xs.drop ((i + 1) * 6))) := by
  obtain ⟨i0, hi0, hz0, hz1, hz2⟩ := info_parts info_rel
  have hxl : xs.length = n * 6 := by rw [← htk, List.length_take, Array.length_toList, hsz]; omega
  have hlen : (xs.drop ((i + 1) * 6)).length = (n - (i + 1)) * 6 := by rw [List.length_drop, hxl]; omega
  have hfit : i * 6 + (xs.drop ((i + 1) * 6)).length ≤ cur.size := by rw [hlen, hsz]; omega
  have hnb : n ≤ c := hnc
  have t1 : (i : Int) ≤ (i : Int) + 1 := by omega
  have t2 : (i : Int) + 1 ≤ (n : Int) := by omega
  have t3 : (n : Int) ≤ (c : Int) := by omega
  have t4 : (i : Int) ≤ (c : Int) := by omega
  have t5 : (i : Int) + 1 ≤ (c : Int) := by omega
  have t6 : ((i : Int) == (i : Int) + 1) = false := by simp; omega
  have t7 : i + 1 ≤ n := by omega
  have t8 : i ≤ n := by omega
  have t9 : (0 : Int) ≤ (i : Int) + 1 := by omega
  have H1 := Lib.hid h1
  have HX := Lib.hid hxl
  have HF := Lib.hid hfit
  have HL := Lib.hid hlen
  have HT := Lib.hid htk
  have HZ := Lib.hid hsz
  have hB0 := Below.refl g w
  clear h1 hxl hfit hlen htk hsz
  go_enter Tryd.func53, Tryd.ntmps53
  go_wp2_with fail
  have hBl : Blk w.drew g 31 cur := hblk
  have hlen := HL.out
  have htk := HT.out
  have hfit := HF.out
  have h1 := H1.out
  have hsz := HZ.out
  obtain ⟨ad, had⟩ : ∃ ad, (if c = i + 1 then some (⟨g, 0, none⟩ : Addr) else some ⟨g, (i + 1) * 6, none⟩) = some ad := by split <;> exact ⟨_, rfl⟩
  refine wp_region_held_drew (S := fun w' => Below g w w') (by kernel_rfl) hB0.drew (fun hHeld => ?_)
  refine wpAnyH_take (i := 0) (oi := _) (v := ?_) rfl (by kernel_rfl) (by kernel_rfl) (by kernel_rfl) (fun _ _ _ h => h) (Or.inl ⟨by rfl, ?_⟩) hHeld ?_
  rotate_left
  · intro w hSw; obtain _h0 := hSw; go_simp; try with_reducible rfl
  simp only [Act.put, List.getElem_toArray, List.getElem_cons_succ, List.getElem_cons_zero, List.setIfInBounds_toArray, List.set_cons_zero, List.set_cons_succ]
  refine wpAnyH_take (i := 1) (oi := _) (v := ?_) rfl (by kernel_rfl) (by kernel_rfl) (by kernel_rfl) (fun _ _ _ h => h) (Or.inl ⟨by rfl, ?_⟩) hHeld ?_
  rotate_left
  · intro w hSw; obtain _h0 := hSw; go_simp; try with_reducible rfl
  simp only [Act.put, List.getElem_toArray, List.getElem_cons_succ, List.getElem_cons_zero, List.setIfInBounds_toArray, List.set_cons_zero, List.set_cons_succ]
  refine wpAnyH_take (i := 2) (oi := _) (v := ?_) rfl (by kernel_rfl) (by kernel_rfl) (by kernel_rfl) (fun _ _ _ h => h) (Or.inl ⟨by rfl, ?_⟩) hHeld ?_
  rotate_left
  · intro w hSw; obtain _h0 := hSw; go_simp; try with_reducible rfl
  simp only [Act.put, List.getElem_toArray, List.getElem_cons_succ, List.getElem_cons_zero, List.setIfInBounds_toArray, List.set_cons_zero, List.set_cons_succ]
  refine wpAnyH_take (i := 3) (oi := _) (v := ?_) rfl (by kernel_rfl) (by kernel_rfl) (by kernel_rfl) (fun _ _ _ h => h) (Or.inl ⟨by rfl, ?_⟩) hHeld ?_
  rotate_left
  · intro w hSw; obtain _h0 := hSw; go_simp; try with_reducible rfl
  simp only [Act.put, List.getElem_toArray, List.getElem_cons_succ, List.getElem_cons_zero, List.setIfInBounds_toArray, List.set_cons_zero, List.set_cons_succ]
  refine wpAnyH_take (i := 4) (oi := _) (v := ?_) rfl (by kernel_rfl) (by kernel_rfl) (by kernel_rfl) (fun _ _ _ h => h) (Or.inl ⟨by rfl, ?_⟩) hHeld ?_
  rotate_left
  · intro w hSw; obtain _h0 := hSw; go_simp; try with_reducible rfl
  simp only [Act.put, List.getElem_toArray, List.getElem_cons_succ, List.getElem_cons_zero, List.setIfInBounds_toArray, List.set_cons_zero, List.set_cons_succ]
  refine wpAnyH_take (i := 5) (oi := _) (v := ?_) rfl (by kernel_rfl) (by kernel_rfl) (by kernel_rfl) (fun _ _ _ h => h) (Or.inl ⟨by rfl, ?_⟩) hHeld ?_
  rotate_left
  · intro w hSw; obtain _h0 := hSw; go_simp; try with_reducible rfl
  simp only [Act.put, List.getElem_toArray, List.getElem_cons_succ, List.getElem_cons_zero, List.setIfInBounds_toArray, List.set_cons_zero, List.set_cons_succ]
  refine wpAnyH_ready (rs := [6]) (by kernel_rfl) (by simp) (AllReadyH.cons (o := _) rfl (fun K hK => ?_) AllReadyH.nil)
  refine step_append_blk rfl (.tmp 22) (.tmp 25) 22 rfl 31 i0 6 Tryd.underlying22 hi0 hz1 g i c cur hBl (by rfl) ad (n - (i + 1)) (c - (i + 1)) (xs.drop ((i + 1) * 6)) (by rw [← had]; rfl) hlen (blk_src had hBl (by omega) htk (by omega) hnc) (fun u hu => h1 u (List.mem_of_mem_drop hu)) (by omega) hfit ?_
  intro w2 hB2 hg2
  refine hK.out _ _ (hHeld.grown hg2 (Nat.le_of_lt hBl.lt) (fun k hk => by cases hk; exact Nat.le_refl _)) (fun hHeld => ?_)
  clear hK K
  try simp only [Act.put, List.getElem_toArray, List.getElem_cons_succ, List.getElem_cons_zero, List.setIfInBounds_toArray, List.set_cons_zero, List.set_cons_succ]
  refine wpAnyH_take (i := 7) (oi := _) (v := ?_) rfl (by kernel_rfl) (by kernel_rfl) (by kernel_rfl) (fun _ _ _ h => h) (Or.inl ⟨by rfl, ?_⟩) hHeld ?_
  rotate_left
  · intro w hSw; go_simp; try with_reducible rfl
  simp only [Act.put, List.getElem_toArray, List.getElem_cons_succ, List.getElem_cons_zero, List.setIfInBounds_toArray, List.set_cons_zero, List.set_cons_succ]
  refine wpAnyH_done (by kernel_rfl) ?_ _
  obtain ⟨m, hm⟩ : ∃ m, m = n - 1 := ⟨_, rfl⟩
  obtain ⟨W3, cur3, hrun3, hB3, hz3, htk3, hb3⟩ := del_clear (P := Tryd.prog) (k := 6) Tryd.underlying22 zv_rel (by simp [Value.cells]) (by intro u hu; simp [Value.cells] at hu; rcases hu with rfl | rfl | rfl | rfl | rfl | rfl <;> rfl) hB2 (i := i) (n := n) (c := c) (xs := xs) (by omega) hsz htk hlen HX.out hi hnc hHeld hm
  rw [show i + (n - (i + 1)) = m from by omega, ← hm]
  have hr := fun ty => hrun3 ty (c - m) (n - m) (by omega)
  skip
  have s1 : (m : Int) ≤ (n : Int) := by omega
  have s2 : (n : Int) ≤ (c : Int) := by omega
  have s3 : m ≤ n := by omega
  have s4 : m < c := by omega
  have s5 : (m : Int) < (c : Int) := by omega
  have hfin : DelP w g m c 6 31 (xs.take (i * 6) ++ xs.drop ((i + 1) * 6)) (.returned (.slice (some ⟨g, 0, none⟩) m c)) W3 := ⟨cur3, rfl, hB3, hz3, htk3, hb3⟩
  have hE := Lib.hid hm
  clear hB2 hg2 hHeld hm hrun3 had hB3 hz3 htk3 hb3 hi hnc t2 t3 t4 t5 t6 t7 t8 t9 t1 hnb
  clear hBl hlen htk hfit h1 hsz H1 HX HF HL HT HZ hblk hB0
  go_wp2_with fail
  go_ret
  rw [← hE.out]
  exact hfin
set_option maxRecDepth 100000 in
set_option maxHeartbeats 4000000 in
theorem delete_id (g n c i : Nat) (cur : Array Value) (xs : List Value) (w : World) (hblk : Blk w g 38 cur) (hnc : n ≤ c) (hsz : cur.size = c * 1) (htk : cur.toList.take (n * 1) = xs) (h1 : ∀ u ∈ xs, u.oneCell' = true) (hi : i < n) (hn : n ≤ 65536) (hc : c ≤ 9223372036854775807) :
    Calls Tryd.prog 56 #[.slice (some ⟨g, 0, none⟩) n c, .int .i64 i, .int .i64 ((i : Int) + 1)] w (DelP w g (n - 1) c 1 38 (xs.take (i * 1) ++ xs.drop ((i + 1) * 1))) := by
  obtain ⟨i0, hi0, hz0, hz1, hz2⟩ := info_parts info_id
  have hxl : xs.length = n * 1 := by rw [← htk, List.length_take, Array.length_toList, hsz]; omega
  have hlen : (xs.drop ((i + 1) * 1)).length = (n - (i + 1)) * 1 := by rw [List.length_drop, hxl]; omega
  have hfit : i * 1 + (xs.drop ((i + 1) * 1)).length ≤ cur.size := by rw [hlen, hsz]; omega
  have hnb : n ≤ c := hnc
  have t1 : (i : Int) ≤ (i : Int) + 1 := by omega
  have t2 : (i : Int) + 1 ≤ (n : Int) := by omega
  have t3 : (n : Int) ≤ (c : Int) := by omega
  have t4 : (i : Int) ≤ (c : Int) := by omega
  have t5 : (i : Int) + 1 ≤ (c : Int) := by omega
  have t6 : ((i : Int) == (i : Int) + 1) = false := by simp; omega
  have t7 : i + 1 ≤ n := by omega
  have t8 : i ≤ n := by omega
  have t9 : (0 : Int) ≤ (i : Int) + 1 := by omega
  have H1 := Lib.hid h1
  have HX := Lib.hid hxl
  have HF := Lib.hid hfit
  have HL := Lib.hid hlen
  have HT := Lib.hid htk
  have HZ := Lib.hid hsz
  have hB0 := Below.refl g w
  clear h1 hxl hfit hlen htk hsz
  go_enter Tryd.func56, Tryd.ntmps56
  go_wp2_with fail
  have hBl : Blk w.drew g 38 cur := hblk
  have hlen := HL.out
  have htk := HT.out
  have hfit := HF.out
  have h1 := H1.out
  have hsz := HZ.out
  obtain ⟨ad, had⟩ : ∃ ad, (if c = i + 1 then some (⟨g, 0, none⟩ : Addr) else some ⟨g, i + 1, none⟩) = some ad := by split <;> exact ⟨_, rfl⟩
  refine wp_region_held_drew (S := fun w' => Below g w w') (by kernel_rfl) hB0.drew (fun hHeld => ?_)
  refine wpAnyH_take (i := 0) (oi := _) (v := ?_) rfl (by kernel_rfl) (by kernel_rfl) (by kernel_rfl) (fun _ _ _ h => h) (Or.inl ⟨by rfl, ?_⟩) hHeld ?_
  rotate_left
  · intro w hSw; obtain _h0 := hSw; go_simp; try with_reducible rfl
  simp only [Act.put, List.getElem_toArray, List.getElem_cons_succ, List.getElem_cons_zero, List.setIfInBounds_toArray, List.set_cons_zero, List.set_cons_succ]
  refine wpAnyH_take (i := 1) (oi := _) (v := ?_) rfl (by kernel_rfl) (by kernel_rfl) (by kernel_rfl) (fun _ _ _ h => h) (Or.inl ⟨by rfl, ?_⟩) hHeld ?_
  rotate_left
  · intro w hSw; obtain _h0 := hSw; go_simp; try with_reducible rfl
  simp only [Act.put, List.getElem_toArray, List.getElem_cons_succ, List.getElem_cons_zero, List.setIfInBounds_toArray, List.set_cons_zero, List.set_cons_succ]
  refine wpAnyH_take (i := 2) (oi := _) (v := ?_) rfl (by kernel_rfl) (by kernel_rfl) (by kernel_rfl) (fun _ _ _ h => h) (Or.inl ⟨by rfl, ?_⟩) hHeld ?_
  rotate_left
  · intro w hSw; obtain _h0 := hSw; go_simp; try with_reducible rfl
  simp only [Act.put, List.getElem_toArray, List.getElem_cons_succ, List.getElem_cons_zero, List.setIfInBounds_toArray, List.set_cons_zero, List.set_cons_succ]
  refine wpAnyH_take (i := 3) (oi := _) (v := ?_) rfl (by kernel_rfl) (by kernel_rfl) (by kernel_rfl) (fun _ _ _ h => h) (Or.inl ⟨by rfl, ?_⟩) hHeld ?_
  rotate_left
  · intro w hSw; obtain _h0 := hSw; go_simp; try with_reducible rfl
  simp only [Act.put, List.getElem_toArray, List.getElem_cons_succ, List.getElem_cons_zero, List.setIfInBounds_toArray, List.set_cons_zero, List.set_cons_succ]
  refine wpAnyH_take (i := 4) (oi := _) (v := ?_) rfl (by kernel_rfl) (by kernel_rfl) (by kernel_rfl) (fun _ _ _ h => h) (Or.inl ⟨by rfl, ?_⟩) hHeld ?_
  rotate_left
  · intro w hSw; obtain _h0 := hSw; go_simp; try with_reducible rfl
  simp only [Act.put, List.getElem_toArray, List.getElem_cons_succ, List.getElem_cons_zero, List.setIfInBounds_toArray, List.set_cons_zero, List.set_cons_succ]
  refine wpAnyH_take (i := 5) (oi := _) (v := ?_) rfl (by kernel_rfl) (by kernel_rfl) (by kernel_rfl) (fun _ _ _ h => h) (Or.inl ⟨by rfl, ?_⟩) hHeld ?_
  rotate_left
  · intro w hSw; obtain _h0 := hSw; go_simp; try with_reducible rfl
  simp only [Act.put, List.getElem_toArray, List.getElem_cons_succ, List.getElem_cons_zero, List.setIfInBounds_toArray, List.set_cons_zero, List.set_cons_succ]
  refine wpAnyH_ready (rs := [6]) (by kernel_rfl) (by simp) (AllReadyH.cons (o := _) rfl (fun K hK => ?_) AllReadyH.nil)
  refine step_append_blk rfl (.tmp 22) (.tmp 25) 35 rfl 38 i0 1 Tryd.underlying35 hi0 hz1 g i c cur hBl (by rfl) ad (n - (i + 1)) (c - (i + 1)) (xs.drop ((i + 1) * 1)) (by rw [← had]; rfl) hlen (blk_src (by simpa only [Nat.mul_one] using had) hBl (by omega) htk (by omega) hnc) (fun u hu => h1 u (List.mem_of_mem_drop hu)) (by omega) hfit ?_
  intro w2 hB2 hg2
  refine hK.out _ _ (hHeld.grown hg2 (Nat.le_of_lt hBl.lt) (fun k hk => by cases hk; exact Nat.le_refl _)) (fun hHeld => ?_)
  clear hK K
  try simp only [Act.put, List.getElem_toArray, List.getElem_cons_succ, List.getElem_cons_zero, List.setIfInBounds_toArray, List.set_cons_zero, List.set_cons_succ]
  refine wpAnyH_take (i := 7) (oi := _) (v := ?_) rfl (by kernel_rfl) (by kernel_rfl) (by kernel_rfl) (fun _ _ _ h => h) (Or.inl ⟨by rfl, ?_⟩) hHeld ?_
  rotate_left
  · intro w hSw; go_simp; try with_reducible rfl
  simp only [Act.put, List.getElem_toArray, List.getElem_cons_succ, List.getElem_cons_zero, List.setIfInBounds_toArray, List.set_cons_zero, List.set_cons_succ]
  refine wpAnyH_done (by kernel_rfl) ?_ _
  obtain ⟨m, hm⟩ : ∃ m, m = n - 1 := ⟨_, rfl⟩
  obtain ⟨W3, cur3, hrun3, hB3, hz3, htk3, hb3⟩ := del_clear (P := Tryd.prog) (k := 1) Tryd.underlying35 zv_id (by simp [Value.cells]) (by intro u hu; simp [Value.cells] at hu; subst hu; rfl) hB2 (i := i) (n := n) (c := c) (xs := xs) (by omega) hsz htk hlen HX.out hi hnc hHeld hm
  rw [show i + (n - (i + 1)) = m from by omega, ← hm]
  have hr := fun ty => hrun3 ty (c - m) (n - m) (by omega)
  simp only [Nat.mul_one] at hr
  have s1 : (m : Int) ≤ (n : Int) := by omega
  have s2 : (n : Int) ≤ (c : Int) := by omega
  have s3 : m ≤ n := by omega
  have s4 : m < c := by omega
  have s5 : (m : Int) < (c : Int) := by omega
  have hfin : DelP w g m c 1 38 (xs.take (i * 1) ++ xs.drop ((i + 1) * 1)) (.returned (.slice (some ⟨g, 0, none⟩) m c)) W3 := ⟨cur3, rfl, hB3, hz3, htk3, hb3⟩
  have hE := Lib.hid hm
  clear hB2 hg2 hHeld hm hrun3 had hB3 hz3 htk3 hb3 hi hnc t2 t3 t4 t5 t6 t7 t8 t9 t1 hnb
  clear hBl hlen htk hfit h1 hsz H1 HX HF HL HT HZ hblk hB0
  go_wp2_with fail
  go_ret
  rw [← hE.out]
  simp only [Nat.mul_one] at hfin ⊢; exact hfin
end Go.Proofs.YtibjelonabhcmaaDoor
