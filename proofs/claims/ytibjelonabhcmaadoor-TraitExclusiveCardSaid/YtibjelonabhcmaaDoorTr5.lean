/- What is proved: contract of trait's Replaced. -/
import Derived.Test.YtibjelonabhcmaaDoorTr4
namespace Go.Proofs.YtibjelonabhcmaaDoor
open Go.RowKit
set_option linter.unusedVariables false
set_option linter.unusedSimpArgs false
def tgts (held : List WInt) (r : Int) : List Int := (sel held (pq fun a _ => a == r)).map (fun x => pb x.1)
def replGo (r t : Int) (ns : List Int) : List Int := (ns.filter (fun n => paiE r n == 0 && n != t)).map (paiV r)
def replL (l : List Rel) (held : List WInt) (id : Int) : List Int :=
  match tfind l (pa id) with | some x => if kd id = 3 ∧ x.e = true then replGo (pa id) (pb id) (tgts held (pa id)) else [] | none => []
theorem repl_ways (l : List Rel) (held : List WInt) (id : Int) :
    ((kd id != 3) = true ∧ replL l held id = []) ∨ (kd id = 3 ∧ tfind l (pa id) = none ∧ replL l held id = []) ∨ (kd id = 3 ∧ (∃ x, tfind l (pa id) = some x ∧ x.e = false) ∧ replL l held id = []) ∨
    (kd id = 3 ∧ (∃ x, tfind l (pa id) = some x ∧ x.e = true) ∧ replL l held id = replGo (pa id) (pb id) (tgts held (pa id))) := by
  unfold replL
  by_cases h3 : kd id = 3
  · right
    cases ht : tfind l (pa id) with
    | none => left; exact ⟨h3, rfl, rfl⟩
    | some x =>
      right
      cases he : x.e
      · left; exact ⟨h3, ⟨x, rfl, he⟩, by simp [he]⟩
      · right; exact ⟨h3, ⟨x, rfl, he⟩, by simp [h3, he]⟩
  · left
    refine ⟨by simpa using h3, ?_⟩
    cases tfind l (pa id) with
    | none => rfl
    | some x => simp [h3]
/-- a row of ids of one's own -/
def OwnI (l : List Int) (w : World) (e : Ending) (w' : World) : Prop := ∃ v, e = .returned v ∧ w'.ownsRow w.heap.size 38 1 v l.length (ids l) ∧ Below w.heap.size w w'
theorem OwnI.nil {w w' : World} {l : List Int} (h : Below w.heap.size w w') (hl : l = []) : OwnI l w (.returned (.slice none 0 0)) w' := ⟨_, rfl, by subst hl; exact World.ownsRow_nil _ _ _ _, h⟩
theorem i64s_cell {w : World} {B n : Nat} {A : Option Addr} {l : List Int} (h : Reads w B 1 A n (i64s l)) {k : Nat} {x : Int} (hk : l[k]? = some x) :
    ∃ b off, A = some ⟨b, off, none⟩ ∧ b < B ∧ w.cell? ⟨b, off + k, none⟩ = some (.int .i64 x) := by
  have hn : k < n := by
    have h1 := h.1
    unfold i64s at h1
    rw [List.length_map] at h1
    have := (List.getElem?_eq_some_iff.1 hk).1
    omega
  obtain ⟨ad, u, rfl, hb, hu, hc⟩ := h.at_ hn
  obtain ⟨ad', u', e, _, _, hc'⟩ := h.at_ (show 0 < n by omega)
  injection e with e
  subst e
  unfold i64s at hu
  rw [List.getElem?_map, hk] at hu
  cases hu
  obtain ⟨b, off, spot⟩ := ad
  have hspot : spot = none := by simpa [Addr.add] using World.cell?_spot hc'
  subst hspot
  exact ⟨b, off, rfl, hb, by rw [add_none] at hc; exact hc⟩
theorem ids_snoc {w : World} {B : Nat} {v : Value} {l : List Int} {x : Int} (h : w.ownsRow B 38 1 v (l.length + 1) (ids l ++ [.int .u64 x])) : w.ownsRow B 38 1 v (l ++ [x]).length (ids (l ++ [x])) := by
  unfold ids at *
  rw [List.length_append, List.map_append]; exact h
theorem replGo_snoc (r t : Int) (ns : List Int) (n : Int) : replGo r t (ns ++ [n]) = replGo r t ns ++ (if paiE r n == 0 && n != t then [paiV r n] else []) := by
  unfold replGo
  rw [List.filter_append, List.map_append]
  congr 1
  cases h : (paiE r n == 0 && n != t) <;> simp [List.filter_cons, h]
theorem replGo_len (r t : Int) (ns : List Int) : (replGo r t ns).length ≤ ns.length := by unfold replGo; rw [List.length_map]; exact List.length_filter_le _ _
theorem paiE_cases (r n : Int) : paiE r n = 0 ∨ paiE r n = 2 := by unfold paiE; split <;> simp
theorem sel_len (l : List WInt) (p : Int → Bool) : (sel l p).length ≤ 12 := by
  unfold sel
  cases h : tyR (vals l)
  · simp
  · have : (vals l).length ≤ 12 := by unfold tyR at h; simp only [Bool.and_eq_true, decide_eq_true_eq] at h; exact h.1
    unfold vals at this
    rw [List.length_map] at this
    exact Nat.le_trans (List.length_filter_le _ _) this
set_option maxRecDepth 100000 in
set_option maxHeartbeats 8000000 in
theorem repl_any (A : Option Addr) (n c : Nat) (l : List Rel) (A2 : Option Addr) (n2 c2 : Nat) (held : List WInt) (id : Int) (w : World) (hE : Env w) (hR : Reads w w.heap.size 6 A n (rels l)) (hn : n ≤ 65536)
    (hR2 : Reads w w.heap.size 1 A2 n2 (ids (vals held))) (hn2 : n2 ≤ 281474976710656) (hid : Word id) :
    Calls Tryd.prog 30 #[.slice A n c, .slice A2 n2 c2, .int .u64 id] w (OwnI (replL l held id) w) := by
  have cf := fun (W : World) (h : Below w.heap.size w W) => tfind_any A n c l (pa id) W (hE.below h) ((hR.below h).more h.size) hn
  have cp := fun w => parts_any id hid w
  have ck := fun w => kind_any id hid w
  have ct := fun (W : World) (h : Below w.heap.size w W) => targets_any A2 n2 c2 held (pa id) W ((hR2.below h).more h.size) hn2
  have hB := Below.refl w.heap.size w
  clear hR hE hR2
  rcases repl_ways l held id with ⟨k1, k9⟩ | ⟨k1, k2, k9⟩ | ⟨k1, ⟨x, k2, k3⟩, k9⟩ | ⟨k1, ⟨x, k2, k3⟩, k9⟩
  · have hend := fun (w' : World) (hb : Below w.heap.size w w') => OwnI.nil hb k9
    obtain ⟨y, hy⟩ : ∃ y : Option Rel, tfind l (pa id) = y := ⟨_, rfl⟩
    rw [hy] at cf
    clear hy k9 ct
    generalize pa id = pav at *
    generalize pb id = pbv at *
    cases y with
    | none =>
      dsimp only [trOf, trV, Option.isSome_none] at cf
      go_enter Tryd.func30, Tryd.ntmps30
      go_wp2_with (first
        | (go_at_call 49; (with_reducible refine (cp _).mono ?_); rintro en w2 ⟨rfl, hb2⟩; have hB := hB.trans (hb2.mono hB.size))
        | (go_at_call 27; (with_reducible refine (cf _ hB).mono ?_); rintro en w4 ⟨rfl, hb4⟩; have hB := hB.trans (hb4.mono hB.size))
        | (go_at_call 50; (with_reducible refine (ck _).mono ?_); rintro en w3 ⟨rfl, hb3⟩; have hB3 := (hB.alloc hB.size _).trans (hb3.mono (Nat.le_trans hB.size (by simp))))
        | fail)
      go_ret
      exact hend _ hB3
    | some x =>
      dsimp only [trOf, trV, Option.isSome_some] at cf
      go_enter Tryd.func30, Tryd.ntmps30
      go_wp2_with (first
        | (go_at_call 49; (with_reducible refine (cp _).mono ?_); rintro en w2 ⟨rfl, hb2⟩; have hB := hB.trans (hb2.mono hB.size))
        | (go_at_call 27; (with_reducible refine (cf _ hB).mono ?_); rintro en w4 ⟨rfl, hb4⟩; have hB := hB.trans (hb4.mono hB.size))
        | (go_at_call 50; (with_reducible refine (ck _).mono ?_); rintro en w3 ⟨rfl, hb3⟩; have hB3 := (hB.alloc hB.size _).trans (hb3.mono (Nat.le_trans hB.size (by simp))))
        | fail)
      go_ret
      exact hend _ hB3
  · have hend := fun (w' : World) (hb : Below w.heap.size w w') => OwnI.nil hb k9
    rw [k2] at cf
    rw [k1] at ck
    clear k9 ct k1 k2
    generalize pa id = pav at *
    generalize pb id = pbv at *
    dsimp only [trOf, trV, Option.isSome_none] at cf
    go_enter Tryd.func30, Tryd.ntmps30
    go_wp2_with (first
        | (go_at_call 49; (with_reducible refine (cp _).mono ?_); rintro en w2 ⟨rfl, hb2⟩; have hB := hB.trans (hb2.mono hB.size))
        | (go_at_call 27; (with_reducible refine (cf _ hB).mono ?_); rintro en w4 ⟨rfl, hb4⟩; have hB := hB.trans (hb4.mono hB.size))
        | (go_at_call 50; (with_reducible refine (ck _).mono ?_); rintro en w3 ⟨rfl, hb3⟩; have hB3 := (hB.alloc hB.size _).trans (hb3.mono (Nat.le_trans hB.size (by simp))))
        | fail)
    go_ret
    exact hend _ hB3
  · have hend := fun (w' : World) (hb : Below w.heap.size w w') => OwnI.nil hb k9
    rw [k2] at cf
    rw [k1] at ck
    dsimp only [trOf, trV, Option.isSome_some] at cf
    rw [k3] at cf
    clear k9 ct k1 k2 k3
    generalize pa id = pav at *
    generalize pb id = pbv at *
    go_enter Tryd.func30, Tryd.ntmps30
    go_wp2_with (first
        | (go_at_call 49; (with_reducible refine (cp _).mono ?_); rintro en w2 ⟨rfl, hb2⟩; have hB := hB.trans (hb2.mono hB.size))
        | (go_at_call 27; (with_reducible refine (cf _ hB).mono ?_); rintro en w4 ⟨rfl, hb4⟩; have hB := hB.trans (hb4.mono hB.size))
        | (go_at_call 50; (with_reducible refine (ck _).mono ?_); rintro en w3 ⟨rfl, hb3⟩; obtain ⟨q0, q1, q3, q4⟩ := traits_at hb3; have hB3 := (hB.alloc hB.size _).trans (hb3.mono (Nat.le_trans hB.size (by simp))))
        | fail)
    go_ret
    exact hend _ hB3
  · rw [k9]
    rw [k2] at cf
    rw [k1] at ck
    dsimp only [trOf, trV, Option.isSome_some] at cf
    rw [k3] at cf
    have htl : (tgts held (pa id)).length ≤ 12 := by unfold tgts; rw [List.length_map]; exact sel_len _ _
    have ct2 : ∀ (W : World), Below w.heap.size w W → Calls Tryd.prog 34 #[.slice A2 n2 c2, .int .i64 (pa id)] W fun e w' => ∃ v, e = .returned v ∧ w'.ownsRow W.heap.size 3 1 v (tgts held (pa id)).length (i64s (tgts held (pa id))) ∧ Below W.heap.size W w' := fun W h =>
      (ct W h).mono fun e w' ⟨v, he, ho, hb⟩ => ⟨v, he, by unfold tgts i64s; rw [List.length_map, List.map_map]; exact ho, hb⟩
    clear k9 ct k1 k2 k3
    generalize tgts held (pa id) = ns at *
    have hpx := fun (r t : Int) (w : World) => pair_any r t w
    generalize pa id = pav at *
    generalize pb id = pbv at *
    obtain ⟨i0, hi0, hz0, hz1, hz2⟩ := info_parts info_id
    go_enter Tryd.func30, Tryd.ntmps30
    go_wp2_with (first
        | (go_at_call 49; (with_reducible refine (cp _).mono ?_); rintro en w2 ⟨rfl, hb2⟩; have hB := hB.trans (hb2.mono hB.size))
        | (go_at_call 27; (with_reducible refine (cf _ hB).mono ?_); rintro en w4 ⟨rfl, hb4⟩; have hB := hB.trans (hb4.mono hB.size))
        | (go_at_call 50; (with_reducible refine (ck _).mono ?_); rintro en w3 ⟨rfl, hb3⟩; obtain ⟨q0, q1, q3, q4⟩ := traits_at hb3; have hB3 := (hB.alloc hB.size _).trans (hb3.mono (Nat.le_trans hB.size (by simp))))
        | (go_at_call 34; (with_reducible refine (ct2 _ hB3).mono ?_); rintro en w5 ⟨v5, rfl, ho5, hb5⟩; have hB5 := hB3.trans (hb5.mono hB3.size); have hR5 := ho5; obtain ⟨A5, c5, rfl⟩ := own_slice ho5; have HR5 := Lib.hid (Reads.of_own hR5); clear ho5 hR5)
        | fail)
    have hR5 := HR5.out
    clear HR5 ct2 cf ck cp q0 q1 q3 q4 hB3 hb3 hb4 hb2 hb5
    go_loopw [11, 43] (fun u i wr => ∃ k : Nat, k ≤ ns.length ∧ i = .int .i64 k ∧ wr.ownsRow w5.heap.size 38 1 u (replGo pav pbv (ns.take k)).length (ids (replGo pav pbv (ns.take k))) ∧ Below w5.heap.size w5 wr)
      (fun _ i _ => ns.length - (intOf i).toNat)
    case atStart => exact ⟨0, Nat.zero_le _, rfl, World.ownsRow_nil _ _ _ _, Below.refl _ _⟩
    case round =>
      obtain ⟨k, hk, rfl, ho, hb⟩ := hrel
      by_cases hlt : k < ns.length
      · have e1 := List.getElem?_eq_getElem (l := ns) (i := k) (by omega)
        generalize ns[k]'(by omega) = m at e1
        have hs := replGo_snoc pav pbv (ns.take k) m
        rw [← take_snoc e1] at hs
        have hlen : (replGo pav pbv (ns.take k)).length ≤ 12 := Nat.le_trans (replGo_len _ _ _) (by rw [List.length_take]; omega)
        obtain ⟨b, off, rfl, hbl, g⟩ := i64s_cell hR5 e1
        have g1 := cell_below' hb g hbl
        have cpx := fun W => hpx pav m W
        clear e1 g hR5 hpx
        generalize replGo pav pbv (ns.take k) = s at *
        have HO := Lib.hid ho
        clear ho
        have hways : (paiE pav m = 2 ∧ replGo pav pbv (ns.take (k + 1)) = s) ∨ (paiE pav m = 0 ∧ (m != pbv) = false ∧ replGo pav pbv (ns.take (k + 1)) = s) ∨ (paiE pav m = 0 ∧ (m != pbv) = true ∧ replGo pav pbv (ns.take (k + 1)) = s ++ [paiV pav m]) := by
          rw [hs]
          rcases paiE_cases pav m with h | h
          · right
            cases h2 : (m != pbv)
            · left; exact ⟨h, rfl, by rw [h]; simp⟩
            · right; exact ⟨h, rfl, by rw [h]; simp⟩
          · left; exact ⟨h, by rw [h]; simp⟩
        clear hs
        rcases hways with ⟨h1, h3⟩ | ⟨h1, h2, h3⟩ | ⟨h1, h2, h3⟩
        · rw [h1] at cpx
          have HS := Lib.hid h3
          clear h1 h3
          go_wp2_with (first
            | (go_at_call 54; (with_reducible refine (cpx _).mono ?_); rintro en w6 ⟨rfl, hb6⟩)
            | fail)
          go_roundw
          case rel => exact ⟨k + 1, by omega, by go_num, by rw [HS.out]; exact own_below HO.out hb6, hb.trans (hb6.mono hb.size)⟩
          case measure => simp [intOf]; omega
        · rw [h1] at cpx
          have HS := Lib.hid h3
          clear h1 h3
          go_wp2_with (first
            | (go_at_call 54; (with_reducible refine (cpx _).mono ?_); rintro en w6 ⟨rfl, hb6⟩)
            | fail)
          go_roundw
          case rel => exact ⟨k + 1, by omega, by go_num, by rw [HS.out]; exact own_below HO.out hb6, hb.trans (hb6.mono hb.size)⟩
          case measure => simp [intOf]; omega
        · rw [h1] at cpx
          have HS := Lib.hid h3
          clear h1 h3
          generalize paiV pav m = pv at *
          go_wp2_with (first
            | (go_at_call 54; (with_reducible refine (cpx _).mono ?_); rintro en w6 ⟨rfl, hb6⟩)
            | (at_builtin
               refine wpList_append_any _ rfl (.tmp 60) (.tmp 62) _ rfl w5.heap.size 38 i0 _ 1 8 Tryd.underlying35 hi0 hz0 hz1 hz2 rfl (by omega) _ s.length (ids s) rfl
                 ?_ (w6.heap.size + 1) (some ⟨w6.heap.size, 0, none⟩) 1 1 [Value.int .u64 pv] rfl ?_ (by simp [Value.oneCell']) (by simp only [maxLen]; omega) (by omega) ?_ ?_
               · exact (own_below HO.out hb6).alloc _
               · exact lit_one _ _ _ rfl
               · have := hb.size; have := hb6.size; simp; omega
               intro v1 w1 hown1 hg1 hat1)
            | fail)
          have hbb := hb.trans (hb6.mono hb.size)
          have hb1 := own_grown_below (hbb.alloc hbb.size _) ((own_below HO.out hb6).alloc _) hg1
          have hown2 := ids_snoc hown1
          clear hown1 hg1 hat1
          go_wp2_with fail
          go_roundw
          case rel => exact ⟨k + 1, by omega, by go_num, by rw [HS.out]; exact hown2, hb1⟩
          case measure => simp [intOf]; omega
      · have : k = ns.length := by omega
        subst this
        rw [List.take_of_length_le (by omega)] at ho
        have hfin : ∀ u, wr.ownsRow w5.heap.size 38 1 u (replGo pav pbv ns).length (ids (replGo pav pbv ns)) → OwnI (replGo pav pbv ns) w (.returned u) wr := fun u h => ⟨u, rfl, base_le h hB5.size, hB5.trans (hb.mono hB5.size)⟩
        have HF := Lib.hid (hfin _ ho)
        clear hR5 ho hfin
        go_wp2_with fail
        go_ret
        exact HF.out
end Go.Proofs.YtibjelonabhcmaaDoor
