/- What is proved: contracts of types' closures, some, pairs, Targets, Mentions and Has. -/
import Derived.Test.YtibjelonabhcmaaDoorTrZ
namespace Go.Proofs.YtibjelonabhcmaaDoor
open Go.RowKit
set_option linter.unusedVariables false
set_option linter.unusedSimpArgs false
attribute [local go_sem] Oper.semAt_some
theorem self_any (x : Int) (h : Word x) (w : World) : Calls Tryd.prog 48 #[.int .u64 x] w fun e w' => e = .returned (.int .u64 x) ∧ Below w.heap.size w w' := by
  go_enter Tryd.func48, Tryd.ntmps48
  go_wp2_with fail
  go_ret
  exact ⟨rfl, Below.refl _ _⟩
theorem tgt2_any (x : Int) (h : Word x) (w : World) : Calls Tryd.prog 63 #[.int .u64 x] w fun e w' => e = .returned (.int .i64 (pb x)) ∧ Below w.heap.size w w' := by
  have cp := fun w => parts_any x h w
  go_enter Tryd.func63, Tryd.ntmps63
  go_wp2_with (first
    | (go_at_call 49; (with_reducible refine (cp _).mono ?_); rintro e w2 ⟨rfl, hb2⟩)
    | fail)
  go_ret
  exact ⟨rfl, hb2⟩
theorem has1_any (x y : Int) (b : Nat) (w : World) (c : w.cell? ⟨b, 0, none⟩ = some (.int .u64 y)) : Calls Tryd.prog 60 #[.int .u64 x, .pointer (some ⟨b, 0, none⟩)] w fun e w' => e = .returned (.bool (x == y)) ∧ Below w.heap.size w w' := by
  go_enter Tryd.func60, Tryd.ntmps60
  go_wp2_with fail
  go_ret
  exact ⟨rfl, Below.refl _ _⟩
theorem tgt1_any (r t y : Int) (b : Nat) (w : World) (c : w.cell? ⟨b, 0, none⟩ = some (.int .i64 y)) : Calls Tryd.prog 62 #[.int .i64 r, .int .i64 t, .pointer (some ⟨b, 0, none⟩)] w fun e w' => e = .returned (.bool (r == y)) ∧ Below w.heap.size w w' := by
  go_enter Tryd.func62, Tryd.ntmps62
  go_wp2_with fail
  go_ret
  exact ⟨rfl, Below.refl _ _⟩
theorem men1_any (r t y : Int) (b : Nat) (w : World) (c : w.cell? ⟨b, 0, none⟩ = some (.int .i64 y)) : Calls Tryd.prog 47 #[.int .i64 r, .int .i64 t, .pointer (some ⟨b, 0, none⟩)] w fun e w' => e = .returned (.bool (r == y || t == y)) ∧ Below w.heap.size w w' := by
  cases h : (r == y)
  · go_enter Tryd.func47, Tryd.ntmps47
    go_wp2_with fail
    go_ret
    exact ⟨ret_bool (by simp), Below.refl _ _⟩
  · go_enter Tryd.func47, Tryd.ntmps47
    go_wp2_with fail
    go_ret
    exact ⟨ret_bool (by simp), Below.refl _ _⟩
/-- a closure over one cell that asks a relation and a target -/
def AsksP (h bp : Nat) (q : Int → Int → Bool) (n₀ : Nat) (W : World) : Prop :=
  ∀ r t W', Below n₀ W W' → Calls Tryd.prog h #[.int .i64 r, .int .i64 t, .pointer (some ⟨bp, 0, none⟩)] W' fun e w' => e = .returned (.bool (q r t)) ∧ Below W'.heap.size W' w'
def pq (q : Int → Int → Bool) (x : Int) : Bool := kd x == 3 && q (pa x) (pb x)
theorem pairs1_any (q : Int → Int → Bool) (h bp bx n₀ : Nat) (x : Int) (hx : Word x) (w : World) (hbx : bx < w.heap.size) (c : w.cell? ⟨bx, 0, none⟩ = some (.func (.func h) #[] #[.pointer (some ⟨bp, 0, none⟩)]))
    (hn : n₀ ≤ w.heap.size) (hg : ∀ args w, (callFunc h args).run Tryd.prog w = .ok (.enter h args) w) (hq : AsksP h bp q n₀ w) :
    Calls Tryd.prog 64 #[.int .u64 x, .pointer (some ⟨bx, 0, none⟩)] w fun e w' => e = .returned (.bool (pq q x)) ∧ Below w.heap.size w w' := by
  have cp := fun w => parts_any x hx w
  have ck := fun w => kind_any x hx w
  have ch := fun (W : World) (hb : Below w.heap.size w W) => hq (pa x) (pb x) W (hb.mono hn)
  have cc := fun (W : World) (hb : Below w.heap.size w W) => cell_below' hb c hbx
  have hkey : (kd x = 3 ∧ pq q x = q (pa x) (pb x)) ∨ ((kd x == 3) = false ∧ pq q x = false) := by
    unfold pq
    cases h3 : (kd x == 3)
    · exact .inr ⟨rfl, rfl⟩
    · exact .inl ⟨by simpa using h3, by simp⟩
  rcases hkey with ⟨h1, h2⟩ | ⟨h1, h2⟩ <;> rw [h2] <;> clear h2 hq
  · rw [h1] at ck
    clear h1
    generalize pa x = a at *
    generalize pb x = b at *
    go_enter Tryd.func64, Tryd.ntmps64
    go_wp2_with (first
      | (go_at_call 49; (with_reducible refine (cp _).mono ?_); rintro e w2 ⟨rfl, hb2⟩)
      | (go_at_call 50; (with_reducible refine (ck _).mono ?_); rintro e w3 ⟨rfl, hb3⟩; have hb4 := hbe_tr hb2 hb3; have c4 := cc _ hb4)
      | ((with_reducible refine (ch _ hb4).mono ?_); rintro e w5 ⟨rfl, hb5⟩; have hb6 := hbe_tr hb4 hb5)
      | fail)
    go_ret
    exact ⟨rfl, hb6⟩
  · go_enter Tryd.func64, Tryd.ntmps64
    go_wp2_with (first
      | (go_at_call 49; (with_reducible refine (cp _).mono ?_); rintro e w2 ⟨rfl, hb2⟩)
      | (go_at_call 50; (with_reducible refine (ck _).mono ?_); rintro e w3 ⟨rfl, hb3⟩; have hb4 := hbe_tr hb2 hb3)
      | fail)
    go_ret
    exact ⟨rfl, hb4⟩
/-- a sequence of ids, handed back -/
def SeqP (ys : List WInt) (w : World) (e : Ending) (w' : World) : Prop := ∃ v, e = .returned v ∧ Seqs v w'.heap.size ys w' ∧ Below w.heap.size w w'
theorem some_any (A : Option Addr) (n c : Nat) (ls : List WInt) (g bp : Nat) (p : Int → Bool) (w : World) (hR : Reads w w.heap.size 1 A n (ids (vals ls))) (hn : n ≤ 281474976710656) (hg : ∀ args w, (callFunc g args).run Tryd.prog w = .ok (.enter g args) w) (hc : Asks g bp p w.heap.size w) :
    Calls Tryd.prog 59 #[.slice A n c, .func (.func g) #[] #[.pointer (some ⟨bp, 0, none⟩)]] w (SeqP (sel ls p) w) := by
  have b1 := Blk.new w 35 #[.slice A n c]
  have b2 := Blk.new (w.alloc (.cells #[.slice A n c] 35)) 72 #[.func (.func g) #[] #[.pointer (some ⟨bp, 0, none⟩)]]
  have b3 := b1.alloc (.cells #[.func (.func g) #[] #[.pointer (some ⟨bp, 0, none⟩)]] 72)
  have hb : Below w.heap.size w ((w.alloc (.cells #[.slice A n c] 35)).alloc (.cells #[.func (.func g) #[] #[.pointer (some ⟨bp, 0, none⟩)]] 72)) := ((Below.refl _ _).alloc (Nat.le_refl _) _).alloc (by simp) _
  rw [World.size_alloc] at b2
  have hfin : SeqP (sel ls p) w (.returned (.func (.func 76) #[] #[.pointer (some ⟨w.heap.size, 0, none⟩), .pointer (some ⟨w.heap.size + 1, 0, none⟩)])) ((w.alloc (.cells #[.slice A n c] 35)).alloc (.cells #[.func (.func g) #[] #[.pointer (some ⟨bp, 0, none⟩)]] 72)) :=
    ⟨_, rfl, some_seqs hn (by simp; omega) (by simp) (Nat.le_refl _) (b3.cell 0) (b2.cell 0) ((hR.below hb).more hb.size) hg (fun x hx W' hb' => hc x hx W' (hb.trans (hb'.mono hb.size))), hb⟩
  clear hR hc b1 b2 b3 hb
  go_enter Tryd.func59, Tryd.ntmps59
  go_wp2_with fail
  go_ret
  exact hfin
theorem pairs_any (A : Option Addr) (n c : Nat) (ls : List WInt) (h bp : Nat) (q : Int → Int → Bool) (w : World) (hR : Reads w w.heap.size 1 A n (ids (vals ls))) (hn : n ≤ 281474976710656) (hg : ∀ args w, (callFunc h args).run Tryd.prog w = .ok (.enter h args) w) (hq : AsksP h bp q w.heap.size w) :
    Calls Tryd.prog 46 #[.slice A n c, .func (.func h) #[] #[.pointer (some ⟨bp, 0, none⟩)]] w (SeqP (sel ls (pq q)) w) := by
  obtain ⟨W0, hW0⟩ : ∃ W0, W0 = w.alloc (.cells #[.func (.func h) #[] #[.pointer (some ⟨bp, 0, none⟩)]] 77) := ⟨_, rfl⟩
  obtain ⟨hb0, hsz, c0⟩ := new1 hW0
  have ca := some_any A n c ls 64 w.heap.size (pq q) W0 ((hR.below hb0).more hb0.size) hn (enters_of Tryd.func64 (by kernel_rfl) rfl)
    (fun x hx W' hb => pairs1_any q h bp w.heap.size W0.heap.size x hx W' (Nat.lt_of_lt_of_le hsz hb.size) (cell_below' hb c0 hsz) hb.size hg (fun r t W2 hb2 => hq r t W2 (hb0.trans ((hb.trans hb2).mono hb0.size))))
  clear hR hq
  subst hW0
  go_enter Tryd.func46, Tryd.ntmps46
  go_wp2_with fail
  refine ca.mono ?_
  rintro e w2 ⟨v, rfl, hs, hb2⟩
  obtain ⟨bl, bh, rfl, hst⟩ := hs
  have hfin : SeqP (sel ls (pq q)) w (.returned (.func (.func 76) #[] #[.pointer (some ⟨bl, 0, none⟩), .pointer (some ⟨bh, 0, none⟩)])) w2 := ⟨_, rfl, ⟨bl, bh, rfl, hst⟩, hb0.trans (hb2.mono hb0.size)⟩
  clear hst ca
  go_wp2_with fail
  go_ret
  exact hfin
theorem targets_any (A : Option Addr) (n c : Nat) (ls : List WInt) (r : Int) (w : World) (hR : Reads w w.heap.size 1 A n (ids (vals ls))) (hn : n ≤ 281474976710656) :
    Calls Tryd.prog 34 #[.slice A n c, .int .i64 r] w (OwnM 3 (fun x : WInt => Value.int .i64 (pb x.1)) (sel ls (pq fun a _ => a == r)) w) := by
  obtain ⟨W0, hW0⟩ : ∃ W0, W0 = w.alloc (.cells #[.int .i64 r] 3) := ⟨_, rfl⟩
  obtain ⟨hb0, hsz, c0⟩ := new1 hW0
  have ca := pairs_any A n c ls 62 w.heap.size (fun a _ => a == r) W0 ((hR.below hb0).more hb0.size) hn (enters_of Tryd.func62 (by kernel_rfl) rfl)
    (fun a b W' hb => tgt1_any a b r w.heap.size W' (cell_below' hb c0 hsz))
  clear hR
  subst hW0
  go_enter Tryd.func34, Tryd.ntmps34
  go_wp2_with fail
  refine ca.mono ?_
  rintro e w2 ⟨v, rfl, hs, hb2⟩
  have cg := gather_int v w2.heap.size (sel ls (pq fun a _ => a == r)) 63 pb w2 (Nat.le_refl _) hs (enters_of Tryd.func63 (by kernel_rfl) rfl) (fun x hx W => tgt2_any x hx W)
  obtain ⟨bl, bh, rfl, hst⟩ := hs
  have hb3 := hb0.trans (hb2.mono hb0.size)
  clear hst ca
  go_wp2_with fail
  refine cg.mono ?_
  rintro e w3 ⟨v, rfl, ho, hb4⟩
  have hfin : OwnM 3 (fun x : WInt => Value.int .i64 (pb x.1)) (sel ls (pq fun a _ => a == r)) w (.returned v) w3 := ⟨_, rfl, base_le ho hb3.size, hb3.trans (hb4.mono hb3.size)⟩
  clear ho cg
  go_wp2_with fail
  go_ret
  exact hfin
theorem mentions_any (A : Option Addr) (n c : Nat) (ls : List WInt) (r : Int) (w : World) (hR : Reads w w.heap.size 1 A n (ids (vals ls))) (hn : n ≤ 281474976710656) :
    Calls Tryd.prog 19 #[.slice A n c, .int .i64 r] w (OwnM 38 (fun x : WInt => Value.int .u64 x.1) (sel ls (pq fun a b => a == r || b == r)) w) := by
  obtain ⟨W0, hW0⟩ : ∃ W0, W0 = w.alloc (.cells #[.int .i64 r] 3) := ⟨_, rfl⟩
  obtain ⟨hb0, hsz, c0⟩ := new1 hW0
  have ca := pairs_any A n c ls 47 w.heap.size (fun a b => a == r || b == r) W0 ((hR.below hb0).more hb0.size) hn (enters_of Tryd.func47 (by kernel_rfl) rfl)
    (fun a b W' hb => men1_any a b r w.heap.size W' (cell_below' hb c0 hsz))
  clear hR
  subst hW0
  go_enter Tryd.func19, Tryd.ntmps19
  go_wp2_with fail
  refine ca.mono ?_
  rintro e w2 ⟨v, rfl, hs, hb2⟩
  have cg := gather_id v w2.heap.size (sel ls (pq fun a b => a == r || b == r)) 48 (fun x => x) w2 (Nat.le_refl _) hs (enters_of Tryd.func48 (by kernel_rfl) rfl) (fun x hx W => self_any x hx W)
  obtain ⟨bl, bh, rfl, hst⟩ := hs
  have hb3 := hb0.trans (hb2.mono hb0.size)
  clear hst ca
  go_wp2_with fail
  refine cg.mono ?_
  rintro e w3 ⟨v, rfl, ho, hb4⟩
  have hfin : OwnM 38 (fun x : WInt => Value.int .u64 x.1) (sel ls (pq fun a b => a == r || b == r)) w (.returned v) w3 := ⟨_, rfl, base_le ho hb3.size, hb3.trans (hb4.mono hb3.size)⟩
  clear ho cg
  go_wp2_with fail
  go_ret
  exact hfin
set_option maxRecDepth 100000 in
set_option maxHeartbeats 4000000 in
theorem has_any (A : Option Addr) (n c : Nat) (ls : List WInt) (y : Int) (w : World) (hR : Reads w w.heap.size 1 A n (ids (vals ls))) (hn : n ≤ 281474976710656) :
    Calls Tryd.prog 33 #[.slice A n c, .int .u64 y] w fun e w' => e = .returned (.bool (!(sel ls (fun x => x == y)).isEmpty)) ∧ Below w.heap.size w w' := by
  obtain ⟨W0, hW0⟩ : ∃ W0, W0 = (w.alloc (.cells #[.int .u64 y] 38)).alloc (.cells #[.bool false] 4) := ⟨_, rfl⟩
  have b0 : Boxed W0 w.heap.size 38 (.int .u64 y) := by rw [hW0]; exact (Boxed.new w _ _).alloc _
  have b1 : Boxed W0 (w.heap.size + 1) 4 (.bool false) := by rw [hW0]; have := Boxed.new (w.alloc (.cells #[.int .u64 y] 38)) 4 (.bool false); rw [World.size_alloc] at this; exact this
  have hb0 : Below w.heap.size w W0 := by rw [hW0]; exact ((Below.refl _ _).alloc (Nat.le_refl _) _).alloc (by simp) _
  have ca := some_any A n c ls 60 w.heap.size (fun x => x == y) W0 ((hR.below hb0).more hb0.size) hn (enters_of Tryd.func60 (by kernel_rfl) rfl)
    (fun x hx W' hb => has1_any x y w.heap.size W' (cell_below' hb b0.cell b0.lt))
  clear hR
  generalize sel ls (fun x => x == y) = ys at *
  refine (callsIn_wide (n := 6)).1 ?_
  refine callsIn_of_wp_marks Tryd.func33 rfl trivial ?_ rfl
  simp only [Tryd.ntmps33, List.size_toArray, List.length_cons, List.length_nil, Nat.reduceAdd, Nat.reduceSub, Array.replicate_succ, Array.replicate_zero, List.push_toArray, List.append_toArray, List.nil_append, List.cons_append]
  have HB0 := Lib.hid b0
  have HB1 := Lib.hid b1
  subst hW0
  clear b0 b1
  gi_wp2_with (first
    | (refine ⟨trivial, ?_⟩; gi_at_call 59; refine (callsIn_wide.2 ca).mono ?_; rintro e w2 ⟨v, rfl, hs, hb2⟩; obtain ⟨bl, bh, rfl, hst⟩ := hs)
    | fail)
  have bb := boxed_below HB1.out hb2
  have hB3 := hb0.trans (hb2.mono hb0.size)
  have hlt : w.heap.size + 1 < w2.heap.size := bb.lt
  refine wpIn_rangeFunc_ownG (w0 := w2) rfl (by omega) (gf := 76) (lb := #[.pointer (some ⟨bl, 0, none⟩), .pointer (some ⟨bh, 0, none⟩)]) rfl trivial (enters_of Tryd.func76 (by kernel_rfl) rfl)
    (hst (6 - 1) (by omega)) belowK_t (belowK_b (Nat.le_refl _)) (Below.refl _ _) (fun _ => rfl)
    (fun pre W => pre = [] ∧ Boxed W (w.heap.size + 1) 4 (.bool false) ∧ Below w.heap.size w W)
    (fun cd pre W => cd = .ret ∧ pre ≠ [] ∧ Boxed W (w.heap.size + 1) 4 (.bool true) ∧ Below w.heap.size w W)
    (OwnFrom.and (ownFrom_pure _ _) (OwnFrom.and (Own.from (boxed_own _ _ _) _) (ownFrom_below (Nat.le_refl _) (by omega))))
    (fun cd => OwnFrom.and (ownFrom_pure _ _) (OwnFrom.and (ownFrom_pure _ _) (OwnFrom.and (Own.from (boxed_own _ _ _) _) (ownFrom_below (Nat.le_refl _) (by omega)))))
    ⟨rfl, bb, hB3⟩
    (fun x => { tmps := #[.slice A n c, .int .u64 y, undef, .pointer (some ⟨w.heap.size, 0, none⟩), .pointer (some ⟨w.heap.size + 1, 0, none⟩), .slice A n c, .func (.func 60) #[] #[.pointer (some ⟨w.heap.size, 0, none⟩)], .func (.func 76) #[] #[.pointer (some ⟨bl, 0, none⟩), .pointer (some ⟨bh, 0, none⟩)], .int .u64 x.1], defers := [] }) ?assign ?body ?done ?stop
  case assign =>
    intro l x W K hK
    unfold encW
    gi_wp2
    simpa using hK
  case body =>
    rintro l pre x W ⟨rfl, hv, hB⟩ _
    have hc := hv.cell
    have hf := hv.frozen
    have HV := Lib.hid hv
    clear hv
    gi_wp2
    exact ⟨(KeepsOthers.setCell _ _ _).from _, rfl, by simp, Boxed.set _ HV.out, hB.setCell (p := ⟨w.heap.size + 1, 0, none⟩) (by simp) _⟩
  case done =>
    rintro D ys' W hD rfl ⟨rfl, hv, hB⟩ hK
    have hc := hv.cell
    have hf := hv.frozen
    have HV := Lib.hid hv
    clear hv
    gi_wp2
    have hK' := (KeepsOthers.setCell W ⟨w.heap.size + 1, 0, none⟩ (.bool false)).same D _ hK rfl
    refine ⟨by simp, .inl ⟨_, _, rfl, run_takeDeferred hK', ?_⟩⟩
    have hc5 := cell_kept (Boxed.set (.bool false) HV.out).cell (grownBy_putObj' _ D (.deferred none)) (fun r e => by cases e; exact ⟨_, hK', rfl⟩)
    refine ⟨.bool false, ?_, rfl, (hB.setCell (p := ⟨w.heap.size + 1, 0, none⟩) (by simp) _).trans (belowK_b (w := w) (Nat.le_refl _) _ D _ _ (Nat.le_trans hB3.size hD) hK' rfl rfl)⟩
    simp [results, Tryd.f33, go_sem, hc5]
  case stop =>
    rintro D c pre W hD hpre ⟨rfl, hne, hv, hB⟩ hK
    have hc := hv.cell
    have hyn : (!ys.isEmpty) = true := by
      cases ys with
      | nil => exact absurd (List.prefix_nil.1 hpre) hne
      | cons a l => rfl
    have HYN := Lib.hid hyn
    clear hyn
    have HV := Lib.hid hv
    clear hv
    gi_wp2
    refine ⟨by simp, .inl ⟨_, _, rfl, run_takeDeferred hK, ?_⟩⟩
    have hc5 := cell_kept (Boxed.cell HV.out) (grownBy_putObj' _ D (.deferred none)) (fun r e => by cases e; exact ⟨_, hK, rfl⟩)
    refine ⟨.bool true, ?_, by rw [HYN.out], hB.trans (belowK_b (w := w) (Nat.le_refl _) W D _ _ (Nat.le_trans hB3.size hD) hK rfl rfl)⟩
    simp [results, Tryd.f33, go_sem, hc5]
end Go.Proofs.YtibjelonabhcmaaDoor
