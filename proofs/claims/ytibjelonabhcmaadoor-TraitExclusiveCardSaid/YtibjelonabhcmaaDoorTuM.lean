/- What is proved: contracts of cmp.Less and slices.BinarySearch at ids. contract of types' own. contract of types' Without. contract of types' with. contract of types' with. contract of types' with at a nil row; and as it is called. contracts of types' with and With. contract of types' With. -/
import Derived.Test.YtibjelonabhcmaaDoorTs6
import Derived.Test.YtibjelonabhcmaaDoorTr5
import Derived.Laws.CopyOwn
import Derived.OwnWalk
import Derived.Deep.OwnRows
import Derived.Test.YtibjelonabhcmaaDoorTr7
import Derived.Deep.RegionLawGrows
namespace Go.Proofs.YtibjelonabhcmaaDoor
open Go.RowKit
set_option linter.unusedVariables false
set_option linter.unusedSimpArgs false
theorem nan1 (x : Int) (w : World) : Calls Tryd.prog 77 #[.int .u64 x] w fun e w' => e = .returned (.bool false) ∧ w = w' := by
  have hx : (x != x) = false := by simp
  go_enter Tryd.func77, Tryd.ntmps77
  go_wp2_with fail
  go_ret
  exact ⟨rfl, rfl⟩
theorem nan2 (x : Int) (w : World) : Calls Tryd.prog 75 #[.int .u64 x] w fun e w' => e = .returned (.bool false) ∧ w = w' := by
  have hx : (x != x) = false := by simp
  go_enter Tryd.func75, Tryd.ntmps75
  go_wp2_with fail
  go_ret
  exact ⟨rfl, rfl⟩
theorem less_id (x y : Int) (w : World) : Calls Tryd.prog 74 #[.int .u64 x, .int .u64 y] w fun e w' => e = .returned (.bool (decide (x < y))) ∧ w = w' := by
  have c1 := fun x w => nan1 x w
  go_enter Tryd.func74, Tryd.ntmps74
  go_wp2_with (first
    | (go_at_call 77; (with_reducible refine (c1 _ _).mono ?_); (rintro e w1 ⟨rfl, rfl⟩))
    | fail)
  go_ret
  exact ⟨rfl, rfl⟩
def ibGo (l : List Int) (n : Int) : Nat → Nat → Nat → Nat
  | 0, lo, _ => lo
  | f + 1, lo, hi => if lo < hi then (if idAt l ((lo + hi) / 2) < n then ibGo l n f ((lo + hi) / 2 + 1) hi else ibGo l n f lo ((lo + hi) / 2)) else lo
def ibAt (l : List Int) (n : Int) : Nat := ibGo l n (l.length + 1) 0 l.length
def ibIn (l : List Int) (n : Int) : Bool := decide (ibAt l n < l.length) && (idAt l (ibAt l n) == n)
theorem ibGo_step (l : List Int) (n : Int) (f lo hi : Nat) (h : lo < hi) : ibGo l n (f + 1) lo hi = if idAt l ((lo + hi) / 2) < n then ibGo l n f ((lo + hi) / 2 + 1) hi else ibGo l n f lo ((lo + hi) / 2) := by
  show (if lo < hi then _ else lo) = _
  rw [if_pos h]
theorem ibGo_end (l : List Int) (n : Int) (f lo hi : Nat) (h : ¬ lo < hi) : ibGo l n f lo hi = lo := by
  cases f with
  | zero => rfl
  | succ f => show (if lo < hi then _ else lo) = _; rw [if_neg h]
theorem idAt_some {l : List Int} {k : Nat} {x : Int} (h : l[k]? = some x) : idAt l k = x := by unfold idAt; rw [h]
set_option maxRecDepth 100000 in
set_option maxHeartbeats 2000000 in
theorem ib_any (A : Option Addr) (n c : Nat) (l : List Int) (v : Int) (w : World) (hR : Reads w w.heap.size 1 A n (ids l)) (hn : n ≤ 281474976710656) :
    Calls Tryd.prog 55 #[.slice A n c, .int .u64 v] w fun e w' => e = .returned (.tuple #[.int .i64 (ibAt l v), .bool (ibIn l v)]) ∧ w = w' := by
  have hl : l.length = n := by have := hR.1; rw [ids_len] at this; omega
  go_enter Tryd.func55, Tryd.ntmps55
  go_wp2_with fail
  go_loopw [7, 8] (fun i j wr => ∃ lo hi f : Nat, lo ≤ hi ∧ hi ≤ n ∧ hi - lo < f ∧ i = .int .i64 lo ∧ j = .int .i64 hi ∧ ibAt l v = ibGo l v f lo hi ∧ w = wr)
    (fun i j _ => (intOf j).toNat - (intOf i).toNat)
  case atStart => exact ⟨0, n, n + 1, by omega, by omega, by omega, rfl, rfl, by unfold ibAt; rw [hl], rfl⟩
  case round =>
    obtain ⟨lo, hi, f, h1, h2, h3, rfl, rfl, hq, rfl⟩ := hrel
    by_cases hlt : lo < hi
    · have e1 := List.getElem?_eq_getElem (l := l) (i := (lo + hi) / 2) (by omega)
      generalize l[(lo + hi) / 2]'(by omega) = x at e1
      obtain ⟨b, off, rfl, hbl, g⟩ := ids_cell hR e1
      have hkey := idAt_some e1
      have fc := fun w => less_id x v w
      cases f with
      | zero => omega
      | succ f =>
        have hu := ibGo_step l v f lo hi hlt
        rw [hkey] at hu
        by_cases t : x < v
        · rw [if_pos t] at hu
          have ht : decide (x < v) = true := decide_eq_true t
          rw [ht] at fc
          have HQ := Lib.hid (hq.trans hu)
          clear hq hu hkey e1 hR t ht
          go_wp2_with (first
          | (go_at_call 74; (with_reducible refine (fc _).mono ?_); (rintro e w' ⟨rfl, rfl⟩))
          | fail)
          go_roundw
          case rel => exact ⟨(lo + hi) / 2 + 1, hi, f, by omega, by omega, by omega, by go_num, rfl, HQ.out, by trivial⟩
          case measure => simp [intOf]; omega
        · rw [if_neg t] at hu
          have ht : decide (x < v) = false := decide_eq_false t
          rw [ht] at fc
          have HQ := Lib.hid (hq.trans hu)
          clear hq hu hkey e1 hR t ht
          go_wp2_with (first
          | (go_at_call 74; (with_reducible refine (fc _).mono ?_); (rintro e w' ⟨rfl, rfl⟩))
          | fail)
          go_roundw
          case rel => exact ⟨lo, (lo + hi) / 2, f, by omega, by omega, by omega, rfl, by go_num, HQ.out, by trivial⟩
          case measure => simp [intOf]; omega
    · rw [ibGo_end l v f lo hi hlt] at hq
      by_cases h4 : lo < n
      · have e1 := List.getElem?_eq_getElem (l := l) (i := lo) (by omega)
        generalize l[lo]'(by omega) = x at e1
        obtain ⟨b, off, rfl, hbl, g⟩ := ids_cell hR e1
        have fc := fun x w => nan2 x w
        have HI := Lib.hid (show ibIn l v = (x == v) from by
          unfold ibIn; rw [hq, hl, decide_eq_true h4, idAt_some e1]; rfl)
        have HQ := Lib.hid hq
        clear hq e1 hR
        cases hxv : (x == v)
        all_goals
          rw [hxv] at HI
          go_wp2_with (first
            | (go_at_call 75; (with_reducible refine (fc _ _).mono ?_); (rintro e w' ⟨rfl, rfl⟩))
            | fail)
          go_ret2
          exact ⟨by rw [HQ.out, HI.out] <;> rfl, rfl⟩
      · have HI := Lib.hid (show ibIn l v = false from by unfold ibIn; rw [hq, hl, decide_eq_false h4]; rfl)
        have HQ := Lib.hid hq
        clear hq hR
        go_wp2_with fail
        go_ret2
        exact ⟨by rw [HQ.out, HI.out] <;> rfl, rfl⟩
end Go.Proofs.YtibjelonabhcmaaDoor
namespace Go.Proofs.YtibjelonabhcmaaDoor
open Go.RowKit
set_option linter.unusedVariables false
set_option linter.unusedSimpArgs false
set_option maxRecDepth 100000 in
set_option maxHeartbeats 2000000 in
theorem town_any (A : Option Addr) (n c : Nat) (l : List Int) (w : World) (hR : Reads w w.heap.size 1 A n (ids l)) (hn : n ≤ 65536) :
    Calls Tryd.prog 57 #[.slice A n c] w (OwnI l w) := by
  have hl : l.length = n := by have := hR.1; rw [ids_len] at this; omega
  obtain ⟨i0, hi0, hz0, hz1, hz2⟩ := info_parts info_id
  go_enter Tryd.func57, Tryd.ntmps57
  have hbA : Below w.heap.size w (w.alloc (.cells (madeCells #[.int .u64 0] n) 38)) := (Below.refl _ _).alloc (Nat.le_refl _) _
  have hRA := hR.below hbA
  have hlen : (ids l).length = n := by rw [ids_len, hl]
  have hmk := fun W => run_make_row (P := Tryd.prog) 35 38 i0 (.int .u64 0) Tryd.underlying35 hi0 hz0 hz1 rfl .i64 .i64 n (by rw [hz2]; omega) (by omega) W
  clear hR
  go_wp2_with (first
    | (refine wpList_make_row w rfl (.tmp 5) (.tmp 5) _ rfl 38 i0 (.int .u64 0) Tryd.underlying35 hi0 hz0 hz1 rfl .i64 .i64 n rfl rfl (by rw [hz2]; omega) (by omega) ?_)
    | (refine wpList_copy_splice rfl (.tmp 7) (.tmp 8) _ _ rfl 38 Tryd.underlying35 (by rw [hi0]; simp [hz1]) _ A n n n c rfl rfl w.heap.size 0 (madeCells #[.int .u64 0] n).toList 38 ?_ (ids l) ?_ ?_ ?_ (ids_one l) w.heap.size w hbA (Nat.le_refl _) ?_
       · exact Blk.new w _ _
       · rw [hlen]; simp
       · intro h0
         obtain ⟨ad, e, hb, hc⟩ := hRA.2 (by omega)
         exact ⟨rfl, ad, e, hc⟩
       · rw [hlen, Array.length_toList, size_madeCells]; omega
       intro w1 hh hb1)
    | fail)
  go_ret
  refine ⟨_, rfl, ?_, hb1⟩
  have hh := hh.out
  refine ⟨by rw [ids_len, Nat.mul_one], .inr ⟨w.heap.size, n, _, by rw [hl]; rfl, Nat.le_refl _, hh, by omega, by simp only [maxLen]; omega, ?_, ?_⟩⟩
  · rw [List.size_toArray, length_splice _ _ _ (by rw [hlen, Array.length_toList, size_madeCells]; omega), Array.length_toList, size_madeCells]; omega
  · rw [hl, Nat.mul_one]
    unfold splice
    rw [List.take_zero, List.nil_append, List.take_append_of_le_length (by omega), List.take_of_length_le (by omega)]
end Go.Proofs.YtibjelonabhcmaaDoor
namespace Go.Proofs.YtibjelonabhcmaaDoor
open Go.RowKit
set_option linter.unusedVariables false
set_option linter.unusedSimpArgs false
def twoE (l : List Int) (n : Int) : Int := if tyR l then (if ibIn l n then 0 else 4) else 130
def twoL (l : List Int) (n : Int) : List Int := if twoE l n = 0 then l.take (ibAt l n) ++ l.drop (ibAt l n + 1) else []
theorem two_ways (l : List Int) (n : Int) :
    (tyE l = 130 ∧ twoE l n = 130 ∧ twoL l n = []) ∨ (tyE l = 0 ∧ ibIn l n = false ∧ twoE l n = 4 ∧ twoL l n = []) ∨
    (tyE l = 0 ∧ ibIn l n = true ∧ twoE l n = 0 ∧ twoL l n = l.take (ibAt l n) ++ l.drop (ibAt l n + 1)) := by
  unfold twoL twoE tyE
  cases tyR l <;> cases ibIn l n <;> simp
theorem ibIn_lt {l : List Int} {v : Int} (h : ibIn l v = true) : ibAt l v < l.length := by
  unfold ibIn at h
  simp only [Bool.and_eq_true, decide_eq_true_eq] at h
  exact h.1
/-- a row of ids of the call's own, and an error -/
def OwnJ (l : List Int) (x : Int) (w : World) (e : Ending) (w' : World) : Prop := ∃ v, e = .returned (.tuple #[v, .int .i64 x]) ∧ w'.ownsRow w.heap.size 38 1 v l.length (ids l) ∧ Below w.heap.size w w'
theorem OwnJ.nil {w w' : World} {x : Int} {l : List Int} (h : Below w.heap.size w w') (hl : l = []) : OwnJ l x w (.returned (.tuple #[.slice none 0 0, .int .i64 x])) w' := ⟨_, rfl, by subst hl; exact World.ownsRow_nil _ _ _ _, h⟩
set_option maxRecDepth 100000 in
set_option maxHeartbeats 4000000 in
theorem two_any (A : Option Addr) (n c : Nat) (l : List Int) (v : Int) (w : World) (hR : Reads w w.heap.size 1 A n (ids l)) (hW : ∀ x ∈ l, Word x) (hn : n ≤ 65536) :
    Calls Tryd.prog 31 #[.slice A n c, .int .u64 v] w (OwnJ (twoL l v) (twoE l v) w) := by
  have hl : l.length = n := by have := hR.1; rw [ids_len] at this; omega
  have cc := fun (W : World) (h : Below w.heap.size w W) => tcheck_any A n c l W ((hR.below h).more h.size) hW (by omega)
  have cf := fun (W : World) (h : Below w.heap.size w W) => ib_any A n c l v W ((hR.below h).more h.size) (by omega)
  have co := fun (W : World) (h : Below w.heap.size w W) => town_any A n c l W ((hR.below h).more h.size) hn
  have hB := Below.refl w.heap.size w
  clear hR hW
  rcases two_ways l v with ⟨k1, k8, k9⟩ | ⟨k1, k4, k8, k9⟩ | ⟨k1, k4, k8, k9⟩
  case inr.inr =>
    have hi := ibIn_lt k4
    rw [k8, k9]
    clear k8 k9
    rw [k1] at cc
    rw [k4] at cf
    clear k1 k4
    generalize ibAt l v = i at cf hi ⊢
    have HL := Lib.hid hl
    have HI := Lib.hid hi
    have t1 : (i : Int) ≤ 65536 := by omega
    clear hl hi
    go_enter Tryd.func31, Tryd.ntmps31
    go_wp2_with (first
      | (go_at_call 55; ((with_reducible refine (cf _ hB).mono ?_); rintro en w1 ⟨rfl, rfl⟩))
      | (go_at_call 18; ((with_reducible refine (cc _ hB).mono ?_); rintro en w2 ⟨rfl, hb2⟩; have hB := hB.trans (hb2.mono hB.size)))
      | fail)
    refine (co _ hB).mono ?_
    rintro en w3 ⟨v3, rfl, ho, hb3⟩
    have hl := HL.out
    have hi := HI.out
    obtain ⟨hx, ⟨_, h0⟩ | ⟨g, cap, cur, rfl, h1, h2, h3, h4, h5, h6⟩⟩ := ho
    · omega
    have hd := delete_id g l.length cap i cur (ids l) w3 h2 h3 h5 h6 (ids_one l) hi (by omega) (by unfold maxLen at h4; exact h4)
    have hB3 := hB.trans (hb3.mono hB.size)
    have hgB := Nat.le_trans hB.size h1
    have hfin : ∀ (w' : World) (cur' : Array Value), Blk w' g 38 cur' → cur'.size = cap * 1 → cur'.toList.take ((l.length - 1) * 1) = (ids l).take (i * 1) ++ (ids l).drop ((i + 1) * 1) → Below g w3 w' → OwnJ (l.take i ++ l.drop (i + 1)) 0 w (.returned (.tuple #[.slice (some ⟨g, 0, none⟩) (l.length - 1) cap, .int .i64 0])) w' := by
      intro w' cur' q1 q2 q3 q4
      have e1 : (l.take i ++ l.drop (i + 1)).length = l.length - 1 := by rw [List.length_append, List.length_take, List.length_drop]; omega
      refine ⟨_, rfl, ⟨?_, .inr ⟨g, cap, cur', by rw [e1], hgB, q1, by omega, h4, q2, ?_⟩⟩, hB3.trans (q4.mono hgB)⟩
      · rw [ids_len, Nat.mul_one]
      · rw [e1, q3]
        unfold ids
        rw [List.map_append, List.map_take, List.map_drop, Nat.mul_one, Nat.mul_one]
    clear h1 h2 h3 h5 h6 hx hb3
    have HD := Lib.hid hd
    have HFIN := Lib.hid hfin
    clear hd hfin hl hi hB cc cf co
    go_wp2_with fail
    rw [← HL.out]
    refine HD.out.mono ?_
    rintro en w4 ⟨cur', rfl, q1, q2, q3, q4⟩
    have hend := HFIN.out w4 cur' q1 q2 q3 q4
    clear HFIN q1 q2 q3 q4 HD HL HI
    go_wp2_with fail
    go_ret2
    exact hend
  all_goals
    have hend := fun (w' : World) (hb : Below w.heap.size w w') => OwnJ.nil (x := twoE l v) hb k9
    rw [k8] at hend ⊢
    clear k8 k9 co
    rw [k1] at cc
    clear k1
    try rw [k4] at cf
    try clear k4
    go_enter Tryd.func31, Tryd.ntmps31
    go_wp2_with (first
      | (go_at_call 55; ((with_reducible refine (cf _ hB).mono ?_); rintro en w1 ⟨rfl, rfl⟩))
      | (go_at_call 18; ((with_reducible refine (cc _ hB).mono ?_); rintro en w2 ⟨rfl, hb2⟩; have hB := hB.trans (hb2.mono hB.size)))
      | fail)
    go_ret2
    exact hend _ hB
end Go.Proofs.YtibjelonabhcmaaDoor
namespace Go.Proofs.YtibjelonabhcmaaDoor
open Go.RowKit
set_option linter.unusedVariables false
set_option linter.unusedSimpArgs false
theorem ids_take (l : List Int) (i : Nat) : ids (l.take i) = (ids l).take i := by unfold ids; rw [List.map_take]
theorem ids_drop (l : List Int) (i : Nat) : ids (l.drop i) = (ids l).drop i := by unfold ids; rw [List.map_drop]
theorem itake_reads {w : World} {b off n : Nat} {l : List Int} {i : Nat} (hR : Reads w w.heap.size 1 (some ⟨b, off, none⟩) n (ids l)) (hi : i ≤ n) : ∀ j u, (ids (l.take i))[j]? = some u → w.cell? ((⟨b, off, none⟩ : Addr).add j) = some u := by
  intro j u hu
  rcases Nat.eq_zero_or_pos n with h0 | h0
  · have hl := hR.1
    rw [h0, Nat.zero_mul] at hl
    have : ids l = [] := List.eq_nil_of_length_eq_zero hl
    rw [ids_take, this] at hu
    simp at hu
  · obtain ⟨ad, e, _, hc⟩ := hR.2 h0
    injection e with e
    subst e
    refine hc j u ?_
    rw [ids_take, List.getElem?_take] at hu
    split at hu
    · exact hu
    · cases hu
/-- what is held while the row is made -/
def IHold (W w : World) (A : Option Addr) (n : Nat) (l : List Int) : Prop := Reads w w.heap.size 1 A n (ids l) ∧ Below W.heap.size W w
theorem IHold.keep {W w w' : World} {A : Option Addr} {n : Nat} {l : List Int} (h : IHold W w A n l) (hb : Below w.heap.size w w') : IHold W w' A n l :=
  ⟨(h.1.below hb).more hb.size, h.2.trans (hb.mono h.2.size)⟩
theorem iown_with {w : World} {B B' n i : Nat} {v : Value} {l : List Int} {r : Int} (hl : l.length = n) (hi : i ≤ n) {m : Nat} (hm : m = n - i) (h : w.ownsRow B 38 1 v (i + 1 + m) ((ids (l.take i) ++ ids [r]) ++ ids (l.drop i))) (hB : B' ≤ B) :
    w.ownsRow B' 38 1 v (l.take i ++ r :: l.drop i).length (ids (l.take i ++ r :: l.drop i)) := by
  have e1 : (l.take i ++ r :: l.drop i).length = i + 1 + m := by
    rw [List.length_append, List.length_take, List.length_cons, List.length_drop]; omega
  have e2 : ids (l.take i ++ r :: l.drop i) = (ids (l.take i) ++ ids [r]) ++ ids (l.drop i) := by
    unfold ids
    simp
  rw [e1, e2]
  exact base_le h hB
set_option maxRecDepth 100000 in
set_option maxHeartbeats 4000000 in
theorem iwith_lt (b off n c i : Nat) (l : List Int) (v : Int) (w : World) (hR : Reads w w.heap.size 1 (some ⟨b, off, none⟩) n (ids l)) (hnc : n ≤ c) (hn : n ≤ 65536) (hc : c ≤ 9223372036854775807) (hi : i ≤ n) (hic : i < c)
    (k4 : ibIn l v = false) (k5 : ibAt l v = i) :
    Calls Tryd.prog 58 #[.slice (some ⟨b, off, none⟩) n c, .int .u64 v] w (OwnI (l.take i ++ v :: l.drop i) w) := by
  have hl : l.length = n := by have := hR.1; rw [ids_len] at this; omega
  obtain ⟨i0, hi0, hz0, hz1, hz2⟩ := info_parts info_id
  have cf := fun (W : World) (h : Below w.heap.size w W) => ib_any (some ⟨b, off, none⟩) n c l v W ((hR.below h).more h.size) (by omega)
  rw [k4, k5] at cf
  have hlo : (ids (l.take i)).length = i * 1 := by rw [ids_len, List.length_take]; omega
  have hsrc : ∀ (W : World), Reads W W.heap.size 1 (some ⟨b, off, none⟩) n (ids l) → Reads W W.heap.size 1 (some ⟨b, off + i * 1, none⟩) (n - i) (ids (l.drop i)) := fun W h => by
    have := h.cut (k := i) (cap := c) hi hnc
    rw [if_neg (by omega)] at this
    rw [ids_drop]
    simpa only [Option.map_some, add_none, Nat.mul_one] using this
  have ts1 : (i : Int) < (c : Int) := by omega
  have ts2 : i < c := hic
  have ts3 : i ≤ c := Nat.le_of_lt hic
  have ts4 : (i : Int) ≤ (c : Int) := by omega
  have hB := Below.refl w.heap.size w
  have HH : IHold w w (some ⟨b, off, none⟩) n l := ⟨hR, hB⟩
  have HL := Lib.hid hl
  have HI := hi
  have HLO := Lib.hid hlo
  have HS := Lib.hid hsrc
  clear hR k4 k5 hlo hl hsrc
  go_enter Tryd.func58, Tryd.ntmps58
  go_wp2_with (first
    | (go_at_call 55; ((with_reducible refine (cf _ hB).mono ?_); rintro en w1 ⟨rfl, rfl⟩))
    | fail)
  have hlo := HLO.out
  have hsrc := HS.out
  clear HLO HS
  refine wp_region_held_drew (S := fun w' => IHold w w' (some ⟨b, off, none⟩) n l) (by kernel_rfl) (HH.keep ((Below.refl _ _).drew)) (fun hHeld => ?_)
  refine wpAnyH_take (i := 0) (oi := _) (v := ?_) rfl (by kernel_rfl) (by kernel_rfl) (by kernel_rfl) (fun _ _ _ h => h) (Or.inl ⟨by rfl, ?_⟩) hHeld ?_
  rotate_left
  · intro w hSw; obtain ⟨_, _⟩ := hSw; go_simp; try with_reducible rfl
  simp only [Act.put, List.getElem_toArray, List.getElem_cons_succ, List.getElem_cons_zero, List.setIfInBounds_toArray, List.set_cons_zero, List.set_cons_succ]
  refine wpAnyH_take (i := 1) (oi := _) (v := ?_) rfl (by kernel_rfl) (by kernel_rfl) (by kernel_rfl) (fun _ _ _ h => h) (Or.inl ⟨by rfl, ?_⟩) hHeld ?_
  rotate_left
  · intro w hSw; obtain ⟨_, _⟩ := hSw; go_simp; try with_reducible rfl
  simp only [Act.put, List.getElem_toArray, List.getElem_cons_succ, List.getElem_cons_zero, List.setIfInBounds_toArray, List.set_cons_zero, List.set_cons_succ]
  refine wpAnyH_take (i := 2) (oi := _) (v := ?_) rfl (by kernel_rfl) (by kernel_rfl) (by kernel_rfl) (fun _ _ _ h => h) (Or.inl ⟨by rfl, ?_⟩) hHeld ?_
  rotate_left
  · intro w hSw; obtain ⟨_, _⟩ := hSw; go_simp; try with_reducible rfl
  simp only [Act.put, List.getElem_toArray, List.getElem_cons_succ, List.getElem_cons_zero, List.setIfInBounds_toArray, List.set_cons_zero, List.set_cons_succ]
  refine wpAnyH_take (i := 3) (oi := _) (v := ?_) rfl (by kernel_rfl) (by kernel_rfl) (by kernel_rfl) (fun _ _ _ h => h) (Or.inl ⟨by rfl, ?_⟩) hHeld ?_
  rotate_left
  · intro w hSw; obtain ⟨_, _⟩ := hSw; go_simp; try with_reducible rfl
  simp only [Act.put, List.getElem_toArray, List.getElem_cons_succ, List.getElem_cons_zero, List.setIfInBounds_toArray, List.set_cons_zero, List.set_cons_succ]
  refine wpAnyH_take (i := 4) (oi := _) (v := ?_) rfl (by kernel_rfl) (by kernel_rfl) (by kernel_rfl) (fun _ _ _ h => h) (Or.inl ⟨by rfl, ?_⟩) hHeld ?_
  rotate_left
  · intro w hSw; obtain ⟨_, _⟩ := hSw; go_simp; try with_reducible rfl
  simp only [Act.put, List.getElem_toArray, List.getElem_cons_succ, List.getElem_cons_zero, List.setIfInBounds_toArray, List.set_cons_zero, List.set_cons_succ]
  refine wpAnyH_take (i := 7) (oi := _) (v := ?_) rfl (by kernel_rfl) (by kernel_rfl) (by kernel_rfl) (fun _ _ _ h => h) (Or.inl ⟨by rfl, ?_⟩) hHeld ?_
  rotate_left
  · intro w hSw; obtain ⟨_, _⟩ := hSw; go_simp; try with_reducible rfl
  simp only [Act.put, List.getElem_toArray, List.getElem_cons_succ, List.getElem_cons_zero, List.setIfInBounds_toArray, List.set_cons_zero, List.set_cons_succ]
  refine wpAnyH_take (i := 8) (oi := _) (v := ?_) rfl (by kernel_rfl) (by kernel_rfl) (by kernel_rfl) (fun _ _ _ h => h) (Or.inl ⟨by rfl, ?_⟩) hHeld ?_
  rotate_left
  · intro w hSw; obtain ⟨_, _⟩ := hSw; go_simp; try with_reducible rfl
  simp only [Act.put, List.getElem_toArray, List.getElem_cons_succ, List.getElem_cons_zero, List.setIfInBounds_toArray, List.set_cons_zero, List.set_cons_succ]
  refine wpAnyH_take (i := 9) (oi := _) (v := ?_) rfl (by kernel_rfl) (by kernel_rfl) (by kernel_rfl) (fun _ _ _ h => h) (Or.inl ⟨by rfl, ?_⟩) hHeld ?_
  rotate_left
  · intro w hSw; obtain ⟨_, _⟩ := hSw; go_simp; try with_reducible rfl
  simp only [Act.put, List.getElem_toArray, List.getElem_cons_succ, List.getElem_cons_zero, List.setIfInBounds_toArray, List.set_cons_zero, List.set_cons_succ]
  refine wpAnyH_ready (rs := [5]) (by kernel_rfl) (by simp) (AllReadyH.cons (o := _) rfl (fun K hK => ?_) AllReadyH.nil)
  go_simp
  
  refine hK.out _ _ (hHeld.keep ((Below.refl _ _).alloc (Nat.le_refl _) _)) (fun hHeld => ?_)
  clear hK K
  try simp only [Act.put, List.getElem_toArray, List.getElem_cons_succ, List.getElem_cons_zero, List.setIfInBounds_toArray, List.set_cons_zero, List.set_cons_succ]
  have hHa := hHeld
  refine wpAnyH_ready (rs := [6]) (by kernel_rfl) (by simp) (AllReadyH.cons (o := _) rfl (fun K hK => ?_) AllReadyH.nil)
  refine step_append_grows rfl (.tmp 18) (.tmp 20) 35 rfl 38 i0 _ 1 8 Tryd.underlying35 hi0 hz0 hz1 hz2 rfl (by omega) (some ⟨b, off, none⟩) i i (ids (l.take i)) (by rfl) (by simp) hlo (fun b' e j u hj => by cases e; exact itake_reads hHa.1 hi j u hj) _ 1 1 (ids [v]) (by rfl) rfl (fun j u hu => (lit_ids _ _ [v] (C := #[.int .u64 v]) rfl rfl).2 (by simp) |>.elim fun ad h => by obtain ⟨e, _, hc⟩ := h; cases e; exact hc j u hu) (ids_one [v]) (by omega) (by simp only [maxLen]; omega) (by omega) ?_
  intro v1 w1 hown1 hg1
  refine hK.out _ _ (hHa.keep (grown_below hg1)) (fun hHeld => ?_)
  clear hK K
  try simp only [Act.put, List.getElem_toArray, List.getElem_cons_succ, List.getElem_cons_zero, List.setIfInBounds_toArray, List.set_cons_zero, List.set_cons_succ]
  have hHb := hHeld
  have hba := hHa.2.size
  refine wpAnyH_ready (rs := [10]) (by kernel_rfl) (by simp) (AllReadyH.cons (o := _) rfl (fun K hK => ?_) AllReadyH.nil)
  have hcut := hsrc w1 hHb.1
  refine step_append_any w1 rfl (.tmp 21) (.tmp 24) 35 rfl _ 38 i0 _ 1 8 Tryd.underlying35 hi0 hz0 hz1 hz2 rfl (by omega) v1 (i + 1) _ (by rfl) hown1 w1.heap.size (some ⟨b, off + i * 1, none⟩) (n - i) (c - i) (ids (l.drop i)) (by simp only [Act.eval]; simp; omega) hcut (ids_one _) (by simp only [maxLen]; omega) (by omega) (by have := hg1.size; exact this) ?_
  intro v2 w2 hown2 hg2 hat2
  refine hK.out _ _ (hHa.keep (own_grown_below (grown_below hg1) hown1 hg2)) (fun hHeld => ?_)
  clear hK K
  try simp only [Act.put, List.getElem_toArray, List.getElem_cons_succ, List.getElem_cons_zero, List.setIfInBounds_toArray, List.set_cons_zero, List.set_cons_succ]
  refine wpAnyH_take (i := 11) (oi := _) (v := ?_) rfl (by kernel_rfl) (by kernel_rfl) (by kernel_rfl) (fun _ _ _ h => h) (Or.inl ⟨by rfl, ?_⟩) hHeld ?_
  rotate_left
  · intro w hSw; obtain ⟨_, _⟩ := hSw; go_simp; try with_reducible rfl
  simp only [Act.put, List.getElem_toArray, List.getElem_cons_succ, List.getElem_cons_zero, List.setIfInBounds_toArray, List.set_cons_zero, List.set_cons_succ]
  refine wpAnyH_done (by kernel_rfl) ?_ _
  have hfin := iown_with (B' := w.heap.size) (i := i) (m := n - i) HL.out HI rfl hown2 (by simp)
  have hbB := hHeld.2
  go_wp2_with fail
  go_ret
  exact ⟨_, rfl, hfin, hbB⟩
end Go.Proofs.YtibjelonabhcmaaDoor
namespace Go.Proofs.YtibjelonabhcmaaDoor
open Go.RowKit
set_option linter.unusedVariables false
set_option linter.unusedSimpArgs false
set_option maxRecDepth 100000 in
set_option maxHeartbeats 4000000 in
theorem iwith_eq (b off n c i : Nat) (l : List Int) (v : Int) (w : World) (hR : Reads w w.heap.size 1 (some ⟨b, off, none⟩) n (ids l)) (hnc : n ≤ c) (hn : n ≤ 65536) (hc : c ≤ 9223372036854775807) (hi : i ≤ n) (hic : n = i) (hcc : c = i)
    (k4 : ibIn l v = false) (k5 : ibAt l v = i) :
    Calls Tryd.prog 58 #[.slice (some ⟨b, off, none⟩) n c, .int .u64 v] w (OwnI (l.take i ++ v :: l.drop i) w) := by
  subst hic
  subst hcc
  have hl : l.length = c := by have := hR.1; rw [ids_len] at this; omega
  obtain ⟨i0, hi0, hz0, hz1, hz2⟩ := info_parts info_id
  have cf := fun (W : World) (h : Below w.heap.size w W) => ib_any (some ⟨b, off, none⟩) c c l v W ((hR.below h).more h.size) (by omega)
  rw [k4, k5] at cf
  have hlo : (ids (l.take c)).length = c * 1 := by rw [ids_len, List.length_take]; omega
  have hsrc : ∀ (W : World), Reads W W.heap.size 1 (some ⟨b, off, none⟩) c (ids l) → Reads W W.heap.size 1 (some ⟨b, off, none⟩) 0 (ids []) := fun W h => ⟨rfl, fun h => absurd h (by omega)⟩
  have hB := Below.refl w.heap.size w
  have HH : IHold w w (some ⟨b, off, none⟩) c l := ⟨hR, hB⟩
  have HL := Lib.hid hl
  have HI := hi
  have HLO := Lib.hid hlo
  have HS := Lib.hid hsrc
  clear hR k4 k5 hlo hl hsrc
  go_enter Tryd.func58, Tryd.ntmps58
  go_wp2_with (first
    | (go_at_call 55; ((with_reducible refine (cf _ hB).mono ?_); rintro en w1 ⟨rfl, rfl⟩))
    | fail)
  have hlo := HLO.out
  have hsrc := HS.out
  clear HLO HS
  refine wp_region_held_drew (S := fun w' => IHold w w' (some ⟨b, off, none⟩) c l) (by kernel_rfl) (HH.keep ((Below.refl _ _).drew)) (fun hHeld => ?_)
  refine wpAnyH_take (i := 0) (oi := _) (v := ?_) rfl (by kernel_rfl) (by kernel_rfl) (by kernel_rfl) (fun _ _ _ h => h) (Or.inl ⟨by rfl, ?_⟩) hHeld ?_
  rotate_left
  · intro w hSw; obtain ⟨_, _⟩ := hSw; go_simp; try with_reducible rfl
  simp only [Act.put, List.getElem_toArray, List.getElem_cons_succ, List.getElem_cons_zero, List.setIfInBounds_toArray, List.set_cons_zero, List.set_cons_succ]
  refine wpAnyH_take (i := 1) (oi := _) (v := ?_) rfl (by kernel_rfl) (by kernel_rfl) (by kernel_rfl) (fun _ _ _ h => h) (Or.inl ⟨by rfl, ?_⟩) hHeld ?_
  rotate_left
  · intro w hSw; obtain ⟨_, _⟩ := hSw; go_simp; try with_reducible rfl
  simp only [Act.put, List.getElem_toArray, List.getElem_cons_succ, List.getElem_cons_zero, List.setIfInBounds_toArray, List.set_cons_zero, List.set_cons_succ]
  refine wpAnyH_take (i := 2) (oi := _) (v := ?_) rfl (by kernel_rfl) (by kernel_rfl) (by kernel_rfl) (fun _ _ _ h => h) (Or.inl ⟨by rfl, ?_⟩) hHeld ?_
  rotate_left
  · intro w hSw; obtain ⟨_, _⟩ := hSw; go_simp; try with_reducible rfl
  simp only [Act.put, List.getElem_toArray, List.getElem_cons_succ, List.getElem_cons_zero, List.setIfInBounds_toArray, List.set_cons_zero, List.set_cons_succ]
  refine wpAnyH_take (i := 3) (oi := _) (v := ?_) rfl (by kernel_rfl) (by kernel_rfl) (by kernel_rfl) (fun _ _ _ h => h) (Or.inl ⟨by rfl, ?_⟩) hHeld ?_
  rotate_left
  · intro w hSw; obtain ⟨_, _⟩ := hSw; go_simp; try with_reducible rfl
  simp only [Act.put, List.getElem_toArray, List.getElem_cons_succ, List.getElem_cons_zero, List.setIfInBounds_toArray, List.set_cons_zero, List.set_cons_succ]
  refine wpAnyH_take (i := 4) (oi := _) (v := ?_) rfl (by kernel_rfl) (by kernel_rfl) (by kernel_rfl) (fun _ _ _ h => h) (Or.inl ⟨by rfl, ?_⟩) hHeld ?_
  rotate_left
  · intro w hSw; obtain ⟨_, _⟩ := hSw; go_simp; try with_reducible rfl
  simp only [Act.put, List.getElem_toArray, List.getElem_cons_succ, List.getElem_cons_zero, List.setIfInBounds_toArray, List.set_cons_zero, List.set_cons_succ]
  refine wpAnyH_take (i := 7) (oi := _) (v := ?_) rfl (by kernel_rfl) (by kernel_rfl) (by kernel_rfl) (fun _ _ _ h => h) (Or.inl ⟨by rfl, ?_⟩) hHeld ?_
  rotate_left
  · intro w hSw; obtain ⟨_, _⟩ := hSw; go_simp; try with_reducible rfl
  simp only [Act.put, List.getElem_toArray, List.getElem_cons_succ, List.getElem_cons_zero, List.setIfInBounds_toArray, List.set_cons_zero, List.set_cons_succ]
  refine wpAnyH_take (i := 8) (oi := _) (v := ?_) rfl (by kernel_rfl) (by kernel_rfl) (by kernel_rfl) (fun _ _ _ h => h) (Or.inl ⟨by rfl, ?_⟩) hHeld ?_
  rotate_left
  · intro w hSw; obtain ⟨_, _⟩ := hSw; go_simp; try with_reducible rfl
  simp only [Act.put, List.getElem_toArray, List.getElem_cons_succ, List.getElem_cons_zero, List.setIfInBounds_toArray, List.set_cons_zero, List.set_cons_succ]
  refine wpAnyH_take (i := 9) (oi := _) (v := ?_) rfl (by kernel_rfl) (by kernel_rfl) (by kernel_rfl) (fun _ _ _ h => h) (Or.inl ⟨by rfl, ?_⟩) hHeld ?_
  rotate_left
  · intro w hSw; obtain ⟨_, _⟩ := hSw; go_simp; try with_reducible rfl
  simp only [Act.put, List.getElem_toArray, List.getElem_cons_succ, List.getElem_cons_zero, List.setIfInBounds_toArray, List.set_cons_zero, List.set_cons_succ]
  refine wpAnyH_ready (rs := [5]) (by kernel_rfl) (by simp) (AllReadyH.cons (o := _) rfl (fun K hK => ?_) AllReadyH.nil)
  go_simp
  
  refine hK.out _ _ (hHeld.keep ((Below.refl _ _).alloc (Nat.le_refl _) _)) (fun hHeld => ?_)
  clear hK K
  try simp only [Act.put, List.getElem_toArray, List.getElem_cons_succ, List.getElem_cons_zero, List.setIfInBounds_toArray, List.set_cons_zero, List.set_cons_succ]
  have hHa := hHeld
  refine wpAnyH_ready (rs := [6]) (by kernel_rfl) (by simp) (AllReadyH.cons (o := _) rfl (fun K hK => ?_) AllReadyH.nil)
  refine step_append_grows rfl (.tmp 18) (.tmp 20) 35 rfl 38 i0 _ 1 8 Tryd.underlying35 hi0 hz0 hz1 hz2 rfl (by omega) (some ⟨b, off, none⟩) c c (ids (l.take c)) (by rfl) (by simp) hlo (fun b' e j u hj => by cases e; exact itake_reads hHa.1 hi j u hj) _ 1 1 (ids [v]) (by rfl) rfl (fun j u hu => (lit_ids _ _ [v] (C := #[.int .u64 v]) rfl rfl).2 (by simp) |>.elim fun ad h => by obtain ⟨e, _, hc⟩ := h; cases e; exact hc j u hu) (ids_one [v]) (by omega) (by simp only [maxLen]; omega) (by omega) ?_
  intro v1 w1 hown1 hg1
  refine hK.out _ _ (hHa.keep (grown_below hg1)) (fun hHeld => ?_)
  clear hK K
  try simp only [Act.put, List.getElem_toArray, List.getElem_cons_succ, List.getElem_cons_zero, List.setIfInBounds_toArray, List.set_cons_zero, List.set_cons_succ]
  have hHb := hHeld
  have hba := hHa.2.size
  refine wpAnyH_ready (rs := [10]) (by kernel_rfl) (by simp) (AllReadyH.cons (o := _) rfl (fun K hK => ?_) AllReadyH.nil)
  have hcut := hsrc w1 hHb.1
  refine step_append_any w1 rfl (.tmp 21) (.tmp 24) 35 rfl _ 38 i0 _ 1 8 Tryd.underlying35 hi0 hz0 hz1 hz2 rfl (by omega) v1 (c + 1) _ (by rfl) hown1 w1.heap.size (some ⟨b, off, none⟩) 0 0 [] (by rfl) hcut (by simp) (by simp only [maxLen]; omega) (by omega) (by have := hg1.size; exact this) ?_
  intro v2 w2 hown2 hg2 hat2
  refine hK.out _ _ (hHa.keep (own_grown_below (grown_below hg1) hown1 hg2)) (fun hHeld => ?_)
  clear hK K
  try simp only [Act.put, List.getElem_toArray, List.getElem_cons_succ, List.getElem_cons_zero, List.setIfInBounds_toArray, List.set_cons_zero, List.set_cons_succ]
  refine wpAnyH_take (i := 11) (oi := _) (v := ?_) rfl (by kernel_rfl) (by kernel_rfl) (by kernel_rfl) (fun _ _ _ h => h) (Or.inl ⟨by rfl, ?_⟩) hHeld ?_
  rotate_left
  · intro w hSw; obtain ⟨_, _⟩ := hSw; go_simp; try with_reducible rfl
  simp only [Act.put, List.getElem_toArray, List.getElem_cons_succ, List.getElem_cons_zero, List.setIfInBounds_toArray, List.set_cons_zero, List.set_cons_succ]
  refine wpAnyH_done (by kernel_rfl) ?_ _
  have hfin := iown_with (B' := w.heap.size) (i := c) (m := 0) HL.out (Nat.le_refl _) (by omega) (by rw [List.drop_of_length_le (by have := HL.out; omega)]; exact hown2) (by simp)
  have hbB := hHeld.2
  go_wp2_with fail
  go_ret
  exact ⟨_, rfl, hfin, hbB⟩
end Go.Proofs.YtibjelonabhcmaaDoor
namespace Go.Proofs.YtibjelonabhcmaaDoor
open Go.RowKit
set_option linter.unusedVariables false
set_option linter.unusedSimpArgs false
set_option maxRecDepth 100000 in
set_option maxHeartbeats 4000000 in
theorem iwith_nil (v : Int) (w : World) :
    Calls Tryd.prog 58 #[.slice none 0 0, .int .u64 v] w (OwnI [v] w) := by
  have hR : Reads w w.heap.size 1 none 0 (ids []) := ⟨rfl, fun h => absurd h (by omega)⟩
  have hl : ([] : List Int).length = 0 := rfl
  have hi : 0 ≤ 0 := Nat.le_refl _
  have hnc : 0 ≤ 0 := Nat.le_refl _
  obtain ⟨i0, hi0, hz0, hz1, hz2⟩ := info_parts info_id
  have cf := fun (W : World) (h : Below w.heap.size w W) => ib_any none 0 0 [] v W ((hR.below h).more h.size) (by omega)
  rw [show ibIn [] v = false from rfl, show ibAt [] v = 0 from rfl] at cf
  have hlo : (ids (([] : List Int).take 0)).length = 0 * 1 := by rw [ids_len, List.length_take]; omega
  have hsrc : ∀ (W : World), Reads W W.heap.size 1 none 0 (ids []) → Reads W W.heap.size 1 none 0 (ids []) := fun W h => ⟨rfl, fun h => absurd h (by omega)⟩
  have hB := Below.refl w.heap.size w
  have HH : IHold w w none 0 [] := ⟨hR, hB⟩
  have HL := Lib.hid hl
  have HI := hi
  have HLO := Lib.hid hlo
  have HS := Lib.hid hsrc
  clear hR hlo hl hsrc
  go_enter Tryd.func58, Tryd.ntmps58
  go_wp2_with (first
    | (go_at_call 55; ((with_reducible refine (cf _ hB).mono ?_); rintro en w1 ⟨rfl, rfl⟩))
    | fail)
  have hlo := HLO.out
  have hsrc := HS.out
  clear HLO HS
  refine wp_region_held_drew (S := fun w' => IHold w w' none 0 []) (by kernel_rfl) (HH.keep ((Below.refl _ _).drew)) (fun hHeld => ?_)
  refine wpAnyH_take (i := 0) (oi := _) (v := ?_) rfl (by kernel_rfl) (by kernel_rfl) (by kernel_rfl) (fun _ _ _ h => h) (Or.inl ⟨by rfl, ?_⟩) hHeld ?_
  rotate_left
  · intro w hSw; obtain ⟨_, _⟩ := hSw; go_simp; try with_reducible rfl
  simp only [Act.put, List.getElem_toArray, List.getElem_cons_succ, List.getElem_cons_zero, List.setIfInBounds_toArray, List.set_cons_zero, List.set_cons_succ]
  refine wpAnyH_take (i := 1) (oi := _) (v := ?_) rfl (by kernel_rfl) (by kernel_rfl) (by kernel_rfl) (fun _ _ _ h => h) (Or.inl ⟨by rfl, ?_⟩) hHeld ?_
  rotate_left
  · intro w hSw; obtain ⟨_, _⟩ := hSw; go_simp; try with_reducible rfl
  simp only [Act.put, List.getElem_toArray, List.getElem_cons_succ, List.getElem_cons_zero, List.setIfInBounds_toArray, List.set_cons_zero, List.set_cons_succ]
  refine wpAnyH_take (i := 2) (oi := _) (v := ?_) rfl (by kernel_rfl) (by kernel_rfl) (by kernel_rfl) (fun _ _ _ h => h) (Or.inl ⟨by rfl, ?_⟩) hHeld ?_
  rotate_left
  · intro w hSw; obtain ⟨_, _⟩ := hSw; go_simp; try with_reducible rfl
  simp only [Act.put, List.getElem_toArray, List.getElem_cons_succ, List.getElem_cons_zero, List.setIfInBounds_toArray, List.set_cons_zero, List.set_cons_succ]
  refine wpAnyH_take (i := 3) (oi := _) (v := ?_) rfl (by kernel_rfl) (by kernel_rfl) (by kernel_rfl) (fun _ _ _ h => h) (Or.inl ⟨by rfl, ?_⟩) hHeld ?_
  rotate_left
  · intro w hSw; obtain ⟨_, _⟩ := hSw; go_simp; try with_reducible rfl
  simp only [Act.put, List.getElem_toArray, List.getElem_cons_succ, List.getElem_cons_zero, List.setIfInBounds_toArray, List.set_cons_zero, List.set_cons_succ]
  refine wpAnyH_take (i := 4) (oi := _) (v := ?_) rfl (by kernel_rfl) (by kernel_rfl) (by kernel_rfl) (fun _ _ _ h => h) (Or.inl ⟨by rfl, ?_⟩) hHeld ?_
  rotate_left
  · intro w hSw; obtain ⟨_, _⟩ := hSw; go_simp; try with_reducible rfl
  simp only [Act.put, List.getElem_toArray, List.getElem_cons_succ, List.getElem_cons_zero, List.setIfInBounds_toArray, List.set_cons_zero, List.set_cons_succ]
  refine wpAnyH_take (i := 7) (oi := _) (v := ?_) rfl (by kernel_rfl) (by kernel_rfl) (by kernel_rfl) (fun _ _ _ h => h) (Or.inl ⟨by rfl, ?_⟩) hHeld ?_
  rotate_left
  · intro w hSw; obtain ⟨_, _⟩ := hSw; go_simp; try with_reducible rfl
  simp only [Act.put, List.getElem_toArray, List.getElem_cons_succ, List.getElem_cons_zero, List.setIfInBounds_toArray, List.set_cons_zero, List.set_cons_succ]
  refine wpAnyH_take (i := 8) (oi := _) (v := ?_) rfl (by kernel_rfl) (by kernel_rfl) (by kernel_rfl) (fun _ _ _ h => h) (Or.inl ⟨by rfl, ?_⟩) hHeld ?_
  rotate_left
  · intro w hSw; obtain ⟨_, _⟩ := hSw; go_simp; try with_reducible rfl
  simp only [Act.put, List.getElem_toArray, List.getElem_cons_succ, List.getElem_cons_zero, List.setIfInBounds_toArray, List.set_cons_zero, List.set_cons_succ]
  refine wpAnyH_take (i := 9) (oi := _) (v := ?_) rfl (by kernel_rfl) (by kernel_rfl) (by kernel_rfl) (fun _ _ _ h => h) (Or.inl ⟨by rfl, ?_⟩) hHeld ?_
  rotate_left
  · intro w hSw; obtain ⟨_, _⟩ := hSw; go_simp; try with_reducible rfl
  simp only [Act.put, List.getElem_toArray, List.getElem_cons_succ, List.getElem_cons_zero, List.setIfInBounds_toArray, List.set_cons_zero, List.set_cons_succ]
  refine wpAnyH_ready (rs := [5]) (by kernel_rfl) (by simp) (AllReadyH.cons (o := _) rfl (fun K hK => ?_) AllReadyH.nil)
  go_simp
  
  refine hK.out _ _ (hHeld.keep ((Below.refl _ _).alloc (Nat.le_refl _) _)) (fun hHeld => ?_)
  clear hK K
  try simp only [Act.put, List.getElem_toArray, List.getElem_cons_succ, List.getElem_cons_zero, List.setIfInBounds_toArray, List.set_cons_zero, List.set_cons_succ]
  have hHa := hHeld
  refine wpAnyH_ready (rs := [6]) (by kernel_rfl) (by simp) (AllReadyH.cons (o := _) rfl (fun K hK => ?_) AllReadyH.nil)
  refine step_append_grows rfl (.tmp 18) (.tmp 20) 35 rfl 38 i0 _ 1 8 Tryd.underlying35 hi0 hz0 hz1 hz2 rfl (by omega) none 0 0 (ids (([] : List Int).take 0)) (by rfl) (by simp) hlo (fun b' e j u hj => by cases e) _ 1 1 (ids [v]) (by rfl) rfl (fun j u hu => (lit_ids _ _ [v] (C := #[.int .u64 v]) rfl rfl).2 (by simp) |>.elim fun ad h => by obtain ⟨e, _, hc⟩ := h; cases e; exact hc j u hu) (ids_one [v]) (by omega) (by simp only [maxLen]; omega) (by omega) ?_
  intro v1 w1 hown1 hg1
  refine hK.out _ _ (hHa.keep (grown_below hg1)) (fun hHeld => ?_)
  clear hK K
  try simp only [Act.put, List.getElem_toArray, List.getElem_cons_succ, List.getElem_cons_zero, List.setIfInBounds_toArray, List.set_cons_zero, List.set_cons_succ]
  have hHb := hHeld
  have hba := hHa.2.size
  refine wpAnyH_ready (rs := [10]) (by kernel_rfl) (by simp) (AllReadyH.cons (o := _) rfl (fun K hK => ?_) AllReadyH.nil)
  have hcut := hsrc w1 hHb.1
  refine step_append_any w1 rfl (.tmp 21) (.tmp 24) 35 rfl _ 38 i0 _ 1 8 Tryd.underlying35 hi0 hz0 hz1 hz2 rfl (by omega) v1 (0 + 1) _ (by rfl) hown1 w1.heap.size none 0 0 [] (by rfl) hcut (by simp) (by simp only [maxLen]; omega) (by omega) (by have := hg1.size; exact this) ?_
  intro v2 w2 hown2 hg2 hat2
  refine hK.out _ _ (hHa.keep (own_grown_below (grown_below hg1) hown1 hg2)) (fun hHeld => ?_)
  clear hK K
  try simp only [Act.put, List.getElem_toArray, List.getElem_cons_succ, List.getElem_cons_zero, List.setIfInBounds_toArray, List.set_cons_zero, List.set_cons_succ]
  refine wpAnyH_take (i := 11) (oi := _) (v := ?_) rfl (by kernel_rfl) (by kernel_rfl) (by kernel_rfl) (fun _ _ _ h => h) (Or.inl ⟨by rfl, ?_⟩) hHeld ?_
  rotate_left
  · intro w hSw; obtain ⟨_, _⟩ := hSw; go_simp; try with_reducible rfl
  simp only [Act.put, List.getElem_toArray, List.getElem_cons_succ, List.getElem_cons_zero, List.setIfInBounds_toArray, List.set_cons_zero, List.set_cons_succ]
  refine wpAnyH_done (by kernel_rfl) ?_ _
  have hfin := iown_with (B' := w.heap.size) (i := 0) (m := 0) HL.out (Nat.le_refl _) (by omega) hown2 (by simp)
  have hbB := hHeld.2
  go_wp2_with fail
  go_ret
  exact ⟨_, rfl, hfin, hbB⟩
end Go.Proofs.YtibjelonabhcmaaDoor
namespace Go.Proofs.YtibjelonabhcmaaDoor
open Go.RowKit
set_option linter.unusedVariables false
set_option linter.unusedSimpArgs false
def insI (l : List Int) (v : Int) : List Int := if ibIn l v then l else l.take (ibAt l v) ++ v :: l.drop (ibAt l v)
/-- a row of ids -/
def RowI (l : List Int) (w : World) (e : Ending) (w' : World) : Prop := ∃ A c, e = .returned (.slice A l.length c) ∧ Reads w' w'.heap.size 1 A l.length (ids l) ∧ Below w.heap.size w w'
theorem OwnI.row {l : List Int} {w w' : World} {e : Ending} (h : OwnI l w e w') : RowI l w e w' := by
  obtain ⟨v, rfl, ho, hb⟩ := h
  obtain ⟨A, c, rfl, _, _⟩ := own_cap ho
  exact ⟨A, c, rfl, Reads.of_own ho, hb⟩
theorem ibGo_le (l : List Int) (v : Int) (f lo hi : Nat) (h : lo ≤ hi) : ibGo l v f lo hi ≤ hi := by
  induction f generalizing lo hi with
  | zero => exact h
  | succ f ih =>
    by_cases h2 : lo < hi
    · rw [ibGo_step _ _ _ _ _ h2]
      split
      · exact ih _ _ (by omega)
      · exact Nat.le_trans (ih _ _ (by omega)) (by omega)
    · rw [ibGo_end _ _ _ _ _ h2]; exact h
theorem ibAt_le (l : List Int) (v : Int) : ibAt l v ≤ l.length := ibGo_le l v _ 0 _ (Nat.zero_le _)
/-- an address is nil only with a nil row -/
def NilOk (A : Option Addr) (n c : Nat) : Prop := (A = none ∧ n = 0 ∧ c = 0) ∨ ∃ b off, A = some ⟨b, off, none⟩
set_option maxRecDepth 100000 in
set_option maxHeartbeats 4000000 in
theorem iwith_any (A : Option Addr) (n c : Nat) (l : List Int) (v : Int) (w : World) (hA : NilOk A n c) (hR : Reads w w.heap.size 1 A n (ids l)) (hnc : n ≤ c) (hn : n ≤ 65536) (hc : c ≤ 9223372036854775807) :
    Calls Tryd.prog 58 #[.slice A n c, .int .u64 v] w (RowI (insI l v) w) := by
  have hl : l.length = n := by have := hR.1; rw [ids_len] at this; omega
  unfold insI
  cases hb : ibIn l v
  · rcases hA with ⟨rfl, rfl, rfl⟩ | ⟨b, off, rfl⟩
    · have : l = [] := List.eq_nil_of_length_eq_zero hl
      subst this
      exact (iwith_nil v w).mono fun e w' h => OwnI.row h
    · have hi := ibAt_le l v
      rw [hl] at hi
      by_cases h : ibAt l v < c
      · exact (iwith_lt b off n c (ibAt l v) l v w hR hnc hn hc hi h hb rfl).mono fun e w' h => OwnI.row h
      · exact (iwith_eq b off n c (ibAt l v) l v w hR hnc hn hc hi (by omega) (by omega) hb rfl).mono fun e w' h => OwnI.row h
  · have cf := fun (W : World) (h : Below w.heap.size w W) => ib_any A n c l v W ((hR.below h).more h.size) (by omega)
    rw [hb] at cf
    have hB := Below.refl w.heap.size w
    have hR2 := Lib.hid hR
    have hl2 := Lib.hid hl
    clear hR hb hl
    go_enter Tryd.func58, Tryd.ntmps58
    go_wp2_with (first
      | (go_at_call 55; ((with_reducible refine (cf _ hB).mono ?_); rintro en w1 ⟨rfl, rfl⟩))
      | fail)
    go_ret
    exact ⟨A, c, by show Ending.returned (.slice A n c) = .returned (.slice A l.length c); rw [hl2.out], by show Reads _ _ 1 A l.length (ids l); rw [hl2.out]; exact hR2.out, hB⟩
end Go.Proofs.YtibjelonabhcmaaDoor
namespace Go.Proofs.YtibjelonabhcmaaDoor
open Go.RowKit
set_option linter.unusedVariables false
set_option linter.unusedSimpArgs false
def twiE (l : List Int) (v : Int) : Int := if tyR l then (if tmay v then (if 12 < (insI l v).length then 6 else 0) else 2) else 130
def twiL (l : List Int) (v : Int) : List Int := if twiE l v = 0 then insI l v else []
theorem twi_ways (l : List Int) (v : Int) :
    (tyE l = 130 ∧ twiE l v = 130 ∧ twiL l v = []) ∨ (tyE l = 0 ∧ tmay v = false ∧ twiE l v = 2 ∧ twiL l v = []) ∨
    (tyE l = 0 ∧ tmay v = true ∧ 12 < (insI l v).length ∧ twiE l v = 6 ∧ twiL l v = []) ∨
    (tyE l = 0 ∧ tmay v = true ∧ (insI l v).length ≤ 12 ∧ twiE l v = 0 ∧ twiL l v = insI l v) := by
  unfold twiL twiE tyE
  cases tyR l
  · left; simp
  · right
    cases tmay v
    · left; simp
    · right
      by_cases h : 12 < (insI l v).length
      · left; simp [h]
      · right; simp [h]; omega
theorem insI_len (l : List Int) (v : Int) : (insI l v).length ≤ l.length + 1 := by
  unfold insI
  split
  · omega
  · have := ibAt_le l v
    rw [List.length_append, List.length_cons, List.length_take, List.length_drop]; omega
set_option maxRecDepth 100000 in
set_option maxHeartbeats 4000000 in
theorem twi_any (A : Option Addr) (n c : Nat) (l : List Int) (v : Int) (w : World) (hA : NilOk A n c) (hR : Reads w w.heap.size 1 A n (ids l)) (hW : ∀ x ∈ l, Word x) (hv : Word v) (hnc : n ≤ c) (hn : n ≤ 65535) (hc : c ≤ 9223372036854775807) :
    Calls Tryd.prog 32 #[.slice A n c, .int .u64 v] w (OwnJ (twiL l v) (twiE l v) w) := by
  have hl : l.length = n := by have := hR.1; rw [ids_len] at this; omega
  have cc := fun (W : World) (h : Below w.heap.size w W) => tcheck_any A n c l W ((hR.below h).more h.size) hW (by omega)
  have cm := fun (W : World) => tmay_any v hv W
  have ci := fun (W : World) (h : Below w.heap.size w W) => iwith_any A n c l v W hA ((hR.below h).more h.size) hnc (by omega) hc
  have hil := insI_len l v
  obtain ⟨N, hN⟩ : ∃ N, insI l v = N := ⟨_, rfl⟩
  rw [hN] at ci hil
  have hN2 : N.length ≤ 65536 := by omega
  have co := fun (W : World) (A : Option Addr) (c : Nat) (hR : Reads W W.heap.size 1 A N.length (ids N)) => town_any A N.length c N W hR hN2
  have hB := Below.refl w.heap.size w
  rcases twi_ways l v with ⟨k1, k8, k9⟩ | ⟨k1, k2, k8, k9⟩ | ⟨k1, k2, k3, k8, k9⟩ | ⟨k1, k2, k3, k8, k9⟩
  all_goals
    rw [k1] at cc
    try rw [k2] at cm
    try rw [hN] at k3
    try rw [hN] at k9
    rw [k8, k9]
    unfold RowI at ci
    try have t1 : decide (12 < (N.length : Int)) = true := decide_eq_true (by omega)
    try have t2 : decide (12 < (N.length : Int)) = false := decide_eq_false (by omega)
    clear k1 k8 k9 hR hW hA hil hN2 hl
    go_enter Tryd.func32, Tryd.ntmps32
    go_wp2_with (first
      | (go_at_call 18; ((with_reducible refine (cc _ hB).mono ?_); rintro en w2 ⟨rfl, hb2⟩; have hB := hB.trans (hb2.mono hB.size)))
      | (go_at_call 44; ((with_reducible refine (cm _).mono ?_); rintro en w3 ⟨rfl, hb3⟩; have hB := hB.trans (hb3.mono hB.size)))
      | (go_at_call 58; ((with_reducible refine (ci _ hB).mono ?_); rintro en w4 ⟨A4, c4, rfl, HR4, hb4⟩; have hB := hB.trans (hb4.mono hB.size)))
      | (go_at_call 57; ((with_reducible refine (co _ _ _ HR4).mono ?_); rintro en w5 ⟨v5, rfl, ho5, hb5⟩; have hle := hB.size; have hB := hB.trans (hb5.mono hB.size); obtain ⟨A5, c5, rfl, _, _⟩ := own_cap ho5; have HO := Lib.hid (base_le ho5 hle)))
      | fail)
    go_ret2
    first
      | exact ⟨_, rfl, HO.out, hB⟩
      | exact OwnJ.nil hB rfl
end Go.Proofs.YtibjelonabhcmaaDoor
