/- What is proved: the contracts of Sum, few and slices.Clone. -/
import Derived.Test.YtkhkjenmajenjaaWalkC
namespace Go.Proofs.Ytkhkjenmajenjaa
open Go.RowKit
set_option linter.unusedVariables false
theorem Try.info46 : (Try.prog.info? 46).map (fun i => (i.zero, i.size, i.bytes)) = some (some (.float .f64 0), 1, 8) := by kernel_rfl
theorem Try.info22 : (Try.prog.info? 22).map (fun i => (i.zero, i.size, i.bytes)) = some (some (.int .u64 0), 1, 8) := by kernel_rfl
theorem fls_take (l : List Int) (k : Nat) (x : Int) (h : l[k]? = some x) : fls (l.take (k + 1)) = fls (l.take k) ++ [.float .f64 x.toNat] := by
  have hk : k < l.length := by
    rcases Nat.lt_or_ge k l.length with h1 | h1
    · exact h1
    · rw [List.getElem?_eq_none h1] at h; cases h
  rw [List.getElem?_eq_getElem hk] at h
  injection h with h
  unfold fls
  rw [List.take_succ_eq_append_getElem hk, List.map_append, h]
  rfl
theorem reads_new1 (w : World) (t : TypeId) (v : Value) (B : Nat) (hB : w.heap.size + 1 ≤ B) : Reads (w.alloc (.cells #[v] t)) B 1 (some ⟨w.heap.size, 0, none⟩) 1 [v] :=
  ⟨rfl, fun _ => ⟨_, rfl, by show w.heap.size < B; omega, fun j u hu => by
    match j, hu with
    | 0, hu =>
      simp at hu
      subst hu
      show World.cell? (w.alloc _) ⟨w.heap.size, 0, none⟩ = _
      simp [go_sem]⟩⟩
theorem own_slice {w : World} {base n : Nat} {e : TypeId} {size : Nat} {v : Value} {xs : List Value} (ho : w.ownsRow base e size v n xs) : ∃ A c, v = .slice A n c := by
  rcases ho.2 with ⟨rfl, rfl⟩ | ⟨g, cap, cur, rfl, _⟩
  · exact ⟨_, _, rfl⟩
  · exact ⟨_, _, rfl⟩
def sumOut (l : List Int) : Int := match fsum l with | some r => r | none => 9221120237041090560
theorem own_grown_below {W w w' : World} {n : Nat} {e : TypeId} {size : Nat} {v : Value} {xs : List Value} (hb : Below W.heap.size W w) (ho : w.ownsRow W.heap.size e size v n xs) (hg : w.grownBy w' v.ownBlock) : Below W.heap.size W w' := by
  refine hb.grown hg hb.size fun k hk => ?_
  rcases ho.2 with ⟨rfl, _⟩ | ⟨g, cap, cur, rfl, h1, _⟩
  · simp [Value.ownBlock] at hk
  · simp [Value.ownBlock] at hk; omega
theorem order_self {r : Nat} (h : ¬ Nan r) : FloatKind.f64.format.order r r = some .eq := by
  unfold Nan at h
  rw [order_num r r (by omega) (by omega)]; simp
theorem order_nan {r : Nat} (h : Nan r) : FloatKind.f64.format.order r r = none := order_nan_left _ _ h
theorem sumOut_nan {l : List Int} {r : Nat} (h : Fl (fsum l) r) (hx : (FloatKind.f64.format.order r r != some Ordering.eq) = true) : 9221120237041090560 = sumOut l := by
  rcases h with ⟨h1, h2⟩ | ⟨h1, h2⟩
  · rw [order_self h2] at hx; simp at hx
  · unfold sumOut; rw [h1]
theorem sumOut_num {l : List Int} {r : Nat} (h : Fl (fsum l) r) (hx : (FloatKind.f64.format.order r r != some Ordering.eq) = false) : (r : Int) = sumOut l := by
  rcases h with ⟨h1, h2⟩ | ⟨h1, h2⟩
  · unfold sumOut; rw [h1]
  · rw [order_nan h2] at hx; simp at hx
set_option maxHeartbeats 1000000 in
theorem sum_any (A : Option Addr) (n c : Nat) (l : List Int) (w : World) (hR : Reads w w.heap.size 1 A n (u64s l)) (hn : n ≤ 65536) (hw : Words l) :
    Calls Try.prog 24 #[.slice A n c] w fun e w' => e = .returned (.int .u64 (sumOut l)) ∧ Below w.heap.size w w' := by
  obtain ⟨i0, hi0, hz0, hz1, hz2⟩ := info_parts Try.info46
  have hto := tobits
  go_enter Try.func24, Try.ntmps24
  go_wp2
  go_loopw [3, 9] (fun s i wr => ∃ k : Nat, k ≤ n ∧ i = .int .i64 k ∧ wr.ownsRow w.heap.size 46 1 s k (fls (l.take k)) ∧ Below w.heap.size w wr)
    (fun _ i _ => n - (intOf i).toNat)
  case atStart => exact ⟨0, Nat.zero_le _, rfl, ⟨rfl, .inl ⟨rfl, rfl⟩⟩, Below.refl _ _⟩
  case round =>
    obtain ⟨k, hk, rfl, hown, hb⟩ := hrel
    by_cases hlt : k < n
    · obtain ⟨ad, u, rfl, hbl, hu, hcell⟩ := (hR.below hb).at_ hlt
      obtain ⟨v, hv, rfl⟩ := u64s_get hu
      have HF := fls_take l k v hv
      have HF' := Lib.hid HF
      clear HF hu hv hR
      go_wp2_with (first
        | (go_at_call 30; refine (number_any _ _).mono ?_; rintro e w' ⟨rfl, rfl⟩)
        | (at_builtin
           refine wpList_append_any _ rfl (.tmp 13) (.tmp 16) _ rfl w.heap.size 46 i0 _ 1 8 Try.underlying56 hi0 hz0 hz1 hz2 rfl (by omega) _ k (fls (l.take k)) rfl
             (hown.alloc _) (wr.heap.size + 1) (some ⟨wr.heap.size, 0, none⟩) 1 1 [.float .f64 v.toNat] rfl (reads_new1 _ _ _ _ (Nat.le_refl _)) ?_ (by simp only [maxLen]; omega) (by omega) (by have := hb.size; simp; omega) ?_
           · intro u hu; simp at hu; subst hu; rfl
           intro v1 w1 hown1 hg1 hat1))
      have hb1 := own_grown_below (hb.alloc hb.size _) (hown.alloc _) hg1
      go_roundw
      case rel => exact ⟨k + 1, by omega, by go_num, by rw [HF'.out]; exact hown1, hb1⟩
      case measure => simp [intOf]; omega
    · have hkn : k = n := by omega
      have hl : (u64s l).length = n := by have := hR.1; omega
      have hl' : l.take k = l := by rw [List.take_of_length_le]; rw [length_u64s] at hl; omega
      rw [hl'] at hown
      clear hl hl' hR
      subst hkn
      obtain ⟨A1, c1, rfl⟩ := own_slice hown
      have hRf := Reads.of_own hown
      clear hown
      go_wp2_with (first | (go_at_call 41; refine (total_any _ _ _ l _ hRf (by omega)).mono ?_; rintro e w1 ⟨r, ⟨rfl, hfl⟩, hb1⟩))
      · have hx : (FloatKind.f64.format.order r r != some Ordering.eq) = true := by assumption
        go_ret
        exact ⟨ret_int (sumOut_nan hfl hx), hb.trans (hb1.mono hb.size)⟩
      · have hx : (FloatKind.f64.format.order r r != some Ordering.eq) = false := by assumption
        go_ret
        exact ⟨ret_int (sumOut_num hfl hx), hb.trans (hb1.mono hb.size)⟩
end Go.Proofs.Ytkhkjenmajenjaa
