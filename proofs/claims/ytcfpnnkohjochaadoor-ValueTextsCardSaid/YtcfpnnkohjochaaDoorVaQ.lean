/- What is proved: the walk of the law ValueBack. -/
import Derived.Test.YtcfpnnkohjochaaDoorVaP
namespace Go.Proofs.YtcfpnnkohjochaaDoor
open Go.RowKit
set_option linter.unusedVariables false
set_option linter.unusedSimpArgs false
theorem vals_take (L : List WInt) (m : Nat) : vals (L.take m) = (vals L).take m := by unfold vals; rw [List.map_take]
theorem vals_len (L : List WInt) : (vals L).length = L.length := by unfold vals; rw [List.length_map]
theorem own_row {A : Option Addr} {n c m : Nat} {L V : List WInt} {w : World} (hR : Reads w w.heap.size 1 A n (ids (vals L))) (hnc : n ≤ c) (hn : c ≤ 281474976710656) (hV : L.take 8 = V) (hm : V.length = m) :
    Calls Tryd.prog 10 #[.slice A n c] w (RowV (vals V) m w) := by
  have h := own_v A n c (vals L) w hR hnc hn
  rw [← vals_take, hV] at h
  exact h.mono fun e w' h => OwnV.row h (by rw [vals_len, hm])
theorem text_ok {A : Option Addr} {n c : Nat} {V : List WInt} {T : ByteArray} {w : World} (hT : Tz w) (hR : Reads w w.heap.size 1 A n (ids (vals V))) (hn : n ≤ 281474976710656) (hk : chkV (vals V) = 0) (ht : (⟨(txtV (vals V)).toArray⟩ : ByteArray) = T) :
    Calls Tryd.prog 11 #[.slice A n c] w fun e w' => e = .returned (.tuple #[.string T, .int .i64 0]) ∧ Below w.heap.size w w' := by
  have h := text_any A n c V w hT hR hn
  unfold TextC at h
  rw [hk, if_pos rfl, ht] at h
  exact h
theorem text_no {A : Option Addr} {n c : Nat} {V : List WInt} {w : World} (hT : Tz w) (hR : Reads w w.heap.size 1 A n (ids (vals V))) (hn : n ≤ 281474976710656) (hk : chkV (vals V) = 140) :
    Calls Tryd.prog 11 #[.slice A n c] w fun e w' => e = .returned (.tuple #[.string ⟨#[]⟩, .int .i64 140]) ∧ Below w.heap.size w w' := by
  have h := text_any A n c V w hT hR hn
  unfold TextC at h
  rw [hk, if_neg (by omega)] at h
  exact h
theorem chkV_cases (l : List Int) : chkV l = 0 ∨ chkV l = 140 := by unfold chkV; split <;> simp
theorem txt_size {l : List Int} (hk : chkV l = 0) (hw : ∀ x ∈ l, Word x) : (txtV l).length ≤ 68 := by
  have h4 : l.length ≤ 4 := by unfold chkV at hk; split at hk <;> omega
  unfold txtV
  split
  · simp
  · have := joinV_len l hw; omega
theorem ba_toList (l : List UInt8) : ((⟨l.toArray⟩ : ByteArray)).data.toList = l := rfl
theorem ba_size (l : List UInt8) : ((⟨l.toArray⟩ : ByteArray)).size = l.length := by simp [ByteArray.size]
theorem ba_eq {a : ByteArray} {l : List UInt8} (h : l = a.data.toList) : (⟨l.toArray⟩ : ByteArray) = a := by subst h; rfl
set_option maxRecDepth 100000 in
set_option maxHeartbeats 16000000 in
theorem back_law (A : Option Addr) (n c : Nat) (L : List WInt) (s : ByteArray) (hs : s.size ≤ 140737488351232) (w : World) (hE : Env w) (hR : Reads w w.heap.size 1 A n (ids (vals L))) (hnc : n ≤ c) (hn : c ≤ 281474976710656) :
    Calls Tryd.prog 4 #[.slice A n c, .string s] w fun e w' => e = .returned (.bool true) ∧ Below w.heap.size w w' := by
  obtain ⟨V, hV⟩ : ∃ V, L.take 8 = V := ⟨_, rfl⟩
  obtain ⟨m, hm⟩ : ∃ m, V.length = m := ⟨_, rfl⟩
  have hm8 : m ≤ 8 := by rw [← hm, ← hV, List.length_take]; omega
  have hB := Below.refl w.heap.size w
  have cw := fun (W : World) (h : Below w.heap.size w W) => wakes_any W (hE.below h)
  have co := fun (W : World) (h : Below w.heap.size w W) => own_row (w := W) (c := c) ((hR.below h).more h.size) hnc hn hV hm
  have hvm : (vals V).length = m := by rw [vals_len, hm]
  obtain ⟨S, hS⟩ : ∃ S, s.extract 0 (min (s.size : Int) 120).toNat = S := ⟨_, rfl⟩
  have hSs : S.size ≤ 120 := by rw [← hS, ByteArray.size_extract]; omega
  have key2 : (readP S = none) ∨ ∃ L2 : List WInt, readP S = some (vals L2) ∧ (⟨(txtV (vals L2)).toArray⟩ : ByteArray) = S ∧ L2.length ≤ 4 ∧ chkV (vals L2) = 0 := by
    cases h : readP S with
    | none => exact .inl rfl
    | some l2 =>
      rw [readP_L] at h
      obtain ⟨h1, h2, h3⟩ := txt_read h
      obtain ⟨L2, rfl⟩ := wints l2 h3
      refine .inr ⟨L2, rfl, ba_eq h1, by rw [← vals_len]; exact h2, ?_⟩
      unfold chkV
      rw [if_neg (by omega)]
  have key1 : chkV (vals V) = 140 ∨ ∃ T : ByteArray, (⟨(txtV (vals V)).toArray⟩ : ByteArray) = T ∧ chkV (vals V) = 0 ∧ readP T = some (vals V) ∧ T.size ≤ 68 := by
    rcases chkV_cases (vals V) with k1 | k1
    · refine .inr ⟨_, rfl, k1, ?_, ?_⟩
      · rw [readP_L, ba_toList]; exact read_txt k1 (vals_word V)
      · rw [ba_size]; exact txt_size k1 (vals_word V)
    · exact .inl k1
  have cr2 : (∀ (W : World), Below w.heap.size w W → Calls Tryd.prog 14 #[.string S] W (RowR [] 0 140 W)) ∨ (∃ L2 : List WInt, ∃ q : Nat, q ≤ 4 ∧ (∀ (W : World), Below w.heap.size w W → Calls Tryd.prog 14 #[.string S] W (RowR (vals L2) q 0 W)) ∧
      (∀ (A : Option Addr) (c : Nat) (W : World), Below w.heap.size w W → Reads W W.heap.size 1 A q (ids (vals L2)) → Calls Tryd.prog 11 #[.slice A q c] W fun e w' => e = .returned (.tuple #[.string S, .int .i64 0]) ∧ Below W.heap.size W w') ∧
      (∀ (A : Option Addr) (c : Nat) (W : World), Calls Tryd.prog 18 #[.slice A q c] W fun e w' => e = .returned (.int .i64 0) ∧ W = w')) := by
    rcases key2 with h | ⟨L2, h1, h2, h3, h4⟩
    · exact .inl fun W hb => (read_any S W (by omega) (hE.below hb)).mono (fun e w' h' => ReadC.rowN h' h)
    · refine .inr ⟨L2, L2.length, h3, fun W hb => (read_any S W (by omega) (hE.below hb)).mono (fun e w' h' => ReadC.row h' h1 (vals_len L2)), fun A c W hb hR => text_ok (hE.below hb).tz hR (by omega) h4 h2, fun A c W => ?_⟩
      have := check_v A L2.length c (vals L2) (vals_len L2) (by omega) W
      rw [h4] at this
      exact this
  rcases key1 with k1 | ⟨T, hT, k1, hrd, hTs⟩
  · have ct := fun (A : Option Addr) (c : Nat) (W : World) (h : Below w.heap.size w W) (hR : Reads W W.heap.size 1 A m (ids (vals V))) => text_no (A := A) (c := c) (w := W) (hE.below h).tz hR (by omega) k1
    clear k1 hV hm hvm hE hR key2
    rcases cr2 with cr2 | ⟨L2, q, hq4, cr2, ct2, ck2⟩
    all_goals
      go_enter Tryd.func4, Tryd.ntmps4
      go_wp2_with (first
        | (go_at_call 9; ((with_reducible refine (cw _ hB).mono ?_); rintro e w1 ⟨rfl, hb1⟩; have hB := hB.trans (hb1.mono hB.size)))
        | (go_at_call 10; ((with_reducible refine (co _ hB).mono ?_); rintro e w2 ⟨A2, c2, rfl, hc2, HR2, hb2⟩; have hB := hB.trans (hb2.mono hB.size)))
        | (go_at_call 11; first | ((with_reducible refine (ct2 _ _ _ hB HR7).mono ?_); rintro e w8 ⟨rfl, hb8⟩; have hB := hB.trans (hb8.mono hB.size)) | ((with_reducible refine (ct _ _ _ hB HR2).mono ?_); rintro e w3 ⟨rfl, hb3⟩; have hB := hB.trans (hb3.mono hB.size)))
        | (go_at_call 14; ((with_reducible refine (cr2 _ hB).mono ?_); rintro e w7 ⟨A7, c7, rfl, hc7, HR7, hb7⟩; have hB := hB.trans (hb7.mono hB.size)))
        | (go_at_call 18; ((with_reducible refine (ck2 _ _ _).mono ?_); rintro e w9 ⟨rfl, rfl⟩))
        | fail)
      go_ret
      exact ⟨rfl, hB⟩
  · have ct := fun (A : Option Addr) (c : Nat) (W : World) (h : Below w.heap.size w W) (hR : Reads W W.heap.size 1 A m (ids (vals V))) => text_ok (A := A) (c := c) (w := W) (hE.below h).tz hR (by omega) k1 hT
    have cr := fun (W : World) (h : Below w.heap.size w W) => (read_any T W (by omega) (hE.below h)).mono (fun e w' h => ReadC.row (m := m) h hrd hvm)
    have cs := fun (A : Option Addr) (c : Nat) (A2 : Option Addr) (c2 : Nat) (W : World) (hR : Reads W W.heap.size 1 A m (ids (vals V))) (hR2 : Reads W W.heap.size 1 A2 m (ids (vals V))) => same_v A m c (vals V) A2 m c2 (vals V) W hR hR2 (by omega) (by omega)
    have ck := fun (A : Option Addr) (c : Nat) (W : World) => check_v A m c (vals V) hvm (by omega) W
    rw [k1] at ck
    have hbe : (vals V == vals V) = true := by simp
    rw [hbe] at cs
    clear k1 hrd hT hTs hV hm hvm hE hR hbe key2
    rcases cr2 with cr2 | ⟨L2, q, hq4, cr2, ct2, ck2⟩
    all_goals
      go_enter Tryd.func4, Tryd.ntmps4
      go_wp2_with (first
        | (go_at_call 9; ((with_reducible refine (cw _ hB).mono ?_); rintro e w1 ⟨rfl, hb1⟩; have hB := hB.trans (hb1.mono hB.size)))
        | (go_at_call 10; ((with_reducible refine (co _ hB).mono ?_); rintro e w2 ⟨A2, c2, rfl, hc2, HR2, hb2⟩; have hB := hB.trans (hb2.mono hB.size); have h2 := Below.refl w2.heap.size w2))
        | (go_at_call 11; first | ((with_reducible refine (ct2 _ _ _ hB HR7).mono ?_); rintro e w8 ⟨rfl, hb8⟩; have hB := hB.trans (hb8.mono hB.size)) | ((with_reducible refine (ct _ _ _ hB HR2).mono ?_); rintro e w3 ⟨rfl, hb3⟩; have hB := hB.trans (hb3.mono hB.size); have h2 := h2.trans (hb3.mono h2.size)))
        | (go_at_call 14; first | ((with_reducible refine (cr _ hB).mono ?_); rintro e w4 ⟨A4, c4, rfl, hc4, HR4, hb4⟩; have hB := hB.trans (hb4.mono hB.size); have h2 := h2.trans (hb4.mono h2.size)) | ((with_reducible refine (cr2 _ hB).mono ?_); rintro e w7 ⟨A7, c7, rfl, hc7, HR7, hb7⟩; have hB := hB.trans (hb7.mono hB.size)))
        | (go_at_call 17; ((with_reducible refine (cs _ _ _ _ _ HR4 ((HR2.below h2).more h2.size)).mono ?_); rintro e w5 ⟨rfl, hb5⟩; have hB := hB.trans (hb5.mono hB.size)))
        | (go_at_call 18; first | ((with_reducible refine (ck _ _ _).mono ?_); rintro e w6 ⟨rfl, rfl⟩) | ((with_reducible refine (ck2 _ _ _).mono ?_); rintro e w9 ⟨rfl, rfl⟩))
        | fail)
      go_ret
      exact ⟨rfl, hB⟩
theorem back_row (A : Option Addr) (n c : Nat) (l : List Int) (hnc : n ≤ c) (hn : c * 8 ≤ 140737488351232) (hw : ∀ x ∈ l, (Lit.int .u64 x).wf = true) (s : ByteArray) (hs : s.size ≤ 140737488351232) (w : World) (hE : Env w)
    (hR : Reads w w.heap.size 1 A n (l.map (Value.int .u64))) :
    Calls Tryd.prog 4 #[.slice A n c, .string s] w fun e w' => e = .returned (.bool true) ∧ Below w.heap.size w w' := by
  obtain ⟨L, rfl⟩ := wints l (fun x hx => word_wf (hw x hx))
  exact back_law A n c L s hs w hE hR hnc (by omega)
end Go.Proofs.YtcfpnnkohjochaaDoor
