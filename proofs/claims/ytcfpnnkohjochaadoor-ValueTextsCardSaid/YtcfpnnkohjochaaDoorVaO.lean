/- What is proved: the law's wakes holds. -/
import Derived.Test.YtcfpnnkohjochaaDoorVaN
namespace Go.Proofs.YtcfpnnkohjochaaDoor
open Go.RowKit
set_option linter.unusedVariables false
set_option linter.unusedSimpArgs false
theorem lit_ids (w : World) (t : TypeId) (l : List Int) {C : Array Value} (hC : C.toList = ids l) {q : Nat} (hq : w.heap.size = q) : Reads (w.alloc (.cells C t)) (w.alloc (.cells C t)).heap.size 1 (some ⟨q, 0, none⟩) l.length (ids l) := by
  subst hq
  refine ⟨by rw [ids_len]; omega, fun _ => ⟨_, rfl, by simp, fun j u hu => ?_⟩⟩
  rw [add_none, Nat.zero_add]
  refine (World.cell?_alloc_mark w C t (0, 0) j).trans ?_
  rw [← Array.getElem?_toList, hC]; exact hu
theorem word1 : Word 1 := by unfold Word; omega
theorem word255 : Word 255 := by unfold Word; omega
theorem wk_txt : txtV [1, 255] = [49, 44, 102, 102] := by
  have e1 : hexL 1 = [49] := by rw [hexL_lt (by omega)]; rfl
  have e2 : hexL 255 = [102, 102] := by rw [hexL_ge (by omega), hexL_lt (by omega)]; rfl
  unfold txtV joinV
  rw [if_neg (by simp)]
  have t1 : (1 : Int).toNat = 1 := rfl
  have t2 : (255 : Int).toNat = 255 := rfl
  rw [List.map_cons, List.map_cons, List.map_nil, t1, t2, e1, e2, Lib.join_cons]
  rfl
theorem wtext (b c : Nat) (w : World) (hT : Tz w) (hR : Reads w w.heap.size 1 (some ⟨b, 0, none⟩) 2 (ids [1, 255])) :
    Calls Tryd.prog 11 #[.slice (some ⟨b, 0, none⟩) 2 c] w fun e w' => e = .returned (.tuple #[.string ⟨#[49, 44, 102, 102]⟩, .int .i64 0]) ∧ Below w.heap.size w w' := by
  have h := text_any (some ⟨b, 0, none⟩) 2 c [⟨1, word1⟩, ⟨255, word255⟩] w hT hR (by omega)
  unfold TextC at h
  have hk : chkV (vals [⟨1, word1⟩, ⟨255, word255⟩]) = 0 := rfl
  have hv : vals [⟨1, word1⟩, ⟨255, word255⟩] = [1, 255] := rfl
  rw [hk, hv, wk_txt] at h
  exact h
/-- a value that was read, and an error -/
def RowR (l : List Int) (m : Nat) (x : Int) (w : World) (e : Ending) (w' : World) : Prop := ∃ A c, e = .returned (.tuple #[.slice A m c, .int .i64 x]) ∧ (m ≤ c ∧ c ≤ 9223372036854775807) ∧ Reads w' w'.heap.size 1 A m (ids l) ∧ Below w.heap.size w w'
theorem ReadC.row {s : ByteArray} {w w' : World} {e : Ending} {l : List Int} {m : Nat} (h : ReadC s w e w') (hl : readP s = some l) (hm : l.length = m) : RowR l m 0 w e w' := by
  obtain ⟨v, rfl, ho, hb⟩ := h
  rw [hl] at ho ⊢
  simp only [Option.getD_some] at ho
  rw [hm] at ho
  obtain ⟨A, c, rfl, hc⟩ := own_cap ho
  exact ⟨A, c, rfl, hc, Reads.of_own ho, hb⟩
theorem ReadC.rowN {s : ByteArray} {w w' : World} {e : Ending} (h : ReadC s w e w') (hl : readP s = none) : RowR [] 0 140 w e w' := by
  obtain ⟨v, rfl, ho, hb⟩ := h
  rw [hl] at ho ⊢
  simp only [Option.getD_none, List.length_nil] at ho
  obtain ⟨A, c, rfl, hc⟩ := own_cap ho
  exact ⟨A, c, rfl, hc, Reads.of_own ho, hb⟩
theorem wk_read1 : readP ⟨#[49, 44, 102, 102]⟩ = some [1, 255] := by rw [readP_L]; decide +kernel
theorem wk_read2 : readP ⟨#[48, 49]⟩ = none := by rw [readP_L]; decide +kernel
def wkL : List Int := [0, 0, 3, 0, 0, 0, 0, 0, 0, 0, 0, 0, 0, 0, 0, 0, 0, 0, 0, 0, 0, 0, 0, 0]
theorem wwidth (w : World) : Calls Tryd.prog 19 #[.agg #[.int .i64 0, .int .i64 0, .int .i64 3, .int .i64 0, .int .i64 0, .int .i64 0, .int .i64 0, .int .i64 0, .int .i64 0, .int .i64 0, .int .i64 0, .int .i64 0, .int .i64 0, .int .i64 0, .int .i64 0, .int .i64 0, .int .i64 0, .int .i64 0, .int .i64 0, .int .i64 0, .int .i64 0, .int .i64 0, .int .i64 0, .int .i64 0], .int .i64 3] w fun e w' => e = .returned (.tuple #[.int .i64 3, .int .i64 0]) ∧ Below w.heap.size w w' := by
  have h := width_v wkL rfl 3 w
  have h1 : widV wkL 3 = 3 := by decide +kernel
  have h2 : widE wkL 3 = 0 := by decide +kernel
  rw [h1, h2] at h
  exact h
set_option maxRecDepth 100000 in
set_option maxHeartbeats 8000000 in
theorem wakes_any (w : World) (hE : Env w) : Calls Tryd.prog 9 #[] w fun e w' => e = .returned (.bool true) ∧ Below w.heap.size w w' := by
  have hB := Below.refl w.heap.size w
  have ct := fun (b c : Nat) (W : World) (h : Below w.heap.size w W) (hR : Reads W W.heap.size 1 (some ⟨b, 0, none⟩) 2 (ids [1, 255])) => wtext b c W (hE.below h).tz hR
  have c1 := fun (W : World) (h : Below w.heap.size w W) => (read_any ⟨#[49, 44, 102, 102]⟩ W (by decide) (hE.below h)).mono (fun e w' h => ReadC.row (m := 2) h wk_read1 rfl)
  have c2 := fun (W : World) (h : Below w.heap.size w W) => (read_any ⟨#[48, 49]⟩ W (by decide) (hE.below h)).mono (fun e w' h => ReadC.rowN h wk_read2)
  have cw := fun (W : World) => wwidth W
  have ce := fun (A : Option Addr) (c : Nat) (A2 : Option Addr) (c2 : Nat) (W : World) (hR : Reads W W.heap.size 1 A 2 (ids [1, 255])) (hR2 : Reads W W.heap.size 1 A2 2 (ids [1, 255])) => equal_v A 2 c [1, 255] A2 2 c2 [1, 255] W hR hR2 (by omega) (by omega)
  have cc := fun (A : Option Addr) (c : Nat) (A2 : Option Addr) (c2 : Nat) (W : World) (hR : Reads W W.heap.size 1 A 1 (ids [1])) (hR2 : Reads W W.heap.size 1 A2 2 (ids [1, 0])) => compare_v A 1 c [1] A2 2 c2 [1, 0] W hR hR2 (by omega) (by omega)
  rw [show (([1, 255] : List Int) == [1, 255]) = true from by decide] at ce
  rw [show cmpV [1] [1, 0] = -1 from rfl] at cc
  clear hE
  go_enter Tryd.func9, Tryd.ntmps9
  go_wp2_with (first
    | (go_at_call 11; ((with_reducible refine (ct _ _ _ (hB.alloc hB.size _) (lit_ids _ _ [1, 255] rfl rfl)).mono ?_); rintro e w1 ⟨rfl, hb1⟩; have hB := (hB.alloc hB.size _).trans (hb1.mono (Nat.le_trans hB.size (by simp)))))
    | (go_at_call 14; ((first | (with_reducible refine (c1 _ hB).mono ?_) | (with_reducible refine (c2 _ hB).mono ?_)); rintro e w2 ⟨A2, k2, rfl, hk2, HR2, hb2⟩; have hB := hB.trans (hb2.mono hB.size); first | (have h3 := h3.trans (hb2.mono h3.size)) | (have h3 := Below.refl w2.heap.size w2; have HR3 := Lib.hid HR2)))
    | (go_at_call 19; ((with_reducible refine (cw _).mono ?_); rintro e w4 ⟨rfl, hb4⟩; have hB := hB.trans (hb4.mono hB.size); have h3 := h3.trans (hb4.mono h3.size)))
    | fail)
  have HR4 := (HR3.out.below h3).more h3.size
  refine (ce _ _ _ _ _ ((HR4.alloc (Nat.le_refl _) _).more (by simp)) (lit_ids _ _ [1, 255] rfl rfl)).mono ?_
  rintro e w5 ⟨rfl, hb5⟩
  have hB5 := (hB.alloc hB.size _).trans (hb5.mono (Nat.le_trans hB.size (by simp)))
  clear HR4 hB h3 HR3 ce HR2 ct c1 c2 cw
  go_wp2_with fail
  refine (cc _ _ _ _ _ (((lit_ids w5 _ [1] rfl rfl).alloc (Nat.le_refl _) _).more (by simp)) (lit_ids _ _ [1, 0] rfl (by simp))).mono ?_
  rintro e w6 ⟨rfl, hb6⟩
  have hB6 := ((hB5.alloc hB5.size _).alloc (Nat.le_trans hB5.size (by simp)) _).trans (hb6.mono (Nat.le_trans hB5.size (by simp; omega)))
  clear cc
  go_wp2_with fail
  go_ret
  exact ⟨rfl, hB6⟩
end Go.Proofs.YtcfpnnkohjochaaDoor
