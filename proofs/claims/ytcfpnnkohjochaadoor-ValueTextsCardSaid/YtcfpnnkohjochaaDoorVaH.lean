/- What is proved: slices.Collect at texts; Text. -/
import Derived.Test.YtcfpnnkohjochaaDoorVaG
namespace Go.Proofs.YtcfpnnkohjochaaDoor
open Go.RowKit
set_option linter.unusedVariables false
set_option linter.unusedSimpArgs false
theorem hexL_len : ∀ (k n : Nat), n < 16 ^ (k + 1) → (hexL n).length ≤ k + 1
  | 0, n, h => by rw [hexL_lt (by simpa using h)]; simp
  | k + 1, n, h => by
    by_cases h16 : n < 16
    · rw [hexL_lt h16]; simp
    · rw [hexL_ge h16, List.length_append]
      have := hexL_len k (n / 16) (by rw [Nat.pow_succ] at h; omega)
      simp; omega
theorem hexS_len {x : Int} (h : Word x) : (hexL x.toNat).length ≤ 16 := by
  obtain ⟨h0, h1⟩ := h
  exact hexL_len 15 _ (by omega)
/-- the texts of words, a comma between each two -/
def joinV (l : List Int) : List UInt8 := Lib.join (l.map fun x => hexL x.toNat) [44]
/-- a value's text -/
def txtV (l : List Int) : List UInt8 := if l = [] then [45] else joinV l
theorem joinV_len : ∀ (l : List Int), (∀ x ∈ l, Word x) → (joinV l).length ≤ 17 * l.length
  | [], _ => by simp [joinV, Lib.join_nil]
  | x :: l, h => by
    unfold joinV
    rw [List.map_cons, Lib.join_cons, List.length_append, List.length_cons]
    have h1 := hexS_len (h x (List.mem_cons_self ..))
    have h2 : ∀ m : List Int, (∀ x ∈ m, Word x) → (Lib.joinTail [44] (m.map fun x => hexL x.toNat)).length ≤ 17 * m.length := by
      intro m
      induction m with
      | nil => intro _; simp [Lib.joinTail]
      | cons y m ih =>
        intro hm
        have h3 := hexS_len (hm y (List.mem_cons_self ..))
        have h4 := ih (fun z hz => hm z (List.mem_cons_of_mem _ hz))
        unfold Lib.joinTail at h4 ⊢
        simp only [List.map_cons, List.flatten_cons, List.length_append, List.length_cons, List.length_nil] at h4 ⊢
        omega
    have := h2 l (fun z hz => h z (List.mem_cons_of_mem _ hz))
    omega
theorem collect_any (sv : Value) (n₀ : Nat) (ys : List WInt) (w : World) (hn₀ : n₀ ≤ w.heap.size) (hs : SeqT sv n₀ ys w) :
    Calls Tryd.prog 32 #[sv] w (OwnT ys w) := by
  have ca := append_seq sv n₀ ys w hn₀ hs
  obtain ⟨bv, rfl, _⟩ := hs
  go_enter Tryd.func32, Tryd.ntmps32
  go_wp2_with (first
    | (go_at_call 42; ((with_reducible refine ca.mono ?_); rintro e w1 ⟨v, rfl, ho, hb⟩; have HO := Lib.hid ho; clear ho))
    | fail)
  go_ret
  exact ⟨_, rfl, HO.out, hb⟩
theorem join_own {ys : List WInt} {w : World} {base : Nat} {v : Value} (hne : ys ≠ []) (hy : ys.length ≤ 4) (ho : w.ownsRow base 9 1 v ys.length (ys.map (fun x : WInt => Value.string (hexS x.1)))) :
    ∃ bk c, v = .slice (some ⟨bk, 0, none⟩) ys.length c ∧ Calls Tryd.prog 31 #[.slice (some ⟨bk, 0, none⟩) ys.length c, .string ⟨#[44]⟩] w fun e w' => e = .returned (.string ⟨(joinV (vals ys)).toArray⟩) ∧ Below w.heap.size w w' := by
  have hpos : 0 < ys.length := List.length_pos_iff.2 hne
  have ho2 := ho
  obtain ⟨hx, ⟨_, h0⟩ | ⟨g, cap, cur, rfl, h1, h2, h3, h4, h5, h6⟩⟩ := ho
  · omega
  · refine ⟨g, cap, rfl, ?_⟩
    have hcell : ∀ (j : Nat) x, (ys.map (fun x : WInt => hexS x.1))[j]? = some x → w.cell? ⟨g, 0 + j, none⟩ = some (.string x) := by
      intro j x hj
      have hr := Reads.of_own ho2
      obtain ⟨ad, e, _, hc⟩ := hr.2 hpos
      injection e with e
      subst e
      have := hc j (.string x) (by rw [List.getElem?_map] at hj ⊢; cases hq : ys[j]? with
        | none => rw [hq] at hj; cases hj
        | some y => rw [hq] at hj; simp at hj ⊢; exact hj)
      rw [add_none] at this
      exact this
    have hjl : (Lib.join ((ys.map (fun x : WInt => hexS x.1)).map (·.data.toList)) ((⟨#[44]⟩ : ByteArray)).data.toList) = joinV (vals ys) := by
      unfold joinV vals
      rw [List.map_map, List.map_map]
      rfl
    have hlen : (joinV (vals ys)).length ≤ 17 * ys.length := by
      have := joinV_len (vals ys) (vals_word ys)
      unfold vals at this ⊢
      rw [List.length_map] at this
      exact this
    have hc := Tryd.strings_Join g 0 cap (ys.map (fun x : WInt => hexS x.1)) ⟨#[44]⟩ w hcell (Array.getElem?_eq_some_iff.1 h2).1 (by rw [List.length_map]; omega) (by rw [List.length_map]; exact h3) (by rw [hjl]; omega)
    rw [List.length_map, hjl] at hc
    exact hc
def TextC (l : List Int) (w : World) (e : Ending) (w' : World) : Prop := e = .returned (.tuple #[.string (if chkV l = 0 then ⟨(txtV l).toArray⟩ else ⟨#[]⟩), .int .i64 (chkV l)]) ∧ Below w.heap.size w w'
set_option maxRecDepth 100000 in
theorem text_any (A : Option Addr) (n c : Nat) (ls : List WInt) (w : World) (hT : Tz w) (hR : Reads w w.heap.size 1 A n (ids (vals ls))) (hn : n ≤ 281474976710656) :
    Calls Tryd.prog 11 #[.slice A n c] w (TextC (vals ls) w) := by
  have hl : ls.length = n := by have := hR.1; rw [ids_len] at this; simpa [vals] using this
  have hlv : (vals ls).length = n := by unfold vals; rw [List.length_map, hl]
  have ck := fun W => check_v A n c (vals ls) hlv hn W
  rcases (show 4 < n ∨ n = 0 ∨ (0 < n ∧ n ≤ 4) from by omega) with h | h | ⟨h, h2⟩
  · have k1 : chkV (vals ls) = 140 := by unfold chkV; rw [if_pos (by omega)]
    have hend : ∀ w', Below w.heap.size w w' → TextC (vals ls) w (.returned (.tuple #[.string ⟨#[]⟩, .int .i64 140])) w' := by
      intro w' hb; unfold TextC; rw [k1, if_neg (by omega)]; exact ⟨rfl, hb⟩
    rw [k1] at ck
    clear k1 hR hl hlv hT
    go_enter Tryd.func11, Tryd.ntmps11
    go_wp2_with (first
      | (go_at_call 18; ((with_reducible refine (ck _).mono ?_); rintro e w1 ⟨rfl, rfl⟩))
      | fail)
    go_ret2
    exact hend _ (Below.refl _ _)
  · subst h
    have : ls = [] := List.eq_nil_of_length_eq_zero hl
    subst this
    have hend : ∀ w', Below w.heap.size w w' → TextC (vals []) w (.returned (.tuple #[.string ⟨#[45]⟩, .int .i64 0])) w' := by
      intro w' hb; exact ⟨rfl, hb⟩
    rw [show chkV (vals []) = 0 from rfl] at ck
    clear hR hl hlv hT
    go_enter Tryd.func11, Tryd.ntmps11
    go_wp2_with (first
      | (go_at_call 18; ((with_reducible refine (ck _).mono ?_); rintro e w1 ⟨rfl, rfl⟩))
      | fail)
    go_ret2
    exact hend _ (Below.refl _ _)
  · have k1 : chkV (vals ls) = 0 := by unfold chkV; rw [if_neg (by omega)]
    have hne : ls ≠ [] := fun e => by subst e; simp at hl; omega
    have hend : ∀ w', Below w.heap.size w w' → TextC (vals ls) w (.returned (.tuple #[.string ⟨(joinV (vals ls)).toArray⟩, .int .i64 0])) w' := by
      intro w' hb
      have hv : vals ls ≠ [] := fun e => hne (by unfold vals at e; exact List.map_eq_nil_iff.1 e)
      unfold TextC txtV
      rw [k1, if_pos rfl, if_neg hv]
      exact ⟨rfl, hb⟩
    rw [k1] at ck
    have cx := texts_any A n c ls w hT hR h2
    have cj := fun (W : World) (base : Nat) (v : Value) (ho : W.ownsRow base 9 1 v ls.length (ls.map (fun x : WInt => Value.string (hexS x.1)))) => join_own hne (by omega) ho
    have i1 : ((n : Int) == 0) = false := by simp; omega
    generalize (joinV (vals ls)) = T at *
    have HL := Lib.hid hl
    have HE := Lib.hid hend
    clear k1 hR hlv hT hl hne hend
    go_enter Tryd.func11, Tryd.ntmps11
    go_wp2_with (first
      | (go_at_call 18; ((with_reducible refine (ck _).mono ?_); rintro e w1 ⟨rfl, rfl⟩))
      | (go_at_call 33; ((with_reducible refine cx.mono ?_); rintro e w2 ⟨v2, ⟨rfl, hs2⟩, hb2⟩; have cc := collect_any v2 w2.heap.size ls w2 (Nat.le_refl _) hs2; obtain ⟨bv, rfl, _⟩ := hs2))
      | (go_at_call 32; ((with_reducible refine cc.mono ?_); rintro e w3 ⟨v3, rfl, ho3, hb3⟩; obtain ⟨bk, c3, rfl, cj3⟩ := cj _ _ _ ho3; clear ho3))
      | (go_at_call 31; ((with_reducible refine cj3.mono ?_); rintro e w4 ⟨rfl, hb4⟩))
      | fail)
    go_ret2
    exact HE.out _ (hbe_tr (hbe_tr hb2 hb3) hb4)
end Go.Proofs.YtcfpnnkohjochaaDoor
