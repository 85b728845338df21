/- What is proved: what a row moved leaves; how great tables may grow. -/
import Derived.Test.YtbcbknajhdaneaaVSb6
namespace Go.Proofs.Ytbcbknajhdaneaa
open Go.RowKit Go.Maps
set_option linter.unusedVariables false
set_option linter.unusedSimpArgs false
theorem mv_zero {f to : Tab} {row : Int} (h : mvE f to row = 0) : tabB f = true ∧ tabB to = true ∧ atE f row = 0 ∧ (bothT f to).all (carOk f to row) = true ∧ tpuE to (idAt f.es row.toNat) (gOf (mvV f to row)) = 0 := by
  unfold mvE at h
  split at h
  · rename_i hb
    rw [Bool.and_eq_true] at hb
    split at h
    · cases h
    · rename_i hr
      split at h
      · rename_i ha
        exact ⟨hb.1, hb.2, by unfold atE; rw [if_pos hb.1, if_pos (by omega)], ha, h⟩
      · cases h
  · cases h
theorem moved {f to tf tt : Tab} {row : Int} (h : mvE f to row = 0) (hw : ∀ x ∈ f.es, Word x) (hpf : tf.p = mvF f to row) (hpt : tt.p = mvT f to row) :
    ∃ r m, Swapped f tf row r m ∧ Turned to tt (idAt f.es r) (gOf (mvV f to row)) := by
  obtain ⟨h1, h2, h3, _, h5⟩ := mv_zero h
  unfold mvF at hpf
  unfold mvT at hpt
  rw [if_pos h] at hpf hpt
  obtain ⟨r, m, hS⟩ := swapped h3 hpf
  have hr : row.toNat = r := by have := hS.rw_; omega
  rw [hr] at h5 hpt
  have hrl : r < f.es.length := by have h1 := hS.rm; have h2 := hS.n0; omega
  exact ⟨r, m, hS, turned (hw _ (List.mem_of_getElem? (idAt_of hrl))) h5 hpt⟩
/-- a table that may be, of so many rows at most -/
structure Bd (m : Nat) (t : Tab) : Prop where
  b : tabB t = true
  ty : t.ty.length ≤ 65535
  F : t.F.length ≤ 65535
  es : t.es.length ≤ m
theorem Bd.psm {m : Nat} {t : Tab} (h : Bd m t) (hm : m ≤ 16000) (hn : NL t) : PSm t.p := by
  refine ⟨h.ty, by unfold Tab.p; simp only [List.length_map]; exact h.F, Nat.le_trans h.es (by omega), fun q hq => ?_⟩
  obtain ⟨x, hx, rfl⟩ := List.mem_map.1 hq
  obtain ⟨k, hk⟩ := List.getElem?_of_mem hx
  obtain ⟨h0, h1, h2, h3, _⟩ := tab_col h.b hn hk
  show x.l.length ≤ 65535
  rw [h3]
  have := h.es
  have : x.W.toNat * t.es.length ≤ 4 * 16000 := Nat.mul_le_mul (by omega) (by omega)
  omega
theorem Bd.mono {m m' : Nat} {t : Tab} (h : Bd m t) (hm : m ≤ m') : Bd m' t := ⟨h.b, h.ty, h.F, Nat.le_trans h.es hm⟩
theorem moved_bd {f to tf tt : Tab} {row : Int} {a b : Nat} (h : mvE f to row = 0) (hw : ∀ x ∈ f.es, Word x) (hpf : tf.p = mvF f to row) (hpt : tt.p = mvT f to row) (n1 : NL f) (n2 : NL to) (n3 : NL tf) (n4 : NL tt)
    (hf : Bd a f) (ht : Bd b to) : Bd a tf ∧ Bd (b + 1) tt := by
  obtain ⟨r, m, hS, hT⟩ := moved h hw hpf hpt
  refine ⟨⟨hS.b n3 n1, by rw [hS.ty]; exact hf.ty, by rw [hS.len]; exact hf.F, ?_⟩, ⟨hT.b n4 n2 (gOf_len _), by rw [hT.ty]; exact ht.ty, by rw [hT.len.1]; exact ht.F, ?_⟩⟩
  · rw [hS.len1]; have h1 := hS.n0; have h2 := hf.es; omega
  · rw [hT.es, List.length_append, List.length_singleton]; have := ht.es; omega
theorem alG_stop {s : PT × PT × Int} (h : s.2.2 ≠ 0) : ∀ l : List Int, l.foldl alS s = s
  | [] => rfl
  | r :: l => by
    show l.foldl alS (alS s r) = s
    have : alS s r = s := by unfold alS; rw [if_neg h]
    rw [this]
    exact alG_stop h l
theorem alG_take {f t : PT} {e : Int} {l : List Int} {k : Nat} (h : (alG f t e (l.take k)).2.2 ≠ 0) : alG f t e l = alG f t e (l.take k) := by
  have hs : alG f t e l = (l.drop k).foldl alS (alG f t e (l.take k)) := by
    unfold alG
    rw [← List.foldl_append, List.take_append_drop]
  rw [hs, alG_stop h]
/-- what Along hands back -/
def AlR (s : PT × PT × Int) (w : World) (e : Ending) (w' : World) : Prop :=
  ∃ tf tt : Tab, e = .returned (.tuple #[tf.V, tt.V, .int .i64 s.2.2]) ∧ tf.p = (if s.2.2 = 0 then s.1 else noT) ∧ tt.p = (if s.2.2 = 0 then s.2.1 else noT) ∧ TabFresh w' w.heap.size tf ∧ TabFresh w' w.heap.size tt ∧ Below w.heap.size w w'
/-- what Along's loop keeps -/
structure AlI (f0 t0 : PT) (e0 : Int) (l : List Int) (k : Nat) (er : Int) (h : Nat) (tf tt : Tab) (w W : World) : Prop where
  kf : Blk W h 25 #[.slice tf.TA tf.Tn tf.Tc, .slice tf.CA tf.Cn tf.Cc, .slice tf.EA tf.En tf.Ec]
  kt : Blk W (h + 1) 25 #[.slice tt.TA tt.Tn tt.Tc, .slice tt.CA tt.Cn tt.Cc, .slice tt.EA tt.En tt.Ec]
  k2 : Blk W (h + 2) 25 #[.slice none 0 0, .slice none 0 0, .slice none 0 0]
  k3 : Blk W (h + 3) 25 #[.slice none 0 0, .slice none 0 0, .slice none 0 0]
  ff : TabFresh W h tf
  ft : TabFresh W h tt
  bd : er = 0 → Bd 8000 tf ∧ Bd (8000 + k) tt
  st : alG f0 t0 e0 (l.take k) = (tf.p, tt.p, er)
  b : Below h w W
theorem AlI.below {f0 t0 : PT} {e0 er : Int} {l : List Int} {k h : Nat} {tf tt : Tab} {w W W' : World} (hI : AlI f0 t0 e0 l k er h tf tt w W) (hb : Below W.heap.size W W') (hh : h ≤ W.heap.size) : AlI f0 t0 e0 l k er h tf tt w W' :=
  ⟨blk_below hI.kf hb, blk_below hI.kt hb, blk_below hI.k2 hb, blk_below hI.k3 hb, hI.ff.below hb, hI.ft.below hb, hI.bd, hI.st, hI.b.trans (hb.mono hh)⟩
end Go.Proofs.Ytbcbknajhdaneaa
