/- What is proved: what the walk of the law ValueOrder wants: rows of the call's own in later worlds, and apart. -/
import Derived.Test.YtcfpnnkohjochaaDoorVaR
namespace Go.Proofs.YtcfpnnkohjochaaDoor
open Go.RowKit
set_option linter.unusedVariables false
set_option linter.unusedSimpArgs false
def OwnM (l : List Int) (m : Nat) (w : World) (e : Ending) (w' : World) : Prop := ∃ A c, e = .returned (.slice A m c) ∧ w'.ownsRow w.heap.size 38 1 (.slice A m c) m (ids l) ∧ Below w.heap.size w w'
theorem own_m (A : Option Addr) (n c : Nat) (l : List Int) (w : World) (hR : Reads w w.heap.size 1 A n (ids l)) (hnc : n ≤ c) (hn : c ≤ 281474976710656) {l2 : List Int} {m : Nat} (hl : l.take 8 = l2) (hm : l2.length = m) :
    Calls Tryd.prog 10 #[.slice A n c] w (OwnM l2 m w) := by
  subst hl
  subst hm
  refine (own_v A n c l w hR hnc hn).mono ?_
  rintro e w' ⟨v, rfl, ho, hb⟩
  obtain ⟨A, c, rfl⟩ := own_slice ho
  exact ⟨A, c, rfl, ho, hb⟩
/-- two rows that lie apart -/
def Apart (v v2 : Value) : Prop := v.ownBlock = none ∨ v.ownBlock ≠ v2.ownBlock
theorem apart_of {w w2 : World} {B B2 n n2 : Nat} {e : TypeId} {size : Nat} {v v2 : Value} {xs xs2 : List Value} (h : w.ownsRow B e size v n xs) (h2 : w2.ownsRow B2 e size v2 n2 xs2) (hB : w.heap.size ≤ B2) : Apart v v2 := by
  cases e1 : v.ownBlock with
  | none => exact .inl e1
  | some k =>
    refine .inr fun e2 => ?_
    have := (h.lt k e1).2
    have := (h2.lt k (by rw [← e2, e1])).1
    omega
theorem Apart.symm {v v2 : Value} (h : Apart v v2) : Apart v2 v := by
  cases e1 : v2.ownBlock with
  | none => exact .inl e1
  | some k =>
    refine .inr fun e2 => ?_
    rcases h with h | h
    · rw [e1, h] at e2; cases e2
    · exact h e2.symm
theorem below_grown_own {W w w' : World} {B n : Nat} {e : TypeId} {size : Nat} {v : Value} {xs : List Value} (hb : Below W.heap.size W w) (ho : w.ownsRow B e size v n xs) (hB : W.heap.size ≤ B) (hg : w.grownBy w' v.ownBlock) : Below W.heap.size W w' :=
  hb.grown hg hb.size fun k hk => Nat.le_trans hB (ho.lt k hk).1
theorem apart_grown {w : World} {B n : Nat} {e : TypeId} {size : Nat} {v v1 v2 : Value} {xs : List Value} (h : Apart v1 v2) (ho : w.ownsRow B e size v1 n xs) (h4 : ∃ s, s ≤ w.heap.size ∧ ∀ k, v2.ownBlock = some k → k < s) (hat : v.ownBlock = v1.ownBlock ∨ v.ownBlock = some w.heap.size) : Apart v v2 := by
  rcases hat with e1 | e1
  · unfold Apart; rw [e1]; exact h
  · refine .inr fun e2 => ?_
    obtain ⟨s, hs, hk⟩ := h4
    have := hk w.heap.size (by rw [← e2, e1])
    omega
section
variable {P : Program} {w : World}
theorem wpList_append_gd {ops : Array Oper} {rest : List Oper} {o : Oper} {a : Act} {Q : Exit → Act → World → Prop} (hw : Region.wanted o (yielded ops a.tmps) = true) (s x : Operand) (t : TypeId)
    (ho : o.op = .call { callee := .builtin .append, args := #[s, x], argTypes := #[t, t] })
    (base : Nat) (e : TypeId) (i : TypeInfo) (z : Value) (size bytes : Nat) (ht : P.underlying t = some (.slice e)) (hi : P.info? e = some i) (hz : i.zero = some z)
    (hsize : i.size = size) (hby : i.bytes = bytes) (hzs : z.cells.size = size) (hsz : 0 < size)
    (v : Value) (n : Nat) (xs : List Value) (hs : a.eval s = v) (hown : w.ownsRow base e size v n xs)
    (B : Nat) (A : Option Addr) (m c : Nat) (news : List Value) (hx : a.eval x = .slice A m c) (hr : Reads w B size A m news) (h1 : ∀ u ∈ news, u.oneCell' = true)
    (h63 : n + m ≤ maxLen) (hbytes : (n + m) * bytes ≤ 140737488355328) (hbase : base ≤ w.heap.size)
    (h : ∀ v' w', w'.ownsRow base e size v' (n + m) (xs ++ news) → w.grownBy w' v.ownBlock → (v'.ownBlock = v.ownBlock ∨ v'.ownBlock = some w.heap.size) → wpList P ops Q rest (a.put o.dst v') w') : wpList P ops Q (o :: rest) a w := by
  show (if _ then _ else _)
  rw [if_pos hw]
  exact .inl (wp_append_any w s x t ho base e i z size bytes ht hi hz hsize hby hzs hsz v n xs hs hown B A m c news hx hr h1 h63 hbytes hbase h)
end
end Go.Proofs.YtcfpnnkohjochaaDoor
