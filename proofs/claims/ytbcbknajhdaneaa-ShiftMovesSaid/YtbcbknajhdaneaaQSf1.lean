/- What is proved: the document's Move at tables that say the same; how large what Move hands back is. -/
import Derived.Test.YtbcbknajhdaneaaQSf0
namespace Go.Proofs.Ytbcbknajhdaneaa
open Go.RowKit Go.Maps
set_option linter.unusedVariables false
set_option linter.unusedSimpArgs false
theorem mv_psm {a b tf tt : Tab} {row : Int} (hw : ∀ x ∈ a.es, Word x) (hpf : tf.p = mvF a b row) (hpt : tt.p = mvT a b row) (n1 : NL a) (n2 : NL b) (n3 : NL tf) (n4 : NL tt)
    (pa : PSm a.p) (pb : PSm b.p) (la : a.es.length ≤ 30) (lb : b.es.length ≤ 30) : PSm tf.p ∧ PSm tt.p := by
  by_cases h : mvE a b row = 0
  · obtain ⟨h1, h2, _⟩ := mv_zero h
    have hF : a.F.length ≤ 65535 := by have h9 := pa.2.1; unfold Tab.p at h9; simpa using h9
    have hG : b.F.length ≤ 65535 := by have h9 := pb.2.1; unfold Tab.p at h9; simpa using h9
    obtain ⟨b1, b2⟩ := moved_bd h hw hpf hpt n1 n2 n3 n4 (a := 30) (b := 30) ⟨h1, pa.1, hF, la⟩ ⟨h2, pb.1, hG, lb⟩
    exact ⟨b1.psm (by omega) n3, b2.psm (by omega) n4⟩
  · unfold mvF at hpf
    unfold mvT at hpt
    rw [if_neg h] at hpf hpt
    rw [hpf, hpt]
    exact ⟨⟨Nat.zero_le _, Nat.zero_le _, Nat.zero_le _, by simp [noT]⟩, ⟨Nat.zero_le _, Nat.zero_le _, Nat.zero_le _, by simp [noT]⟩⟩
theorem rmove_like {a b x y : Tab} {row : Int} (b0 : Nat) (w : World) (hx : TabFresh w b0 x) (hy : TabFresh w b0 y) (hb0 : b0 ≤ w.heap.size) (hxp : x.p = a.p) (hyp : y.p = b.p) (na : NL a) (nb : NL b)
    (pa : PSm a.p) (pb : PSm b.p) (la : a.es.length ≤ 30) (lb : b.es.length ≤ 30) (h0 : mvE a b row = 0) :
    Calls Try.prog 52 #[x.V, y.V, .int .i64 row] w (RMovR b0 (mvF a b row) (mvT a b row) (mvR a b row) (mvM a b row) w) := by
  have nx := hx.ok.nl
  have ny := hy.ok.nl
  have eE : mvE x y row = mvE a b row := by rw [← mvE_nx nx ny, ← mvE_nx na nb, hxp, hyp]
  have eF : mvF x y row = mvF a b row := by rw [← mvF_nx nx ny, ← mvF_nx na nb, hxp, hyp]
  have eT : mvT x y row = mvT a b row := by rw [← mvT_nx nx ny, ← mvT_nx na nb, hxp, hyp]
  have eR : mvR x y row = mvR a b row := by rw [← mvR_nx nx ny, ← mvR_nx na nb, hxp, hyp]
  have eM : mvM x y row = mvM a b row := by rw [← mvM_nx nx ny, ← mvM_nx na nb, hxp, hyp]
  rw [← eE] at h0
  rw [← eF, ← eT, ← eR, ← eM]
  have hEx : x.es.length = x.En := hx.ok.len.2.2
  have hEy : y.es.length = y.En := hy.ok.len.2.2
  have hlx : x.es = a.es := congrArg (fun p : PT => p.2.2) hxp
  have hly : y.es = b.es := congrArg (fun p : PT => p.2.2) hyp
  obtain ⟨q, m, hq, hbf, hbt, hm, hqm, hwo, g1, g2, g3, g4⟩ := mv_doc h0 nx ny hEy
  rw [g1, g2, g3, g4, hq]
  rw [← hxp] at pa
  rw [← hyp] at pb
  exact rmove_any b0 x y q m w hx hy hb0 pa pb (by rw [← hEx, hlx]; omega) (by rw [← hEy, hly]; omega) hbf hbt hm hqm hwo
/-- what was wanted stands in its block -/
def WantM (pf pt : PT) (r m : Int) (X : World) (wx : World) : Prop :=
  ∃ uf ut : Tab, Blk wx X.heap.size 82 #[.slice uf.TA uf.Tn uf.Tc, .slice uf.CA uf.Cn uf.Cc, .slice uf.EA uf.En uf.Ec, .slice ut.TA ut.Tn ut.Tc, .slice ut.CA ut.Cn ut.Cc, .slice ut.EA ut.En ut.Ec, .int .i64 r, .int .u64 m] ∧
    uf.p = pf ∧ ut.p = pt ∧ TabOk wx wx.heap.size uf ∧ TabOk wx wx.heap.size ut ∧ Below X.heap.size X wx
theorem wantM_nil {X wx : World} (h : Blk wx X.heap.size 82 zMov) (hb : Below X.heap.size X wx) : WantM noT noT 0 0 X wx :=
  ⟨niT, niT, h, rfl, rfl, (niT_fresh wx wx.heap.size).ok, (niT_fresh wx wx.heap.size).ok, hb⟩
end Go.Proofs.Ytbcbknajhdaneaa
