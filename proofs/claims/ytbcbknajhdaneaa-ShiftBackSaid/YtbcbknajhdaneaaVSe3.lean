/- What is proved: the document's Move of a row. -/
import Derived.Test.YtbcbknajhdaneaaVSe2
import Derived.Test.YtbcbknajhdaneaaVStop
namespace Go.Proofs.Ytbcbknajhdaneaa
open Go.RowKit Go.Maps
set_option linter.unusedVariables false
set_option linter.unusedSimpArgs false
/-- what its loop keeps -/
structure RmI (f to : Tab) (q : Int) (h : Nat) (k : Nat) (G : List Rw) (s : Value) (w W : World) : Prop where
  kf : Blk W h 25 #[.slice f.TA f.Tn f.Tc, .slice f.CA f.Cn f.Cc, .slice f.EA f.En f.Ec]
  kt : Blk W (h + 1) 25 #[.slice to.TA to.Tn to.Tc, .slice to.CA to.Cn to.Cc, .slice to.EA to.En to.Ec]
  km : Blk W (h + 2) 82 zMov
  own : W.ownsRow h 44 1 s G.length (rws G)
  l : G.map Rw.l = (rV f to q).take k
  fr : ∀ v ∈ G, RwFresh W h v
  b : Below h w W
theorem RmI.below {f to : Tab} {q : Int} {h k : Nat} {G : List Rw} {s : Value} {w W W' : World} (hI : RmI f to q h k G s w W) (hb : Below W.heap.size W W') (hh : h ≤ W.heap.size) : RmI f to q h k G s w W' :=
  ⟨blk_below hI.kf hb, blk_below hI.kt hb, blk_below hI.km hb, own_below hI.own hb, hI.l, fun v hv => (hI.fr v hv).below hb, hI.b.trans (hb.mono hh)⟩
end Go.Proofs.Ytbcbknajhdaneaa
