/- What is proved: what comes of Move hangs on what tables say alone; rows moved one behind the other, in plain words. -/
import Derived.Test.YtbcbknajhdaneaaVSb4
import Derived.Test.YtbcbknajhdaneaaVSb5
namespace Go.Proofs.Ytbcbknajhdaneaa
open Go.RowKit Go.Maps
set_option linter.unusedVariables false
set_option linter.unusedSimpArgs false
def nx (x : Col) : Col := ⟨x.W, x.R, none, x.l.length, x.l.length, x.l⟩
/-- a table that says p -/
def ofP (p : PT) : Tab := ⟨none, p.1.length, p.1.length, p.1, none, p.2.1.length, p.2.1.length, p.2.1.map (fun q => ⟨q.1, q.2.1, none, q.2.2.length, q.2.2.length, q.2.2⟩), none, p.2.2.length, p.2.2.length, p.2.2⟩
theorem ofP_F (t : Tab) : (ofP t.p).F = t.F.map nx := by
  show (t.F.map Col.p).map _ = _
  rw [List.map_map]; rfl
theorem ofP_p (p : PT) : (ofP p).p = p := by
  obtain ⟨a, b, c⟩ := p
  show (a, (b.map _).map Col.p, c) = (a, b, c)
  rw [List.map_map]
  have : (Col.p ∘ fun (q : PC) => (⟨q.1, q.2.1, none, q.2.2.length, q.2.2.length, q.2.2⟩ : Col)) = id := by funext q; rfl
  rw [this, List.map_id]
theorem ofP_nl (p : PT) : NL (ofP p) := fun x hx => by
  obtain ⟨q, _, rfl⟩ := List.mem_map.1 hx
  rfl
theorem nx_fun {α : Type} (g : Col → α) (hg : ∀ (W R : Int) (A A' : Option Addr) (c c' : Nat) (l : List Int), g ⟨W, R, A, l.length, c, l⟩ = g ⟨W, R, A', l.length, c', l⟩) (x : Col) (h : x.l.length = x.n) : g (nx x) = g x := by
  obtain ⟨W, R, A, n, c, l⟩ := x
  simp only at h
  subst h
  exact hg _ _ _ _ _ _ _
theorem eachL_nx {α : Type} (g g' : Nat → Col → α) : ∀ (F : List Col) (b : Nat), (∀ (k : Nat), ∀ x ∈ F, g k (nx x) = g' k x) → eachL g b (F.map nx) = eachL g' b F
  | [], _, _ => rfl
  | x :: F, b, h => by
    have ih := eachL_nx g g' F (b + 1) (fun k y hy => h k y (List.mem_cons_of_mem _ hy))
    show g b (nx x) :: eachL g (b + 1) (F.map nx) = g' b x :: eachL g' (b + 1) F
    rw [ih, h b x (List.mem_cons_self ..)]
theorem widE_nx (G : List Rw) : ∀ (F : List Col) (b : Nat), widE G b (F.map nx) = widE G b F
  | [], _ => rfl
  | x :: F, b => by
    show (((vAt G b).n : Int) == x.W && widE G (b + 1) (F.map nx)) = (((vAt G b).n : Int) == x.W && widE G (b + 1) F)
    rw [widE_nx G F (b + 1)]
theorem tabB_nx {t : Tab} (h : NL t) : tabB (ofP t.p) = tabB t := tabB_p (ofP_p _) (ofP_nl _) h
theorem atE_nx {t : Tab} (h : NL t) (row : Int) : atE (ofP t.p) row = atE t row := by
  unfold atE
  rw [tabB_nx h]; rfl
theorem tpuE_nx {t : Tab} (h : NL t) (e : Int) (G : List Rw) : tpuE (ofP t.p) e G = tpuE t e G := by
  have hl : (ofP t.p).F.length = t.F.length := by rw [ofP_F, List.length_map]
  unfold tpuE
  rw [tabB_nx h, hl, ofP_F, widE_nx]; rfl
theorem tpuP_nx {t : Tab} (h : NL t) (e : Int) (G : List Rw) : tpuP (ofP t.p) e G = tpuP t e G := by
  unfold tpuP
  rw [tpuE_nx h, ofP_F, eachL_nx _ (fun k x => pushP x (vAt G k)) t.F 0 (fun k x hx => nx_fun (fun y => pushP y (vAt G k)) (fun _ _ _ _ _ _ _ => rfl) x (h x hx))]
  rfl
theorem tswP_nx {t : Tab} (h : NL t) (row : Int) : tswP (ofP t.p) row = tswP t row := by
  unfold tswP
  rw [atE_nx h, ofP_F, eachL_nx _ (fun k x => swpP x row) t.F 0 (fun k x hx => nx_fun (fun y => swpP y row) (fun _ _ _ _ _ _ _ => rfl) x (h x hx))]
  rfl
theorem tswM_nx {t : Tab} (h : NL t) (row : Int) : tswM (ofP t.p) row = tswM t row := by
  unfold tswM
  rw [atE_nx h]; rfl
theorem at_nx (t : Tab) (k : Nat) : (ofP t.p).F[k]? = (t.F[k]?).map nx := by rw [ofP_F, List.getElem?_map]
theorem nl_at {t : Tab} (h : NL t) {k : Nat} {x : Col} (hx : t.F[k]? = some x) : x.l.length = x.n := h x (List.mem_of_getElem? hx)
theorem getLi_nx {t : Tab} (h : NL t) (k : Nat) (row : Int) : getLi (ofP t.p) k row = getLi t k row := by
  unfold getLi
  rw [at_nx]
  cases hx : t.F[k]? with
  | none => rfl
  | some x => exact nx_fun (fun y => getL y row) (fun _ _ _ _ _ _ _ => rfl) x (nl_at h hx)
theorem carOk_nx {A B : Nat} {f to : Tab} (hf : NL f) (ht : NL to) (row : Int) (p : PIn A B) : carOk (ofP f.p) (ofP to.p) row p = carOk f to row p := by
  unfold carOk
  rw [at_nx, at_nx]
  cases hx : f.F[p.1.1]? with
  | none => rfl
  | some x =>
    cases hy : to.F[p.1.2]? with
    | none => rfl
    | some y => exact nx_fun (fun z => carB z y row) (fun _ _ _ _ _ _ _ => rfl) x (nl_at hf hx)
theorem zsV_nx (t : Tab) : zsV (ofP t.p) = zsV t := by
  unfold zsV
  rw [ofP_F, List.map_map]; rfl
theorem mvV_nx {f to : Tab} (hf : NL f) (row : Int) : mvV (ofP f.p) (ofP to.p) row = mvV f to row := by
  have hs : (stepV (A := f.ty.length) (B := to.ty.length) (ofP f.p) row) = stepV f row := by
    funext L p
    unfold stepV
    rw [getLi_nx hf]
  show (bothT f to).foldl (stepV (A := f.ty.length) (B := to.ty.length) (ofP f.p) row) (zsV (ofP to.p)) = (bothT f to).foldl (stepV f row) (zsV to)
  rw [hs, zsV_nx]
theorem mvE_nx {f to : Tab} (hf : NL f) (ht : NL to) (row : Int) : mvE (ofP f.p) (ofP to.p) row = mvE f to row := by
  have hc : (carOk (A := f.ty.length) (B := to.ty.length) (ofP f.p) (ofP to.p) row) = carOk f to row := by
    funext p
    exact carOk_nx hf ht row p
  unfold mvE
  rw [tabB_nx hf, tabB_nx ht, mvV_nx hf, tpuE_nx ht]
  show (if _ then (if _ then _ else if (bothT f to).all (carOk (A := f.ty.length) (B := to.ty.length) (ofP f.p) (ofP to.p) row) = true then _ else _) else _) = _
  rw [hc]; rfl
theorem mvF_nx {f to : Tab} (hf : NL f) (ht : NL to) (row : Int) : mvF (ofP f.p) (ofP to.p) row = mvF f to row := by unfold mvF; rw [mvE_nx hf ht, tswP_nx hf]
theorem mvT_nx {f to : Tab} (hf : NL f) (ht : NL to) (row : Int) : mvT (ofP f.p) (ofP to.p) row = mvT f to row := by unfold mvT; rw [mvE_nx hf ht, mvV_nx hf, tpuP_nx ht]; rfl
theorem mvR_nx {f to : Tab} (hf : NL f) (ht : NL to) (row : Int) : mvR (ofP f.p) (ofP to.p) row = mvR f to row := by unfold mvR; rw [mvE_nx hf ht]; rfl
theorem mvM_nx {f to : Tab} (hf : NL f) (ht : NL to) (row : Int) : mvM (ofP f.p) (ofP to.p) row = mvM f to row := by unfold mvM; rw [mvE_nx hf ht, tswM_nx hf]
/-- one row more along, so long as all went well -/
def alS (s : PT × PT × Int) (row : Int) : PT × PT × Int :=
  if s.2.2 = 0 then (if mvE (ofP s.1) (ofP s.2.1) row = 0 then (mvF (ofP s.1) (ofP s.2.1) row, mvT (ofP s.1) (ofP s.2.1) row, 0) else (s.1, s.2.1, mvE (ofP s.1) (ofP s.2.1) row)) else s
/-- rows moved one behind the other -/
def alG (f t : PT) (e : Int) (l : List Int) : PT × PT × Int := l.foldl alS (f, t, e)
theorem alG_snoc (f t : PT) (e : Int) {l : List Int} {k : Nat} {r : Int} (h : l[k]? = some r) : alG f t e (l.take (k + 1)) = alS (alG f t e (l.take k)) r := by
  unfold alG
  rw [take_snoc h, List.foldl_append]; rfl
end Go.Proofs.Ytbcbknajhdaneaa
