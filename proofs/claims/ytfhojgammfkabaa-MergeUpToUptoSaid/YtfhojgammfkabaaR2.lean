/- Opening: things, sources. -/
import Derived.Test.YtfhojgammfkabaaR1
import Derived.Test.YtfhojgammfkabaaM0
import Derived.Test.YtfhojgammfkabaaM11
namespace Go.Proofs.Ytfhojgammfkabaa
open Go.ChangeShapes Go.WideShapes Go.ChangeAt Go.RowKit Go.Vw

theorem cellsOf3 : Try.prog.cellsOf 3 = 1 := by kernel_rfl
theorem cellsOf43 : Try.prog.cellsOf 43 = 1 := by kernel_rfl
theorem cellsOf44 : Try.prog.cellsOf 44 = 1 := by kernel_rfl
theorem cellsOf53 : Try.prog.cellsOf 53 = 2 := by kernel_rfl
theorem cellsOf55 : Try.prog.cellsOf 55 = 2 := by kernel_rfl
def okI (n : Int) : Prop := (Lit.int .i64 n).wf = true
def okT (x : Thing) : Prop := okI x.1 ∧ okI x.2
theorem two_cells {cs : List Value} {u v : Value} (h : cs.length = 2) (h0 : (cs.drop 0).take 1 = [u]) (h1 : (cs.drop 1).take 1 = [v]) : cs = [u, v] := by
  match cs, h with
  | [a, b], _ => simp at h0 h1; rw [h0, h1]
section
variable {H : Type} {enc : TypeId × Value → H} {w : World} {base : Nat} {held : Bool}
theorem open_thing {n : Nat} {cs : List Value} {y : DataW H × List MemPlace} (h : DataW.trod enc Try.prog w base (fun _ => true) held n 55 cs = some y) : ∃ (a : Thing) (b : Thing), cs = ET.f a ∧ (a = b ∧ okT a) ∧ 3 ≤ Rows.uptoBulk y.1 := by
  obtain ⟨y0, y1, m, rfl, hl, h0, h1⟩ := trod_struct2 Try.underlying55 h
  obtain ⟨k, e0, rfl, wk⟩ := DataW.trod_int Try.underlying3 h0
  obtain ⟨j, e1, rfl, wj⟩ := DataW.trod_int Try.underlying3 h1
  rw [cellsOf3] at e0 e1
  rw [cellsOf55] at hl
  exact ⟨(k, j), (k, j), two_cells hl e0 e1, ⟨rfl, wk, wj⟩, by simp [Rows.uptoBulk, Rows.uptoBulkAll]⟩
theorem open_things {fuel : Nat} {cs : List Value} {x : DataW H × List MemPlace} (h : DataW.trod enc Try.prog w base (fun _ => true) held fuel 43 cs = some x) :
    ∃ (s : Sl) (l : List Thing), cs = [(LV.sl s).toV] ∧ RdS w ET s l ∧ (∀ b, rk s b → b < w.heap.size) ∧ (∀ a ∈ l, okT a) ∧ 3 * l.length + 1 ≤ Rows.uptoBulk x.1 := by
  obtain ⟨s, l, bs, hcs, hr, hk, hlen, hR, hs⟩ := open_slice ET (fun a b => a = b ∧ okT a) (fun _ => 3) Try.underlying43 cellsOf55 (fun n cs y hy => open_thing hy) h
  refine ⟨s, l, hcs, hr, hk, fun a ha => ?_, ?_⟩
  · obtain ⟨i, hi⟩ := List.mem_iff_getElem?.1 ha
    have hil : i < l.length := (List.getElem?_eq_some_iff.1 hi).1
    exact (hR i a _ hi (List.getElem?_eq_getElem (by omega))).2
  · have : ∀ bs : List Thing, sumF (fun _ => 3) bs = 3 * bs.length := by
      intro bs
      induction bs with
      | nil => rfl
      | cons x r ih => simp only [sumF, ih, List.length_cons]; omega
    rw [this, hlen] at hs
    exact hs
/-- what a source holds -/
structure SrcOk (w : World) (y : Sl × Int) (L : List Thing) : Prop where
  rd : RdS w ET y.1 L
  lt : ∀ b, rk y.1 b → b < w.heap.size
  ok : ∀ a ∈ L, okT a
  en : okI y.2
theorem open_source {n : Nat} {cs : List Value} {y : DataW H × List MemPlace} (h : DataW.trod enc Try.prog w base (fun _ => true) held n 53 cs = some y) : ∃ (a : Sl × Int) (L : List Thing), cs = ES.f a ∧ SrcOk w a L ∧ 3 * L.length + 3 ≤ Rows.uptoBulk y.1 := by
  obtain ⟨y0, y1, m, rfl, hl, h0, h1⟩ := trod_struct2 Try.underlying53 h
  obtain ⟨s, l, e0, hr, hk, hok, hb⟩ := open_things h0
  obtain ⟨j, e1, rfl, wj⟩ := DataW.trod_int Try.underlying44 h1
  rw [cellsOf43] at e0
  rw [cellsOf44] at e1
  rw [cellsOf53] at hl
  refine ⟨(s, j), l, two_cells hl e0 e1, ⟨hr, hk, hok, wj⟩, ?_⟩
  simp only [Rows.uptoBulk, Rows.uptoBulkAll]
  omega
/-- the argument []Source -/
theorem open_sources {fuel : Nat} {cs : List Value} {x : DataW H × List MemPlace} (h : DataW.trod enc Try.prog w base (fun _ => true) held fuel 41 cs = some x) :
    ∃ (s : Sl) (ys : List (Sl × Int)) (Ls : List (List Thing)), cs = [(LV.sl s).toV] ∧ RdS w ES s ys ∧ (∀ b, rk s b → b < w.heap.size) ∧ Ls.length = ys.length ∧ (∀ (i : Nat) y L, ys[i]? = some y → Ls[i]? = some L → SrcOk w y L) ∧ sumF (fun L : List Thing => 3 * L.length + 3) Ls + 1 ≤ Rows.uptoBulk x.1 :=
  open_slice ES (SrcOk w) (fun L : List Thing => 3 * L.length + 3) Try.underlying41 cellsOf53 (fun n cs y hy => open_source hy) h
end
end Go.Proofs.Ytfhojgammfkabaa
