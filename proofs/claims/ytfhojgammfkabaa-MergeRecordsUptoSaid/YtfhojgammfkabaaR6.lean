/- Opening: pairs of texts. -/
import Derived.Test.YtfhojgammfkabaaRA
import Derived.Test.YtfhojgammfkabaaG0
namespace Go.Proofs.Ytfhojgammfkabaa
open Go.ChangeShapes Go.WideShapes Go.ChangeAt Go.RowKit Go.Vw

theorem cellsOf9 : Try.prog.cellsOf 9 = 1 := by kernel_rfl
theorem cellsOf97 : Try.prog.cellsOf 97 = 2 := by kernel_rfl
theorem str_toV (s : ByteArray) : Value.string s = (LV.str s.data.toList).toV := by
  cases s; simp [LV.toV]
theorem open_pair {H : Type} {enc : TypeId × Value → H} {w : World} {base : Nat} {held : Bool} {n : Nat} {cs : List Value} {y : DataW H × List MemPlace} (h : DataW.trod enc Try.prog w base (fun _ => true) held n 97 cs = some y) : ∃ (a b : Str × Str), cs = EPr.f a ∧ a = b ∧ 3 + a.1.length + a.2.length ≤ Rows.uptoBulk y.1 := by
  obtain ⟨y0, y1, m, rfl, hl, h0, h1⟩ := trod_struct2 Try.underlying97 h
  obtain ⟨k, e0, rfl, _⟩ := DataW.trod_string Try.underlying9 h0
  obtain ⟨j, e1, rfl, _⟩ := DataW.trod_string Try.underlying9 h1
  rw [cellsOf9] at e0 e1
  rw [cellsOf97] at hl
  rw [str_toV] at e0 e1
  refine ⟨(k.data.toList, j.data.toList), _, two_cells hl e0 e1, rfl, ?_⟩
  simp only [Rows.uptoBulk, Rows.uptoBulkAll]
  omega
theorem open_pairs {H : Type} {enc : TypeId × Value → H} {w : World} {base : Nat} {held : Bool} {fuel : Nat} {cs : List Value} {x : DataW H × List MemPlace} (h : DataW.trod enc Try.prog w base (fun _ => true) held fuel 22 cs = some x) :
    ∃ (s : Sl) (l : List (Str × Str)), cs = [(LV.sl s).toV] ∧ RdS w EPr s l ∧ (∀ b, rk s b → b < w.heap.size) ∧ 3 * l.length + 1 ≤ Rows.uptoBulk x.1 := by
  obtain ⟨s, l, bs, hcs, hr, hk, hlen, hR, hs⟩ := open_slice EPr (fun a b => a = b) (fun _ => 3) Try.underlying22 cellsOf97 (fun n cs y hy => by
    obtain ⟨a, b, h1, h2, h3⟩ := open_pair hy
    exact ⟨a, b, h1, h2, by omega⟩) h
  refine ⟨s, l, hcs, hr, hk, ?_⟩
  have : ∀ bs : List (Str × Str), sumF (fun _ => 3) bs = 3 * bs.length := by
    intro bs
    induction bs with
    | nil => rfl
    | cons x r ih => simp only [sumF, ih, List.length_cons]; omega
  rw [this, hlen] at hs
  exact hs
end Go.Proofs.Ytfhojgammfkabaa
