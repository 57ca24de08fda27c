/- Opening, for laws whose sources are read as they are; lists of integers. -/
import Derived.Test.YtfhojgammfkabaaR4
import Derived.Test.YtfhojgammfkabaaQ6
namespace Go.Proofs.Ytfhojgammfkabaa
open Go.ChangeShapes Go.WideShapes Go.ChangeAt Go.RowKit Go.Vw

theorem remQ_lens (Ls : List (List Thing)) : ∀ m, remQ (LQ Ls) m = lens Ls m
  | 0 => rfl
  | m + 1 => by rw [remQ, lens, remQ_lens Ls m]; rfl
theorem srcs_at {W : World} {s : Sl} {ys : List (Sl × Int)} {Ls : List (List Thing)} (hr : RdS W ES s ys) (hlen : Ls.length = ys.length) (hs : ∀ (i : Nat) y L, ys[i]? = some y → Ls[i]? = some L → SrcOk W y L) : SrcsAt W s ys Ls :=
  ⟨hr, hlen, fun i x L h1 h2 => ⟨(hs i x L h1 h2).rd, (hs i x L h1 h2).lt⟩⟩
theorem srcs_bound {ys : List (Sl × Int)} {Ls : List (List Thing)} (hlen : Ls.length = ys.length) : 3 * remQ (LQ Ls) ys.length + 3 * ys.length = sumF (fun L : List Thing => 3 * L.length + 3) Ls ∧ ∀ L ∈ Ls, 3 * L.length ≤ sumF (fun L : List Thing => 3 * L.length + 3) Ls := by
  refine ⟨by rw [remQ_lens, ← hlen]; exact lens_sum Ls, fun L hL => ?_⟩
  clear hlen
  induction Ls with
  | nil => cases hL
  | cons x r ih =>
    rw [sumF]
    rcases List.mem_cons.1 hL with rfl | h
    · omega
    · have := ih h; omega
theorem cellsOf_int {H : Type} {enc : TypeId × Value → H} {w : World} {base : Nat} {held : Bool} {n : Nat} {cs : List Value} {y : DataW H × List MemPlace} (h : DataW.trod enc Try.prog w base (fun _ => true) held n 3 cs = some y) : ∃ (a b : Int), cs = EI.f a ∧ (a = b ∧ okI a) ∧ 1 ≤ Rows.uptoBulk y.1 := by
  obtain ⟨k, e0, rfl, wk⟩ := DataW.trod_int Try.underlying3 h
  exact ⟨k, k, e0, ⟨rfl, wk⟩, by simp [Rows.uptoBulk]⟩
theorem open_ints' {H : Type} {enc : TypeId × Value → H} {w : World} {base : Nat} {held : Bool} {fuel : Nat} {cs : List Value} {x : DataW H × List MemPlace} (h : DataW.trod enc Try.prog w base (fun _ => true) held fuel 64 cs = some x) :
    ∃ (s : Sl) (l : List Int), cs = [(LV.sl s).toV] ∧ RdS w EI s l ∧ (∀ b, rk s b → b < w.heap.size) ∧ (∀ a ∈ l, okI a) ∧ l.length + 1 ≤ Rows.uptoBulk x.1 := by
  obtain ⟨s, l, bs, hcs, hr, hk, hlen, hR, hs⟩ := open_slice EI (fun a b => a = b ∧ okI a) (fun _ => 1) Try.underlying64 cellsOf3 (fun n cs y hy => cellsOf_int hy) h
  refine ⟨s, l, hcs, hr, hk, fun a ha => ?_, ?_⟩
  · obtain ⟨i, hi⟩ := List.mem_iff_getElem?.1 ha
    have hil : i < l.length := (List.getElem?_eq_some_iff.1 hi).1
    exact (hR i a _ hi (List.getElem?_eq_getElem (by omega))).2
  · have : ∀ bs : List Int, sumF (fun _ => 1) bs = bs.length := by
      intro bs
      induction bs with
      | nil => rfl
      | cons x r ih => simp only [sumF, ih, List.length_cons]; omega
    rw [this, hlen] at hs
    exact hs
end Go.Proofs.Ytfhojgammfkabaa
