/- Opening: pieces. -/
import Derived.Test.YtjldecomhpngmaaRB
import Derived.Test.YtjldecomhpngmaaVX
namespace Go.Proofs.Ytjldecomhpngmaa
open Go.ChangeShapes Go.WideShapes Go.ChangeAt Go.RowKit Go.Vw

theorem cellsOf4 : Try.prog.cellsOf 4 = 1 := by kernel_rfl
theorem cellsOf54 : Try.prog.cellsOf 54 = 5 := by kernel_rfl
def PcOk (w : World) (x : Int × Sl × Bool × Int × Bool) (d : List Int) : Prop := RdS w EU x.2.1 d ∧ (∀ y ∈ d, 0 ≤ y ∧ y < 256) ∧ x.2.2.2.1 ≤ 9223372036854775807
section
variable {H : Type} {enc : TypeId × Value → H} {w : World} {base : Nat} {held : Bool}
theorem open_piece {fuel : Nat} {cs : List Value} {x : DataW H × List MemPlace} (h : DataW.trod enc Try.prog w base (fun _ => true) held fuel 54 cs = some x) :
    ∃ (a : Int × Sl × Bool × Int × Bool) (d : List Int), cs = EPc.f a ∧ PcOk w a d ∧ d.length + 1 ≤ Rows.uptoBulk x.1 := by
  obtain ⟨xs, n, _, rfl, hl, hlen, hf⟩ := DataW.trod_struct Try.underlying54 h
  match xs, hlen with
  | [x0, x1, x2, x3, x4], _ =>
  have h0 : DataW.trod enc Try.prog w base (fun _ => true) held n 3 ((cs.drop 0).take (Try.prog.cellsOf 3)) = some x0 := hf 0 _ rfl
  have h1 : DataW.trod enc Try.prog w base (fun _ => true) held n 22 ((cs.drop 1).take (Try.prog.cellsOf 22)) = some x1 := hf 1 _ rfl
  have h2 : DataW.trod enc Try.prog w base (fun _ => true) held n 4 ((cs.drop 2).take (Try.prog.cellsOf 4)) = some x2 := hf 2 _ rfl
  have h3 : DataW.trod enc Try.prog w base (fun _ => true) held n 2 ((cs.drop 3).take (Try.prog.cellsOf 2)) = some x3 := hf 3 _ rfl
  have h4 : DataW.trod enc Try.prog w base (fun _ => true) held n 4 ((cs.drop 4).take (Try.prog.cellsOf 4)) = some x4 := hf 4 _ rfl
  clear hf
  rw [cellsOf3] at h0
  rw [cellsOf22] at h1
  rw [cellsOf4] at h2 h4
  rw [cellsOf2] at h3
  rw [cellsOf54] at hl
  match cs, hl with
  | [c0, c1, c2, c3, c4], _ =>
  obtain ⟨k0, e0, g0, _⟩ := DataW.trod_int Try.underlying3 h0
  obtain ⟨s, d, e1, hr, hlt, hby, hb⟩ := open_bytes h1
  obtain ⟨b2, e2, g2⟩ := DataW.trod_bool Try.underlying4 h2
  obtain ⟨k3, e3, g3, w3⟩ := DataW.trod_int Try.underlying2 h3
  obtain ⟨b4, e4, g4⟩ := DataW.trod_bool Try.underlying4 h4
  simp at e0 e1 e2 e3 e4
  subst e0 e1 e2 e3 e4
  refine ⟨(k0, s, b2, k3, b4), d, rfl, ⟨hr, hby, (wf64 w3).2⟩, ?_⟩
  simp only [List.map_cons, Rows.uptoBulk, Rows.uptoBulkAll]
  omega
theorem sum_pieces : ∀ ds : List (List Int), sumF (fun d : List Int => d.length + 1) ds = (ds.map List.length).sum + ds.length
  | [] => rfl
  | d :: r => by simp only [sumF, sum_pieces r, List.map_cons, List.sum_cons, List.length_cons]; omega
theorem open_pieces {fuel : Nat} {cs : List Value} {x : DataW H × List MemPlace} (h : DataW.trod enc Try.prog w base (fun _ => true) held fuel 48 cs = some x) :
    ∃ (s : Sl) (l : List (Int × Sl × Bool × Int × Bool)) (ds : List (List Int)), cs = [(LV.sl s).toV] ∧ RdS w EPc s l ∧ ds.length = l.length ∧ (∀ (i : Nat) a d, l[i]? = some a → ds[i]? = some d → PcOk w a d) ∧ (ds.map List.length).sum + ds.length + 1 ≤ Rows.uptoBulk x.1 := by
  obtain ⟨s, l, ds, hcs, hr, _, hlen, hR, hs⟩ := open_slice EPc (PcOk w) (fun d : List Int => d.length + 1) Try.underlying48 cellsOf54 (fun n cs y hy => open_piece hy) h
  rw [sum_pieces] at hs
  exact ⟨s, l, ds, hcs, hr, hlen, hR, hs⟩
end
end Go.Proofs.Ytjldecomhpngmaa
