/- Opening: scripts. -/
import Derived.Test.YtjldecomhpngmaaRB
import Derived.Test.YtjldecomhpngmaaXK
namespace Go.Proofs.Ytjldecomhpngmaa
open Go.ChangeShapes Go.WideShapes Go.ChangeAt Go.RowKit Go.Vw

theorem sumF_mem {β : Type} {g : β → Nat} : ∀ {l : List β} {b : β}, b ∈ l → g b ≤ sumF g l
  | x :: l, b, h => by
    simp only [sumF]
    rcases List.mem_cons.1 h with rfl | h
    · omega
    · have := sumF_mem (g := g) h; omega
theorem sumF_len {β : Type} {g : β → Nat} (hg : ∀ b, 1 ≤ g b) : ∀ l : List β, l.length ≤ sumF g l
  | [] => Nat.zero_le _
  | x :: l => by have := sumF_len hg l; have := hg x; simp only [sumF, List.length_cons]; omega
section
variable {H : Type} {enc : TypeId × Value → H} {w : World} {base : Nat} {held : Bool}
def StpR (w : World) (x : Stp) (b : List Int × Nat) : Prop := RdS w EU x.s b.1 ∧ (∀ y ∈ b.1, 0 ≤ y ∧ y < 256) ∧ x.N ≤ 9223372036854775807 ∧ (0 ≤ x.mask ∧ x.mask < 4294967296) ∧ x.n.length = b.2
theorem open_script {fuel : Nat} {cs : List Value} {x : DataW H × List MemPlace} (h : DataW.trod enc Try.prog w base (fun _ => true) held fuel 70 cs = some x) (hB : Rows.uptoBulk x.1 ≤ 1048576) :
    ∃ (s : Sl) (l : List Stp), cs = [(LV.sl s).toV] ∧ RdS w ESp s l ∧ l.length ≤ 1048576 ∧ ∀ x ∈ l, ∃ d, StpOk w x d := by
  obtain ⟨s, l, ds, hcs, hr, _, hlen, hR, hs⟩ := open_slice ESp (StpR w) (fun b : List Int × Nat => b.1.length + b.2 + 1) Try.underlying70 cellsOf62 (fun n cs y hy => by
    obtain ⟨op, nm, N, j, s, mask, d, e1, e2, _, e3, e4, e5, e6⟩ := open_step hy
    exact ⟨⟨op, nm, N, j, s, mask⟩, (d, nm.length), e1, ⟨e2, e3, e4, e5, rfl⟩, e6⟩) h
  have hl := sumF_len (g := fun b : List Int × Nat => b.1.length + b.2 + 1) (fun b => by show 1 ≤ b.1.length + b.2 + 1; omega) ds
  refine ⟨s, l, hcs, hr, by omega, fun y hy => ?_⟩
  obtain ⟨i, hi⟩ := List.mem_iff_getElem?.1 hy
  have hil : i < l.length := (List.getElem?_eq_some_iff.1 hi).1
  have hd : ds[i]? = some (ds[i]'(by omega)) := List.getElem?_eq_getElem (by omega)
  have hm : ds[i]'(by omega) ∈ ds := List.getElem_mem (by omega)
  generalize (ds[i]'(by omega)) = b at hd hm
  obtain ⟨h1, h2, h3, h4, h5⟩ := hR i y b hi hd
  have hb : b.1.length + b.2 + 1 ≤ sumF (fun b : List Int × Nat => b.1.length + b.2 + 1) ds := sumF_mem (g := fun b : List Int × Nat => b.1.length + b.2 + 1) hm
  exact ⟨b.1, by omega, h1, by omega, h2, h3, h4.1, h4.2⟩
end
end Go.Proofs.Ytjldecomhpngmaa
