/- Opening: bytes, looks. -/
import Derived.Test.YtjldecomhpngmaaLR
import Derived.Test.YtjldecomhpngmaaVA
namespace Go.Proofs.Ytjldecomhpngmaa
open Go.ChangeShapes Go.WideShapes Go.ChangeAt Go.RowKit Go.Vw

theorem cellsOf2 : Try.prog.cellsOf 2 = 1 := by kernel_rfl
theorem cellsOf3 : Try.prog.cellsOf 3 = 1 := by kernel_rfl
theorem cellsOf5 : Try.prog.cellsOf 5 = 1 := by kernel_rfl
theorem cellsOf33 : Try.prog.cellsOf 33 = 2 := by kernel_rfl
theorem wf64 {k : Int} (h : (Lit.int .i64 k).wf = true) : -9223372036854775808 ≤ k ∧ k ≤ 9223372036854775807 := by
  simp [Lit.wf, IntKind.min, IntKind.max, IntKind.bits, IntKind.signed] at h; omega
theorem wf8 {k : Int} (h : (Lit.int .u8 k).wf = true) : 0 ≤ k ∧ k < 256 := by
  simp [Lit.wf, IntKind.min, IntKind.max, IntKind.bits, IntKind.signed] at h; omega
theorem wf32 {k : Int} (h : (Lit.int .u32 k).wf = true) : 0 ≤ k ∧ k < 4294967296 := by
  simp [Lit.wf, IntKind.min, IntKind.max, IntKind.bits, IntKind.signed] at h; omega
theorem sumC {β : Type} (n : Nat) : ∀ bs : List β, sumF (fun _ => n) bs = n * bs.length
  | [] => rfl
  | x :: r => by simp only [sumF, sumC n r, List.length_cons, Nat.mul_add]; omega
section
variable {H : Type} {enc : TypeId × Value → H} {w : World} {base : Nat} {held : Bool}
theorem open_bytes {fuel : Nat} {cs : List Value} {x : DataW H × List MemPlace} (h : DataW.trod enc Try.prog w base (fun _ => true) held fuel 22 cs = some x) :
    ∃ (s : Sl) (l : List Int), cs = [(LV.sl s).toV] ∧ RdS w EU s l ∧ (∀ b, rk s b → b < w.heap.size) ∧ (∀ a ∈ l, 0 ≤ a ∧ a < 256) ∧ l.length + 1 ≤ Rows.uptoBulk x.1 := by
  obtain ⟨s, l, bs, hcs, hr, hk, hlen, hR, hs⟩ := open_slice EU (fun a b => a = b ∧ (0 ≤ a ∧ a < 256)) (fun _ => 1) Try.underlying22 cellsOf5 (fun n cs y hy => by
    obtain ⟨k, e0, rfl, wk⟩ := DataW.trod_int Try.underlying5 hy
    exact ⟨k, k, e0, ⟨rfl, wf8 wk⟩, by simp [Rows.uptoBulk]⟩) h
  refine ⟨s, l, hcs, hr, hk, fun a ha => ?_, ?_⟩
  · obtain ⟨i, hi⟩ := List.mem_iff_getElem?.1 ha
    have hil : i < l.length := (List.getElem?_eq_some_iff.1 hi).1
    exact (hR i a _ hi (List.getElem?_eq_getElem (by omega))).2
  · rw [sumC, hlen] at hs; omega
theorem open_looks {fuel : Nat} {cs : List Value} {x : DataW H × List MemPlace} (h : DataW.trod enc Try.prog w base (fun _ => true) held fuel 23 cs = some x) :
    ∃ (s : Sl) (l : List (Int × Int)), cs = [(LV.sl s).toV] ∧ RdS w ELk s l ∧ (∀ b, rk s b → b < w.heap.size) ∧ (∀ a ∈ l, a.1 ≤ 9223372036854775807) ∧ l.length + 1 ≤ Rows.uptoBulk x.1 := by
  obtain ⟨s, l, bs, hcs, hr, hk, hlen, hR, hs⟩ := open_slice ELk (fun a b => a = b ∧ a.1 ≤ 9223372036854775807) (fun _ => 1) Try.underlying23 cellsOf33 (fun n cs y hy => by
    obtain ⟨y0, y1, m, rfl, hl, h0, h1⟩ := trod_struct2 Try.underlying33 hy
    obtain ⟨k, e0, rfl, wk⟩ := DataW.trod_int Try.underlying2 h0
    obtain ⟨j, e1, rfl, wj⟩ := DataW.trod_int Try.underlying3 h1
    rw [cellsOf2] at e0
    rw [cellsOf3] at e1
    rw [cellsOf33] at hl
    exact ⟨(k, j), (k, j), two_cells hl e0 e1, ⟨rfl, (wf64 wk).2⟩, by simp [Rows.uptoBulk, Rows.uptoBulkAll]⟩) h
  refine ⟨s, l, hcs, hr, hk, fun a ha => ?_, ?_⟩
  · obtain ⟨i, hi⟩ := List.mem_iff_getElem?.1 ha
    have hil : i < l.length := (List.getElem?_eq_some_iff.1 hi).1
    exact (hR i a _ hi (List.getElem?_eq_getElem (by omega))).2
  · rw [sumC, hlen] at hs; omega
end
end Go.Proofs.Ytjldecomhpngmaa
