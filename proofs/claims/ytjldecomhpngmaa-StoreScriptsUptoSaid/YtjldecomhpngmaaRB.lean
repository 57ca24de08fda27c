/- Opening: bytes, looks. -/
import Derived.Test.YtjldecomhpngmaaLR
import Derived.Test.YtjldecomhpngmaaVA
namespace Go.Proofs.Ytjldecomhpngmaa
open Go.ChangeShapes Go.WideShapes Go.ChangeAt Go.RowKit Go.Vw

theorem cellsOf2 : Try.prog.cellsOf 2 = 1 := by kernel_rfl
theorem cellsOf3 : Try.prog.cellsOf 3 = 1 := by kernel_rfl
theorem cellsOf5 : Try.prog.cellsOf 5 = 1 := by kernel_rfl
theorem cellsOf9 : Try.prog.cellsOf 9 = 1 := by kernel_rfl
theorem cellsOf22 : Try.prog.cellsOf 22 = 1 := by kernel_rfl
theorem cellsOf40 : Try.prog.cellsOf 40 = 1 := by kernel_rfl
theorem cellsOf62 : Try.prog.cellsOf 62 = 6 := by kernel_rfl
theorem str_toV (s : ByteArray) : Value.string s = (LV.str s.data.toList).toV := by
  cases s; simp [LV.toV]
theorem cellsOf33 : Try.prog.cellsOf 33 = 2 := by kernel_rfl
theorem wf64 {k : Int} (h : (Lit.int .i64 k).wf = true) : -9223372036854775808 ≤ k ∧ k ≤ 9223372036854775807 := by
  simp [Lit.wf, IntKind.min, IntKind.max, IntKind.bits, IntKind.signed] at h; omega
theorem wf8 {k : Int} (h : (Lit.int .u8 k).wf = true) : 0 ≤ k ∧ k < 256 := by
  simp [Lit.wf, IntKind.min, IntKind.max, IntKind.bits, IntKind.signed] at h; omega
theorem wf32 {k : Int} (h : (Lit.int .u32 k).wf = true) : 0 ≤ k ∧ k < 4294967296 := by
  simp [Lit.wf, IntKind.min, IntKind.max, IntKind.bits, IntKind.signed] at h; omega
theorem sumC {β : Type} (n : Nat) : ∀ bs : List β, sumF (fun _ => n) bs = n * bs.length
  | [] => rfl
  | x :: r => by simp only [sumF, sumC n r, List.length_cons, Nat.mul_add]; omega
section
variable {H : Type} {enc : TypeId × Value → H} {w : World} {base : Nat} {held : Bool}
theorem open_bytes {fuel : Nat} {cs : List Value} {x : DataW H × List MemPlace} (h : DataW.trod enc Try.prog w base (fun _ => true) held fuel 22 cs = some x) :
    ∃ (s : Sl) (l : List Int), cs = [(LV.sl s).toV] ∧ RdS w EU s l ∧ (∀ b, rk s b → b < w.heap.size) ∧ (∀ a ∈ l, 0 ≤ a ∧ a < 256) ∧ l.length + 1 ≤ Rows.uptoBulk x.1 := by
  obtain ⟨s, l, bs, hcs, hr, hk, hlen, hR, hs⟩ := open_slice EU (fun a b => a = b ∧ (0 ≤ a ∧ a < 256)) (fun _ => 1) Try.underlying22 cellsOf5 (fun n cs y hy => by
    obtain ⟨k, e0, rfl, wk⟩ := DataW.trod_int Try.underlying5 hy
    exact ⟨k, k, e0, ⟨rfl, wf8 wk⟩, by simp [Rows.uptoBulk]⟩) h
  refine ⟨s, l, hcs, hr, hk, fun a ha => ?_, ?_⟩
  · obtain ⟨i, hi⟩ := List.mem_iff_getElem?.1 ha
    have hil : i < l.length := (List.getElem?_eq_some_iff.1 hi).1
    exact (hR i a _ hi (List.getElem?_eq_getElem (by omega))).2
  · rw [sumC, hlen] at hs; omega
theorem open_looks {fuel : Nat} {cs : List Value} {x : DataW H × List MemPlace} (h : DataW.trod enc Try.prog w base (fun _ => true) held fuel 23 cs = some x) :
    ∃ (s : Sl) (l : List (Int × Int)), cs = [(LV.sl s).toV] ∧ RdS w ELk s l ∧ (∀ b, rk s b → b < w.heap.size) ∧ (∀ a ∈ l, a.1 ≤ 9223372036854775807) ∧ l.length + 1 ≤ Rows.uptoBulk x.1 := by
  obtain ⟨s, l, bs, hcs, hr, hk, hlen, hR, hs⟩ := open_slice ELk (fun a b => a = b ∧ a.1 ≤ 9223372036854775807) (fun _ => 1) Try.underlying23 cellsOf33 (fun n cs y hy => by
    obtain ⟨y0, y1, m, rfl, hl, h0, h1⟩ := trod_struct2 Try.underlying33 hy
    obtain ⟨k, e0, rfl, wk⟩ := DataW.trod_int Try.underlying2 h0
    obtain ⟨j, e1, rfl, wj⟩ := DataW.trod_int Try.underlying3 h1
    rw [cellsOf2] at e0
    rw [cellsOf3] at e1
    rw [cellsOf33] at hl
    exact ⟨(k, j), (k, j), two_cells hl e0 e1, ⟨rfl, (wf64 wk).2⟩, by simp [Rows.uptoBulk, Rows.uptoBulkAll]⟩) h
  refine ⟨s, l, hcs, hr, hk, fun a ha => ?_, ?_⟩
  · obtain ⟨i, hi⟩ := List.mem_iff_getElem?.1 ha
    have hil : i < l.length := (List.getElem?_eq_some_iff.1 hi).1
    exact (hR i a _ hi (List.getElem?_eq_getElem (by omega))).2
  · rw [sumC, hlen] at hs; omega
set_option maxRecDepth 100000 in
theorem open_step {fuel : Nat} {cs : List Value} {x : DataW H × List MemPlace} (h : DataW.trod enc Try.prog w base (fun _ => true) held fuel 62 cs = some x) :
    ∃ (op : Int) (n : List UInt8) (N j : Int) (s : Sl) (mask : Int) (d : List Int), cs = [LV.toV (.int .i64 op), LV.toV (.str n), LV.toV (.int .i64 N), LV.toV (.int .i64 j), LV.toV (.sl s), LV.toV (.int .u32 mask)] ∧ RdS w EU s d ∧ (∀ b, rk s b → b < w.heap.size) ∧ (∀ a ∈ d, 0 ≤ a ∧ a < 256) ∧ N ≤ 9223372036854775807 ∧ (0 ≤ mask ∧ mask < 4294967296) ∧ d.length + n.length + 1 ≤ Rows.uptoBulk x.1 := by
  obtain ⟨xs, n, _, rfl, hl, hlen, hf⟩ := DataW.trod_struct Try.underlying62 h
  match xs, hlen with
  | [x0, x1, x2, x3, x4, x5], _ =>
  have h0 : DataW.trod enc Try.prog w base (fun _ => true) held n 3 ((cs.drop 0).take (Try.prog.cellsOf 3)) = some x0 := hf 0 _ rfl
  have h1 : DataW.trod enc Try.prog w base (fun _ => true) held n 9 ((cs.drop 1).take (Try.prog.cellsOf 9)) = some x1 := hf 1 _ rfl
  have h2 : DataW.trod enc Try.prog w base (fun _ => true) held n 2 ((cs.drop 2).take (Try.prog.cellsOf 2)) = some x2 := hf 2 _ rfl
  have h3 : DataW.trod enc Try.prog w base (fun _ => true) held n 3 ((cs.drop 3).take (Try.prog.cellsOf 3)) = some x3 := hf 3 _ rfl
  have h4 : DataW.trod enc Try.prog w base (fun _ => true) held n 22 ((cs.drop 4).take (Try.prog.cellsOf 22)) = some x4 := hf 4 _ rfl
  have h5 : DataW.trod enc Try.prog w base (fun _ => true) held n 40 ((cs.drop 5).take (Try.prog.cellsOf 40)) = some x5 := hf 5 _ rfl
  clear hf
  rw [cellsOf3] at h0 h3
  rw [cellsOf9] at h1
  rw [cellsOf2] at h2
  rw [cellsOf22] at h4
  rw [cellsOf40] at h5
  rw [cellsOf62] at hl
  match cs, hl with
  | [c0, c1, c2, c3, c4, c5], _ =>
  obtain ⟨k0, e0, g0, w0⟩ := DataW.trod_int Try.underlying3 h0
  obtain ⟨k1, e1, g1, _⟩ := DataW.trod_string Try.underlying9 h1
  obtain ⟨k2, e2, g2, w2⟩ := DataW.trod_int Try.underlying2 h2
  obtain ⟨k3, e3, g3, w3⟩ := DataW.trod_int Try.underlying3 h3
  obtain ⟨s, d, e4, hr, hlt, hby, hb⟩ := open_bytes h4
  obtain ⟨k5, e5, g5, w5⟩ := DataW.trod_int Try.underlying40 h5
  rw [str_toV] at e1
  simp at e0 e1 e2 e3 e4 e5
  subst e0 e1 e2 e3 e4 e5
  refine ⟨k0, k1.data.toList, k2, k3, s, k5, d, rfl, hr, hlt, hby, (wf64 w2).2, wf32 w5, ?_⟩
  subst g1
  simp only [List.map_cons, Rows.uptoBulk, Rows.uptoBulkAll]
  omega
end
end Go.Proofs.Ytjldecomhpngmaa
