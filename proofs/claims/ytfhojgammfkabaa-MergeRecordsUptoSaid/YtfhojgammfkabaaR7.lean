/- Opening: lists of lists of records. -/
import Derived.Test.YtfhojgammfkabaaR6
import Derived.Test.YtfhojgammfkabaaCG
namespace Go.Proofs.Ytfhojgammfkabaa.Rc
open Go.ChangeShapes Go.WideShapes Go.ChangeAt Go.RowKit Go.Vw

theorem cellsOf91 : Try.prog.cellsOf 91 = 3 := by kernel_rfl
theorem cellsOf89 : Try.prog.cellsOf 89 = 1 := by kernel_rfl
def gRec (x : Thing) : Nat := 4 + x.2.1.length + x.2.2.length
def gRecs (L : List Thing) : Nat := sumF gRec L + 1
theorem three_cells {cs : List Value} {u v x : Value} (h : cs.length = 3) (h0 : (cs.drop 0).take 1 = [u]) (h1 : (cs.drop 1).take 1 = [v]) (h2 : (cs.drop 2).take 1 = [x]) : cs = [u, v, x] := by
  match cs, h with
  | [a, b, c], _ => simp at h0 h1 h2; rw [h0, h1, h2]
theorem open_rec {H : Type} {enc : TypeId × Value → H} {w : World} {base : Nat} {held : Bool} {n : Nat} {cs : List Value} {y : DataW H × List MemPlace} (h : DataW.trod enc Try.prog w base (fun _ => true) held n 91 cs = some y) : ∃ (a b : Thing), cs = ET.f a ∧ a = b ∧ gRec b ≤ Rows.uptoBulk y.1 := by
  obtain ⟨ys, m, _, rfl, hl, hlen, hf⟩ := DataW.trod_struct Try.underlying91 h
  match ys, hlen with
  | [y0, y1, y2], _ =>
    have h0 : DataW.trod enc Try.prog w base (fun _ => true) held m 3 ((cs.drop 0).take (Try.prog.cellsOf 3)) = some y0 := by simpa using hf 0 { name := "Part", type := 3, offset := 0, embedded := false, tag := "", pkgPath := "", byteOffset := 0 } rfl
    have h1 : DataW.trod enc Try.prog w base (fun _ => true) held m 9 ((cs.drop 1).take (Try.prog.cellsOf 9)) = some y1 := by simpa using hf 1 { name := "Key", type := 9, offset := 1, embedded := false, tag := "", pkgPath := "", byteOffset := 8 } rfl
    have h2 : DataW.trod enc Try.prog w base (fun _ => true) held m 9 ((cs.drop 2).take (Try.prog.cellsOf 9)) = some y2 := by simpa using hf 2 { name := "Value", type := 9, offset := 2, embedded := false, tag := "", pkgPath := "", byteOffset := 24 } rfl
    obtain ⟨k, e0, rfl, wk⟩ := DataW.trod_int Try.underlying3 h0
    obtain ⟨s, e1, rfl, _⟩ := DataW.trod_string Try.underlying9 h1
    obtain ⟨t, e2, rfl, _⟩ := DataW.trod_string Try.underlying9 h2
    rw [cellsOf3] at e0
    rw [cellsOf9] at e1 e2
    rw [cellsOf91] at hl
    rw [str_toV] at e1 e2
    refine ⟨(k, s.data.toList, t.data.toList), _, three_cells hl e0 e1 e2, rfl, ?_⟩
    simp only [gRec, List.map_cons, List.map_nil, Rows.uptoBulk, Rows.uptoBulkAll]
    omega
theorem open_recs {H : Type} {enc : TypeId × Value → H} {w : World} {base : Nat} {held : Bool} {fuel : Nat} {cs : List Value} {x : DataW H × List MemPlace} (h : DataW.trod enc Try.prog w base (fun _ => true) held fuel 89 cs = some x) :
    ∃ (a : Sl) (L : List Thing), cs = ESl.f a ∧ RdS w ET a L ∧ gRecs L ≤ Rows.uptoBulk x.1 := by
  obtain ⟨s, l, bs, hcs, hr, hk, hlen, hR, hs⟩ := open_slice ET (fun a b => a = b) gRec Try.underlying89 cellsOf91 (fun n cs y hy => open_rec hy) h
  have e : bs = l := by
    refine List.ext_getElem? fun i => ?_
    by_cases hi : i < l.length
    · have h1 := List.getElem?_eq_getElem hi
      have h2 := List.getElem?_eq_getElem (show i < bs.length by omega)
      rw [h1, h2]
      exact congrArg some (hR i _ _ h1 h2).symm
    · rw [List.getElem?_eq_none (by omega), List.getElem?_eq_none (by omega)]
  subst e
  exact ⟨s, bs, hcs, hr, hs⟩
theorem open_lists {H : Type} {enc : TypeId × Value → H} {w : World} {base : Nat} {held : Bool} {fuel : Nat} {cs : List Value} {x : DataW H × List MemPlace} (h : DataW.trod enc Try.prog w base (fun _ => true) held fuel 88 cs = some x) :
    ∃ (s : Sl) (xs : List Sl) (Ls : List (List Thing)), cs = [(LV.sl s).toV] ∧ LsAt w s xs Ls ∧ sumF gRecs Ls + 1 ≤ Rows.uptoBulk x.1 := by
  obtain ⟨s, l, bs, hcs, hr, hk, hlen, hR, hs⟩ := open_slice ESl (fun a L => RdS w ET a L) gRecs Try.underlying88 cellsOf89 (fun n cs y hy => open_recs hy) h
  exact ⟨s, l, bs, hcs, ⟨hr, hlen, hR⟩, hs⟩
theorem sumF_mem {β : Type} {g : β → Nat} {b : β} : ∀ {l : List β}, b ∈ l → g b ≤ sumF g l
  | c :: r, h => by
    simp only [sumF]
    rcases List.mem_cons.1 h with e | h
    · rw [e]; omega
    · have := sumF_mem (g := g) h; omega
theorem lists_bounds {Ls : List (List Thing)} {N : Nat} (h : sumF gRecs Ls ≤ N) : Ls.length ≤ N ∧ Ls.flatten.length ≤ N ∧ ∀ L ∈ Ls, ∀ x ∈ L, x.2.1.length ≤ N ∧ x.2.2.length ≤ N := by
  have h1 : ∀ L : List Thing, L.length ≤ sumF gRec L := by
    intro L
    induction L with
    | nil => exact Nat.le_refl _
    | cons x r ih => simp only [sumF, List.length_cons, gRec]; omega
  have h2 : ∀ Ls : List (List Thing), Ls.length ≤ sumF gRecs Ls ∧ Ls.flatten.length ≤ sumF gRecs Ls := by
    intro Ls
    induction Ls with
    | nil => exact ⟨Nat.le_refl _, Nat.le_refl _⟩
    | cons L r ih =>
      have := h1 L
      simp only [sumF, List.length_cons, List.flatten_cons, List.length_append, gRecs]
      exact ⟨by omega, by omega⟩
  refine ⟨Nat.le_trans (h2 Ls).1 h, Nat.le_trans (h2 Ls).2 h, fun L hL x hx => ?_⟩
  have a1 : sumF gRec L + 1 ≤ sumF gRecs Ls := sumF_mem (g := gRecs) hL
  have a2 : 4 + x.2.1.length + x.2.2.length ≤ sumF gRec L := sumF_mem (g := gRec) hx
  exact ⟨by omega, by omega⟩
end Go.Proofs.Ytfhojgammfkabaa.Rc
