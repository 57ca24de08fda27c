/- Opening: texts. -/
import Derived.Test.YtjldecomhpngmaaDoorLR
import Derived.Test.YtjldecomhpngmaaDoorDH
import Derived.ChangeMaps5
namespace Go.Proofs.YtjldecomhpngmaaDoor
open Go.ChangeShapes Go.WideShapes Go.ChangeAt Go.RowKit Go.Vw

theorem cellsOf9 : Tryd.prog.cellsOf 9 = 1 := by kernel_rfl
theorem str_toV (s : ByteArray) : Value.string s = (LV.str s.data.toList).toV := by
  cases s; simp [LV.toV]
theorem sum_strs : ∀ l : List Str, sumF (fun x : Str => x.length + 1) l = l.flatten.length + l.length
  | [] => rfl
  | x :: r => by simp only [sumF, sum_strs r, List.flatten_cons, List.length_append, List.length_cons]; omega
section
variable {H : Type} {enc : TypeId × Value → H} {w : World} {base : Nat} {held : Bool}
theorem open_texts {fuel : Nat} {cs : List Value} {x : DataW H × List MemPlace} (h : DataW.trod enc Tryd.prog w base (fun _ => true) held fuel 22 cs = some x) :
    ∃ (s : Sl) (l : List Str), cs = [(LV.sl s).toV] ∧ RdS w EStr s l ∧ l.flatten.length + l.length + 1 ≤ Rows.uptoBulk x.1 := by
  obtain ⟨s, l, bs, hcs, hr, _, hlen, hR, hs⟩ := open_slice EStr (fun a b : Str => a = b) (fun x : Str => x.length + 1) Tryd.underlying22 cellsOf9 (fun n cs y hy => by
    obtain ⟨k, e0, g0, _⟩ := DataW.trod_string Tryd.underlying9 hy
    refine ⟨k.data.toList, k.data.toList, by rw [e0, str_toV]; rfl, rfl, ?_⟩
    rw [g0]; simp [Rows.uptoBulk]) h
  have e : bs = l := by
    apply List.ext_getElem?
    intro i
    by_cases hi : i < l.length
    · have h1 : l[i]? = some l[i] := List.getElem?_eq_getElem hi
      have h2 : bs[i]? = some (bs[i]'(by omega)) := List.getElem?_eq_getElem (by omega)
      have := hR i _ _ h1 h2
      rw [h1, h2, this]
    · rw [List.getElem?_eq_none (by omega), List.getElem?_eq_none (by omega)]
  rw [e, sum_strs] at hs
  exact ⟨s, l, hcs, hr, hs⟩
end
end Go.Proofs.YtjldecomhpngmaaDoor
