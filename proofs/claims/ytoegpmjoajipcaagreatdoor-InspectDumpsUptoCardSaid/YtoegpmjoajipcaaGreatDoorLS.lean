/- Opening: a slice among the arguments, of which nothing is read; texts. (names no type of a program) -/
import Derived.Test.YtoegpmjoajipcaaGreatDoorLR
import Derived.ChangeMaps5
namespace Go.Proofs.YtoegpmjoajipcaaGreatDoor
open Go.ChangeShapes Go.WideShapes Go.ChangeAt Go.RowKit Go.Vw

theorem str_toV (s : ByteArray) : Value.string s = (LV.str s.data.toList).toV := by
  cases s; simp [LV.toV]
theorem open_sl {H : Type} {enc : TypeId × Value → H} {P : Program} {w : World} {base : Nat} {held : Bool} {t e : TypeId} {fuel : Nat} {cs : List Value} {x : DataW H × List MemPlace} (ht : P.underlying t = some (.slice e)) (hc : 0 < P.cellsOf e)
    (h : DataW.trod enc P w base (fun _ => true) held fuel t cs = some x) : ∃ s : Sl, cs = [(LV.sl s).toV] := by
  rcases DataW.trod_slice ht h with ⟨rfl, rfl⟩ | ⟨a, len, cap, elems, rest, n, _, rfl, rfl, hb, hl, hm, hlen, hel2, hsp, _⟩
  · exact ⟨⟨none, 0, 0⟩, rfl⟩
  obtain ⟨hrl, hr⟩ := hsp rfl
  have hspot : cap ≠ 0 → a.spot = none := by
    intro h0
    by_cases hl0 : len = 0
    · have := hr 0 (by omega)
      rw [List.getElem?_eq_getElem (by omega), Option.bind_eq_some_iff] at this
      obtain ⟨cs', h1, _⟩ := this
      exact (cells_spot (a := a) hc (by rw [hl0] at h1; simpa [Addr.add] using h1)).1
    · have := hel2 0 (by omega)
      rw [List.getElem?_eq_getElem (by omega), Option.bind_eq_some_iff] at this
      obtain ⟨cs', h1, _⟩ := this
      exact (cells_spot (a := a) hc (by simpa [Addr.add] using h1)).1
  obtain ⟨o, ho, _⟩ := slA_of a (c := cap) hspot
  exact ⟨⟨some (a.block, o), len, cap⟩, by simp [LV.toV, ho]⟩
end Go.Proofs.YtoegpmjoajipcaaGreatDoor
