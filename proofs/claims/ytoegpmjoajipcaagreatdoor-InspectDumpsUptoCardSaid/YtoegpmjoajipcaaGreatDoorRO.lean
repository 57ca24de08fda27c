/- Opening: bytes. -/
import Derived.Test.YtoegpmjoajipcaaGreatDoorLR
import Derived.Test.YtoegpmjoajipcaaGreatDoorLS
import Derived.Test.YtoegpmjoajipcaaGreatDoorT14
namespace Go.Proofs.YtoegpmjoajipcaaGreatDoor
open Go.ChangeShapes Go.WideShapes Go.ChangeAt Go.RowKit Go.Vw

theorem cellsOf5 : Tryz.prog.cellsOf 5 = 1 := by kernel_rfl
theorem wf8 {k : Int} (h : (Lit.int .u8 k).wf = true) : 0 ≤ k ∧ k < 256 := by
  simp [Lit.wf, IntKind.min, IntKind.max, IntKind.bits, IntKind.signed] at h; omega
theorem sumC {β : Type} (n : Nat) : ∀ bs : List β, sumF (fun _ => n) bs = n * bs.length
  | [] => rfl
  | x :: r => by simp only [sumF, sumC n r, List.length_cons, Nat.mul_add]; omega
section
variable {H : Type} {enc : TypeId × Value → H} {w : World} {base : Nat} {held : Bool}
theorem open_bytes {fuel : Nat} {cs : List Value} {x : DataW H × List MemPlace} (h : DataW.trod enc Tryz.prog w base (fun _ => true) held fuel 22 cs = some x) :
    ∃ (s : Sl) (l : Str), cs = [(LV.sl s).toV] ∧ RdS w ET s l ∧ l.length + 1 ≤ Rows.uptoBulk x.1 := by
  obtain ⟨s, l, bs, hcs, hr, hk, hlen, hR, hs⟩ := open_slice ET (fun _ (_ : UInt8) => True) (fun _ => 1) Tryz.underlying22 cellsOf5 (fun n cs y hy => by
    obtain ⟨k, e0, rfl, wk⟩ := DataW.trod_int Tryz.underlying5 hy
    have := wf8 wk
    refine ⟨UInt8.ofNat k.toNat, 0, ?_, trivial, by simp [Rows.uptoBulk]⟩
    rw [e0]
    show _ = [Value.int .u8 ((UInt8.ofNat k.toNat).toNat : Int)]
    rw [u8_ofNat (by omega)]
    have : ((k.toNat : Nat) : Int) = k := by omega
    rw [this]) h
  refine ⟨s, l, hcs, hr, ?_⟩
  rw [sumC, hlen] at hs; omega
end
end Go.Proofs.YtoegpmjoajipcaaGreatDoor
