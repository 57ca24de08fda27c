/- Bytes that grow by strings. -/
import Derived.Test.YtjldecomhpngmaaDoorDC
import Derived.Lib.AppendStr
import Derived.Lib.SlBytesRow
namespace Go.Proofs.YtjldecomhpngmaaDoor
open Go.Vw

def ET : Enc UInt8 := ⟨1, fun x => [.int .u8 (x.toNat : Int)], fun _ => rfl, by decide, fun x v h => by simp at h; subst h; rfl⟩
theorem et_cells : ∀ t : Str, ET.cells t = t.map fun x => Value.int .u8 (x.toNat : Int)
  | [] => rfl
  | x :: t => by simp [Enc.cells, et_cells t]; rfl
theorem strCells_et (t : Str) : Go.Lib.strCells ⟨t.toArray⟩ = ET.cells t := by
  rw [et_cells]; simp [Go.Lib.strCells]
theorem info5 : ∃ i, Tryd.prog.info? 5 = some i ∧ i.zero = some (.int .u8 0) ∧ i.bytes = 1 ∧ i.size = 1 := by
  refine ⟨_, rfl, ?_, ?_, ?_⟩ <;> kernel_rfl
/-- a text of one's own -/
def Own (w u : World) (s : Sl) (t : Str) : Prop := u.ownsRow w.heap.size 5 1 (LV.sl s).toV t.length (ET.cells t)
theorem app_str {w u : World} {s : Sl} {t : Str} (ho : Own w u s t) (hM : Mod F0 w u) {x : Str} (hb : t.length + x.length ≤ 1099511627776) {K : Sl → World → Prop} (hK : ∀ s' u', Own w u' s' (t ++ x) → Mod F0 w u' → K s' u') :
    opF Tryd.prog (builtin .append #[36, 9] 36 #[false, false] #[(LV.toV (.sl s)), (LV.toV (.str x))]) u (.one (.leaf .sl)) K := by
  obtain ⟨i, hi, hz, hby, hsz⟩ := info5
  have hx : (⟨x.toArray⟩ : ByteArray).size = x.length := by simp [ByteArray.size]
  obtain ⟨v', w', hrun, hown, hgr, _⟩ := Go.Lib.run_append_own_string (P := Tryd.prog) (w := u) w.heap.size 36 9 36 5 i Tryd.underlying36 Tryd.underlying9 hi hz hsz hby (LV.sl s).toV t.length (ET.cells t) ho ⟨x.toArray⟩ (by rw [hx]; unfold maxLen; omega) (by rw [hx]; omega) hM.size
  rw [hx, strCells_et, ← Enc.cells_append] at hown
  have hv : ∃ s' : Sl, v' = (LV.sl s').toV := by
    rcases hown.2 with ⟨e, _⟩ | ⟨g, cap, cur, e, _⟩
    · exact ⟨⟨none, 0, 0⟩, e⟩
    · refine ⟨⟨some (g, 0), t.length + x.length, cap⟩, ?_⟩
      rw [e]
      show _ = Value.slice (some (if cap = 0 then decA g 0 else ⟨g, 0, none⟩)) _ _
      split <;> rfl
  obtain ⟨s', rfl⟩ := hv
  refine ⟨[.sl s'], w', ?_, hK s' w' (by unfold Own; rw [List.length_append]; exact hown) ?_⟩
  · show (Sem.run _ (vS (Builtin.append_ #[36, 9] 36 #[(LV.toV (.sl s)), (LV.toV (.str x))])) u) = _
    unfold vS
    simp only [Sem.run_bind]
    have hrun : (Builtin.append_ #[36, 9] 36 #[(LV.toV (.sl s)), (LV.toV (.str x))]).run Tryd.prog u = .ok (LV.sl s').toV w' := hrun
    rw [hrun]
    rfl
  · refine ⟨hgr.os.trans hM.os, hgr.tape.trans hM.tape, hgr.output.trans hM.output, Nat.le_trans hM.size hgr.size, fun k hk _ => ?_⟩
    rw [hgr.block k (Nat.lt_of_lt_of_le hk hM.size) ?_]
    · exact hM.block k hk id
    · rcases ho.2 with ⟨e, _⟩ | ⟨g, cap, cur, e, hge, _⟩
      · rw [e]; intro h; cases h
      · rw [e]; intro h
        have : k = g := Option.some.inj h
        omega
theorem own_nil (w : World) : Own w w ⟨none, 0, 0⟩ [] := ⟨rfl, .inl ⟨rfl, rfl⟩⟩
/-- known from now on -/
theorem own_at {w0 w u : World} {D : Nat → Prop} {m : BL} (hA : At w0 D m w) {s : Sl} {t : Str} (ho : Own w u s t) (hM : Mod F0 w u) : ∃ tb, At w0 D (m ++ tb) u ∧ VecL tb ET s t := by
  rcases ho.2 with ⟨e, hn⟩ | ⟨g, cap, cur, e, hge, hh, h1, h2, h3, h4⟩
  · have ht : t = [] := List.eq_nil_of_length_eq_zero hn
    obtain ⟨p, len, c⟩ := s
    simp only [LV.toV, Value.slice.injEq] at e
    obtain ⟨e1, e2, e3⟩ := e
    cases p with
    | some a => cases e1
    | none => exact ⟨[], by rw [List.append_nil]; exact hA.keep0 hM fun _ => id, by subst ht; exact ⟨e2, by show len ≤ c; omega, .inl ⟨rfl, rfl, e3⟩⟩⟩
  · have hb : Blk u g cur.toList := ⟨5, by rw [Array.toArray_toList]; exact hh⟩
    refine ⟨[(g, cur.toList)], hA.mkAdd hM hb hge, ?_⟩
    obtain ⟨p, len, c⟩ := s
    simp only [LV.toV, Value.slice.injEq] at e
    obtain ⟨e1, e2, e3⟩ := e
    have hE : ET.n = 1 := rfl
    have hcl : cur.toList.length = cap := by rw [Array.length_toList, h3]; omega
    refine ⟨e2, by show len ≤ c; omega, ?_⟩
    refine .inr ⟨g, cur.toList.drop (t.length * 1), by rw [← h4, List.take_append_drop], ?_, by rw [← h4, List.take_append_drop, hcl]; show c * 1 ≤ cap; omega⟩
    cases p with
    | none => cases e1
    | some a =>
      obtain ⟨a1, a2⟩ := a
      have e1 := Option.some.inj e1
      show some (a1, a2) = some (g, 0)
      by_cases hc0 : c = 0
      · rw [if_pos hc0] at e1
        unfold decA at e1
        by_cases ha : a2 % 2 = 0
        · rw [if_pos ha] at e1
          simp only [Addr.mk.injEq] at e1
          obtain ⟨rfl, h, _⟩ := e1
          have : a2 = 0 := by omega
          rw [this]
        · rw [if_neg ha] at e1
          simp only [Addr.mk.injEq] at e1
          cases e1.2.2
      · rw [if_neg hc0] at e1
        simp only [Addr.mk.injEq] at e1
        rw [e1.1, e1.2.1]
end Go.Proofs.YtjldecomhpngmaaDoor
