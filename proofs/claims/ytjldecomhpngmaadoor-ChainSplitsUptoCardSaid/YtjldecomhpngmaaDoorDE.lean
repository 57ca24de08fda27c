/- The plain splits: line by line, and by the last line that has room, are one. (no program) -/
import Derived.Test.YtjldecomhpngmaaDoorDL
import Derived.Lib.Bytealg
namespace Go.Proofs.YtjldecomhpngmaaDoor
open Go.Vw

def lineLen : Str → Nat
  | [] => 0
  | c :: t => if c == 10 then 1 else lineLen t + 1
theorem lineLen_le : ∀ t : Str, lineLen t ≤ t.length
  | [] => Nat.le_refl _
  | c :: t => by
    have := lineLen_le t
    unfold lineLen
    rw [List.length_cons]
    split <;> omega
theorem lineLen_pos : ∀ {t : Str}, t ≠ [] → 1 ≤ lineLen t
  | [], h => absurd rfl h
  | c :: t, _ => by unfold lineLen; split <;> omega
theorem line_index : ∀ t : Str, (0 ≤ Go.Lib.indexByte t 10 → (lineLen t : Int) = Go.Lib.indexByte t 10 + 1) ∧ (¬ 0 ≤ Go.Lib.indexByte t 10 → lineLen t = t.length)
  | [] => by simp [Go.Lib.indexByte, lineLen]
  | c :: t => by
    have ih := line_index t
    have hge := Go.Lib.indexByte_ge t 10
    unfold Go.Lib.indexByte lineLen
    by_cases hc : (c == 10) = true
    · rw [if_pos hc, if_pos hc]; simp
    · rw [if_neg hc, if_neg hc]
      by_cases hi : (Go.Lib.indexByte t 10 == -1) = true
      · rw [if_pos hi]
        have hi' : Go.Lib.indexByte t 10 = -1 := by simpa using hi
        have := ih.2 (by omega)
        refine ⟨fun h => absurd h (by decide), fun _ => by rw [this]; simp⟩
      · rw [if_neg hi]
        have hi' : Go.Lib.indexByte t 10 ≠ -1 := by simpa using hi
        have := ih.1 (by omega)
        refine ⟨fun _ => by rw [← this]; push_cast; rfl, fun h => absurd h (by omega)⟩
/-- the end of the line that begins here -/
def nx (T : Str) (p : Nat) : Nat := p + lineLen (T.drop p)
theorem nx_gt {T : Str} {p : Nat} (h : p < T.length) : p < nx T p := by
  have := lineLen_pos (t := T.drop p) (by intro e; have := congrArg List.length e; simp at this; omega)
  unfold nx; omega
theorem nx_le {T : Str} {p : Nat} (h : p ≤ T.length) : nx T p ≤ T.length := by
  have := lineLen_le (T.drop p)
  rw [List.length_drop] at this
  unfold nx; omega
/-- line by line -/
def prS (T : Str) (fr to : Nat) : Option (List (Nat × Nat)) :=
  if h : to < T.length then
    if 65536 < nx T to - to then none
    else if 65536 < nx T to - fr then (prS T to (nx T to)).map ((fr, to) :: ·)
    else prS T fr (nx T to)
  else some (if fr < to then [(fr, to)] else [])
termination_by T.length - to
decreasing_by
  all_goals (have := nx_gt h; omega)
/-- behind the last line that has room -/
def inR (T : Str) (fr e : Nat) : Nat :=
  if h : e < T.length ∧ ¬ 65536 < nx T e - fr then inR T fr (nx T e) else e
termination_by T.length - e
decreasing_by
  have := nx_gt h.1; omega
theorem inR_ge (T : Str) (fr e : Nat) : e ≤ inR T fr e := by
  unfold inR
  split
  · rename_i h
    have := nx_gt h.1
    have := inR_ge T fr (nx T e)
    omega
  · exact Nat.le_refl _
termination_by T.length - e
decreasing_by
  omega
theorem inR_le (T : Str) (fr e : Nat) (he : e ≤ T.length) : inR T fr e ≤ T.length := by
  unfold inR
  split
  · rename_i h
    have := nx_gt h.1
    exact inR_le T fr (nx T e) (nx_le he)
  · exact he
termination_by T.length - e
decreasing_by
  omega
def rfS (T : Str) (fr : Nat) : Option (List (Nat × Nat)) :=
  if h : fr < T.length then
    if h2 : inR T fr fr = fr then none else (rfS T (inR T fr fr)).map ((fr, inR T fr fr) :: ·)
  else some []
termination_by T.length - fr
decreasing_by
  have := inR_ge T fr fr; omega
theorem pr_in (T : Str) (fr to : Nat) (h1 : fr < to) (h2 : to ≤ T.length) : prS T fr to = (prS T (inR T fr to) (inR T fr to)).map ((fr, inR T fr to) :: ·) := by
  by_cases h : to < T.length
  · by_cases hb : 65536 < nx T to - fr
    · have e : inR T fr to = to := by unfold inR; rw [dif_neg (fun x => x.2 hb)]
      rw [e]
      conv => lhs; unfold prS
      conv => rhs; unfold prS
      rw [dif_pos h, dif_pos h]
      by_cases hc : 65536 < nx T to - to
      · rw [if_pos hc, if_pos hc]; rfl
      · rw [if_neg hc, if_neg hc, if_pos hb, if_neg hc]
    · have e : inR T fr to = inR T fr (nx T to) := by conv => lhs; unfold inR
                                                      rw [dif_pos ⟨h, hb⟩]
      have hg := nx_gt h
      rw [e]
      conv => lhs; unfold prS
      rw [dif_pos h, if_neg (by omega), if_neg hb]
      exact pr_in T fr (nx T to) (by omega) (nx_le h2)
  · have e : inR T fr to = to := by unfold inR; rw [dif_neg (fun x => h x.1)]
    rw [e]
    conv => lhs; unfold prS
    conv => rhs; unfold prS
    rw [dif_neg h, dif_neg h, if_pos h1, if_neg (Nat.lt_irrefl _)]
    rfl
termination_by T.length - to
decreasing_by
  omega
theorem pr_rf (T : Str) (fr : Nat) (hf : fr ≤ T.length) : prS T fr fr = rfS T fr := by
  by_cases h : fr < T.length
  · unfold rfS
    rw [dif_pos h]
    by_cases hb : 65536 < nx T fr - fr
    · have e : inR T fr fr = fr := by unfold inR; rw [dif_neg (fun x => x.2 hb)]
      rw [dif_pos e]
      unfold prS
      rw [dif_pos h, if_pos hb]
    · have e : inR T fr fr = inR T fr (nx T fr) := by conv => lhs; unfold inR
                                                      rw [dif_pos ⟨h, hb⟩]
      have hg := nx_gt h
      have hge := inR_ge T fr (nx T fr)
      have hle := inR_le T fr (nx T fr) (nx_le hf)
      rw [dif_neg (by omega)]
      conv => lhs; unfold prS
      rw [dif_pos h, if_neg hb, if_neg hb, pr_in T fr (nx T fr) hg (nx_le hf), e, pr_rf T (inR T fr (nx T fr)) hle]
  · unfold rfS prS
    rw [dif_neg h, dif_neg h, if_neg (Nat.lt_irrefl _)]
termination_by T.length - fr
decreasing_by
  omega
/-- the answer -/
def sp (T : Str) (x : Nat × Nat) : Int × Str := ((x.1 : Int), (T.drop x.1).take (x.2 - x.1))
def ansS (T : Str) : Option (List (Nat × Nat)) := match rfS T 0 with
  | none => none
  | some l => if 256 < l.length then none else some l
def ansL (T : Str) : List (Int × Str) := match ansS T with
  | none => []
  | some l => l.map (sp T)
def ansC (T : Str) : Int := match ansS T with
  | none => 2
  | some _ => 0
theorem ans_none {T : Str} (h : ansS T = none) : ansL T = [] ∧ ansC T = 2 := by unfold ansL ansC; rw [h]; exact ⟨rfl, rfl⟩
theorem ans_some {T : Str} {l : List (Nat × Nat)} (h : ansS T = some l) : ansL T = l.map (sp T) ∧ ansC T = 0 := by unfold ansL ansC; rw [h]; exact ⟨rfl, rfl⟩
end Go.Proofs.YtjldecomhpngmaaDoor
