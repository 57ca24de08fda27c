/- The bound of a list of sources. -/
import Derived.Test.YtfhojgammfkabaaQ1
import Derived.Test.YtfhojgammfkabaaRA
namespace Go.Proofs.Ytfhojgammfkabaa

theorem lens_sum : ∀ (Ls : List (List Thing)), 3 * lens Ls Ls.length + 3 * Ls.length = sumF (fun L : List Thing => 3 * L.length + 3) Ls := by
  intro Ls
  have key : ∀ (pre Ls : List (List Thing)), lens (pre ++ Ls) (pre ++ Ls).length = lens pre pre.length + lens Ls Ls.length := by
    intro pre Ls
    have h1 : ∀ k, k ≤ pre.length → lens (pre ++ Ls) k = lens pre k := by
      intro k
      induction k with
      | zero => intro _; rfl
      | succ k ih => intro hk; rw [lens, lens, ih (by omega), List.getElem?_append_left (by omega)]
    have h2 : ∀ k, lens (pre ++ Ls) (pre.length + k) = lens pre pre.length + lens Ls k := by
      intro k
      induction k with
      | zero => exact h1 _ (Nat.le_refl _)
      | succ k ih => rw [← Nat.add_assoc, lens, ih, lens, List.getElem?_append_right (by omega), Nat.add_sub_cancel_left, Nat.add_assoc]
    rw [List.length_append]; exact h2 _
  induction Ls with
  | nil => rfl
  | cons L r ih =>
    have h := key [L] r
    have h3 : lens [L] [L].length = L.length := by simp [lens]
    rw [h3] at h
    rw [show L :: r = [L] ++ r from rfl, h, ← show L :: r = [L] ++ r from rfl, sumF, ← ih]
    simp; omega
end Go.Proofs.Ytfhojgammfkabaa
