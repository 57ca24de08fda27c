/- Sources are made tidy. -/
import Derived.Test.YtfhojgammfkabaaQ1
namespace Go.Proofs.Ytfhojgammfkabaa
open Go.Vw

/-! ### told plainly -/
/-- the place of x in a sorted list: behind all that are not greater -/
def insP (l : List Thing) (x : Thing) : Nat → Nat
  | 0 => 0
  | n + 1 => if x.1 < (getT l n).1 then insP l x n else n + 1
def insT (l : List Thing) (x : Thing) : List Thing := l.take (insP l x l.length) ++ [x] ++ l.drop (insP l x l.length)
def sortT (L : List Thing) : List Thing := L.foldl insT []
def nameT : Nat → List Thing → List Thing
  | _, [] => []
  | n, x :: l => (x.1, (n : Int)) :: nameT (n + 1) l
def tidyM : Nat → List (List Thing) → List (List Thing)
  | _, [] => []
  | n, L :: r => nameT n (sortT L) :: tidyM (n + L.length) r
theorem insP_le (l : List Thing) (x : Thing) : ∀ n, insP l x n ≤ n
  | 0 => Nat.le_refl _
  | n + 1 => by rw [insP]; split; have := insP_le l x n; omega; exact Nat.le_refl _
theorem insT_length (l : List Thing) (x : Thing) : (insT l x).length = l.length + 1 := by
  have := insP_le l x l.length
  simp [insT]; omega
theorem foldl_ins_length : ∀ (L l : List Thing), (L.foldl insT l).length = l.length + L.length
  | [], l => rfl
  | x :: L, l => by rw [List.foldl_cons, foldl_ins_length L, insT_length]; simp; omega
theorem sortT_length (L : List Thing) : (sortT L).length = L.length := by unfold sortT; rw [foldl_ins_length]; simp
theorem nameT_length : ∀ (n : Nat) (l : List Thing), (nameT n l).length = l.length
  | _, [] => rfl
  | n, x :: l => by simp [nameT, nameT_length (n + 1) l]
theorem insT_perm (l : List Thing) (x : Thing) : (insT l x).Perm (x :: l) := by
  unfold insT
  have h : (l.take (insP l x l.length) ++ [x] ++ l.drop (insP l x l.length)) = l.take (insP l x l.length) ++ x :: l.drop (insP l x l.length) := by simp
  rw [h]
  have := List.perm_middle (a := x) (l₁ := l.take (insP l x l.length)) (l₂ := l.drop (insP l x l.length))
  rw [List.take_append_drop] at this; exact this
theorem getT_getElem {l : List Thing} {i : Nat} (h : i < l.length) : getT l i = l[i] := by simp [getT, h]
def leK (x y : Thing) : Prop := x.1 ≤ y.1
theorem insP_spec {l : List Thing} {x : Thing} (hs : l.Pairwise leK) : ∀ n, n ≤ l.length → (∀ j, insP l x n ≤ j → j < n → x.1 < (getT l j).1) ∧ (∀ j, j < insP l x n → (getT l j).1 ≤ x.1)
  | 0, _ => ⟨fun j h1 h2 => by omega, fun j h => by rw [insP] at h; omega⟩
  | n + 1, hn => by
    rw [insP]
    split
    · rename_i hlt
      obtain ⟨h1, h2⟩ := insP_spec (x := x) hs n (by omega)
      refine ⟨fun j hj hjn => ?_, h2⟩
      by_cases e : j = n
      · subst e; exact hlt
      · exact h1 j hj (by omega)
    · rename_i hlt
      refine ⟨fun j hj hjn => by omega, fun j hj => ?_⟩
      by_cases e : j = n
      · subst e; omega
      · have hjn : j < n := by omega
        have := List.pairwise_iff_getElem.1 hs j n (by omega) (by omega) hjn
        unfold leK at this
        rw [getT_getElem (by omega)] at hlt ⊢
        omega
theorem insT_sorted {l : List Thing} {x : Thing} (hs : l.Pairwise leK) : (insT l x).Pairwise leK := by
  obtain ⟨h1, h2⟩ := insP_spec (x := x) hs l.length (Nat.le_refl _)
  have hle := insP_le l x l.length
  unfold insT
  rw [List.append_assoc, List.pairwise_append]
  refine ⟨hs.sublist (List.take_sublist _ _), ?_, ?_⟩
  · rw [List.singleton_append, List.pairwise_cons]
    refine ⟨fun y hy => ?_, hs.sublist (List.drop_sublist _ _)⟩
    obtain ⟨j, hj, rfl⟩ := List.mem_iff_getElem.1 hy
    rw [List.getElem_drop]
    have hjl : insP l x l.length + j < l.length := by simp at hj; omega
    have := h1 (insP l x l.length + j) (by omega) hjl
    rw [getT_getElem hjl] at this
    unfold leK; omega
  · intro a ha b hb
    obtain ⟨j, hj, rfl⟩ := List.mem_take_iff_getElem.1 ha
    have hja := h2 j (by omega)
    rw [getT_getElem (by omega)] at hja
    rw [List.singleton_append] at hb
    rcases List.mem_cons.1 hb with rfl | hb
    · exact hja
    · obtain ⟨k, hk, rfl⟩ := List.mem_iff_getElem.1 hb
      rw [List.getElem_drop]
      exact List.pairwise_iff_getElem.1 hs j _ (by omega) (by simp at hk; omega) (by omega)
theorem foldl_ins_sorted : ∀ (L l : List Thing), l.Pairwise leK → (L.foldl insT l).Pairwise leK
  | [], l, h => h
  | x :: L, l, h => foldl_ins_sorted L _ (insT_sorted h)
theorem sortT_sorted (L : List Thing) : (sortT L).Pairwise leK := foldl_ins_sorted L [] List.Pairwise.nil
theorem nameT_mem : ∀ (n : Nat) (l : List Thing) (x : Thing), x ∈ nameT n l → ∃ k, k < l.length ∧ x.2 = ((n + k : Nat) : Int)
  | _, [], x, h => by simp [nameT] at h
  | n, y :: l, x, h => by
    rw [nameT] at h
    rcases List.mem_cons.1 h with rfl | h
    · exact ⟨0, by simp, rfl⟩
    · obtain ⟨k, hk, e⟩ := nameT_mem (n + 1) l x h
      exact ⟨k + 1, by simpa using hk, by rw [e]; congr 1; omega⟩
theorem nameT_key : ∀ (n : Nat) (l : List Thing) (x : Thing), x ∈ nameT n l → ∃ y ∈ l, y.1 = x.1
  | _, [], x, h => by simp [nameT] at h
  | n, y :: l, x, h => by
    rw [nameT] at h
    rcases List.mem_cons.1 h with rfl | h
    · exact ⟨y, by simp, rfl⟩
    · obtain ⟨z, hz, e⟩ := nameT_key (n + 1) l x h
      exact ⟨z, List.mem_cons_of_mem _ hz, e⟩
theorem nameT_sorted : ∀ (n : Nat) (l : List Thing), l.Pairwise leK → (nameT n l).Pairwise ltT
  | _, [], _ => List.Pairwise.nil
  | n, x :: l, h => by
    rw [nameT, List.pairwise_cons]
    obtain ⟨h1, h2⟩ := List.pairwise_cons.1 h
    refine ⟨fun y hy => ?_, nameT_sorted (n + 1) l h2⟩
    obtain ⟨k, hk, e⟩ := nameT_mem (n + 1) l y hy
    obtain ⟨z, hz, e2⟩ := nameT_key (n + 1) l y hy
    have := h1 z hz
    unfold leK at this
    unfold ltT
    show x.1 < y.1 ∨ (x.1 = y.1 ∧ (n : Int) < y.2)
    omega
end Go.Proofs.Ytfhojgammfkabaa
