/- The lock; the map of names; slices that may be cut. -/
import Derived.Test.YtjldecomhpngmaaSA
import Derived.Test.YtjldecomhpngmaaLB
import Derived.Conc.MuLone
namespace Go.Proofs.Ytjldecomhpngmaa
open Go.Vw

def EU : Enc Int := ⟨1, fun x => [.int .u8 x], fun _ => rfl, by decide, fun x v h => by simp at h; subst h; rfl⟩
def ELk : Enc (Int × Int) := ⟨2, fun x => [.int .i64 x.1, .int .i64 x.2], fun _ => rfl, by decide, fun x v h => by simp at h; rcases h with rfl | rfl <;> rfl⟩
abbrev link : Go.Conc.Locks.MuLink := { lock := 29, unlock := 30, ilock := 55, iunlock := 56, lockSlow := 68, unlockSlow := 71, disable := 64, enable := 66, acquire := 67, relMerge := 69, cas32 := 65, add32 := 70, tMutex := 79, tIMutex := 77, tPMutex := 99, tPIMutex := 109, tPI32 := 111, tUP := 113, tNoCopy := 75, tU32 := 40 }
theorem muLib : Go.Conc.Locks.MuLib Try.prog link :=
  ⟨Try.func29, Try.func30, Try.func55, Try.func56, Try.func64, Try.func66, Try.func67, Try.func69, Try.func65, Try.func70, Try.underlying77, Try.runUnderlying77, Try.sizeOf77, Try.isAgg77, Try.zeroValue77, Try.underlying79, Try.runUnderlying79, Try.sizeOf79, Try.isAgg79, Try.zeroValue79, Try.underlying99, Try.runUnderlying99, Try.sizeOf99, Try.isAgg99, Try.zeroValue99, Try.underlying109, Try.runUnderlying109, Try.sizeOf109, Try.isAgg109, Try.zeroValue109, Try.underlying111, Try.runUnderlying111, Try.sizeOf111, Try.isAgg111, Try.zeroValue111, Try.underlying113, Try.runUnderlying113, Try.sizeOf113, Try.isAgg113, Try.zeroValue113, Try.underlying75, Try.runUnderlying75, Try.sizeOf75, Try.isAgg75, Try.zeroValue75, Try.underlying21, Try.runUnderlying21, Try.sizeOf21, Try.isAgg21, Try.zeroValue21, (by kernel_rfl)⟩
theorem lock_raw {b o : Nat} {w : World} (hc : w.cell? ⟨b, o, none⟩ = some (.int .i32 0)) (hz : w.frozen? ⟨b, o, none⟩ = false) {K : World → Prop} (hK : K (World.setCells w b o [.int .i32 1])) :
    callK Try.prog 29 [.leaf (.ptr (some (b, o)))] w (.tup []) K := by
  refine Calls.mono (Go.MuLone.lock_free muLib ⟨b, o, none⟩ w hc hz) fun e w' ⟨he, hw⟩ => ⟨[], he, ?_⟩
  subst hw; exact hK
theorem unlock_raw {b o : Nat} {w : World} (hc : w.cell? ⟨b, o, none⟩ = some (.int .i32 1)) (hz : w.frozen? ⟨b, o, none⟩ = false) {K : World → Prop} (hK : K (World.setCells w b o [.int .i32 0])) :
    callsK Try.prog [(30, [.leaf (.ptr (some (b, o)))])] w K := by
  refine WF_defer (rt := .tup []) (K := K) (n := N_sync_Mutex_Unlock) CS_ok mixed Try.func30 (CS_ok 30 rfl) ?_ (by kernel_rfl) ?_
  · rw [is_sync_Mutex_Unlock]
    refine dr_some ?_
    refine Calls.mono (Go.MuLone.iunlock_held muLib ⟨b, o, none⟩ w hc hz) fun e w' ⟨he, hw⟩ => ⟨[], he, ?_⟩
    subst hw; exact hK
  · intro l w' h
    cases l with
    | nil => exact h
    | cons x l => exact h.elim

/-! ### the map of names -/
def fnd (s : Str) : List (Str × Nat) → Nat → Option (Nat × Nat)
  | [], _ => none
  | x :: r, i => if s = x.1 then some (i, x.2) else fnd s r (i + 1)
theorem fnd_some {s : Str} : ∀ {l : List (Str × Nat)} {i j b : Nat}, fnd s l i = some (j, b) → ∃ A B, l = A ++ (s, b) :: B ∧ j = i + A.length ∧ ∀ x ∈ A, x.1 ≠ s
  | [], i, j, b, h => by simp [fnd] at h
  | x :: r, i, j, b, h => by
    unfold fnd at h
    split at h
    · rename_i e; subst e; simp at h; obtain ⟨rfl, rfl⟩ := h
      exact ⟨[], r, rfl, rfl, by simp⟩
    · rename_i e
      obtain ⟨A, B, h1, h2, h3⟩ := fnd_some h
      refine ⟨x :: A, B, by rw [h1]; rfl, by rw [h2]; simp; omega, ?_⟩
      intro y hy
      rcases List.mem_cons.1 hy with rfl | hy
      · exact Ne.symm e
      · exact h3 y hy
theorem fnd_none {s : Str} : ∀ {l : List (Str × Nat)} {i : Nat}, fnd s l i = none → ∀ x ∈ l, x.1 ≠ s
  | [], i, h => by simp
  | x :: r, i, h => by
    unfold fnd at h
    split at h
    · cases h
    · rename_i e
      intro y hy
      rcases List.mem_cons.1 hy with rfl | hy
      · exact Ne.symm e
      · exact fnd_none h y hy
def strV (s : Str) : Value := (LV.str s).toV
def ptrV (b : Nat) : Value := (LV.ptr (some (b, 0))).toV
theorem strV_beq (a b : Str) : ((⟨a.toArray⟩ : ByteArray) == ⟨b.toArray⟩) = decide (a = b) := by
  show (a.toArray == b.toArray) = _
  by_cases h : a = b
  · subst h; simp
  · simp [h]
theorem findNow_str (s : Str) : ∀ (es : List MapEntry) (l : List (Str × Nat)) (i : Nat), es.map (fun e => (e.key, e.val)) = l.map (fun x => (strV x.1, ptrV x.2)) →
    Instr.findNow .string (strV s) es i = some ((fnd s l i).map fun p => (p.1, ptrV p.2))
  | [], [], i, _ => rfl
  | [], _ :: _, i, h => by simp at h
  | _ :: _, [], i, h => by simp at h
  | e :: es, x :: l, i, h => by
    simp only [List.map_cons, List.cons.injEq, Prod.mk.injEq] at h
    obtain ⟨⟨h1, h2⟩, h3⟩ := h
    have hs : Instr.sameNow .string (strV s) e.key = some (decide (s = x.1)) := by
      rw [h1]; show some (_ == _) = _; rw [strV_beq]
    unfold Instr.findNow fnd
    rw [hs]
    by_cases hx : s = x.1
    · simp only [hx, decide_true, if_true, Option.map_some, h2]
    · simp only [hx, decide_false, if_false]
      exact findNow_str s es l (i + 1) h3
theorem findKey_str {P : Program} (hs9 : P.underlying 9 = some .string) (s : Str) {es : List MapEntry} {l : List (Str × Nat)} (h : es.map (fun e => (e.key, e.val)) = l.map (fun x => (strV x.1, ptrV x.2))) (w : World) :
    (Instr.findKey 9 (strV s) es).run P w = .ok ((fnd s l 0).map fun p => (p.1, ptrV p.2)) w := by
  unfold Instr.findKey
  simp only [Sem.run_bind, run_underlying hs9, Result.andThen_ok]
  rw [findNow_str s es l 0 h]
  rfl
theorem checkKey_str {P : Program} (hs9 : P.underlying 9 = some .string) (b : Bool) (s : Str) (w : World) : (Instr.checkKey b 10000 9 (strV s)).run P w = .ok () w := by
  unfold Instr.checkKey
  simp only [Sem.run_bind, run_underlying hs9, Result.andThen_ok]
  rfl
theorem getMap {P : Program} {w : World} {r : Nat} {es : Array MapEntry} {c : Nat} (h : w.heap[r]? = some (.map es c)) : (getObj r).run P w = .ok (.map es c) w := by simp [getObj, Sem.run, h]
theorem setMap {P : Program} {w : World} {r : Nat} {es : Array MapEntry} {c : Nat} (o : Obj) (h : w.heap[r]? = some (.map es c)) : (setObj r o).run P w = .ok () { w with heap := w.heap.setIfInBounds r o } := by simp [setObj, Sem.run, h]
/-- what the map holds -/
def Names (w : World) (r : Nat) (l : List (Str × Nat)) : Prop := ∃ es c, w.heap[r]? = some (.map es c) ∧ es.toList.map (fun e => (e.key, e.val)) = l.map (fun x => (strV x.1, ptrV x.2)) ∧ (es.toList.map (·.born)).Nodup ∧ ∀ e ∈ es.toList, e.born < c
theorem Names.keep {w w' : World} {r : Nat} {l : List (Str × Nat)} (h : Names w r l) {D : Nat → Prop} (hM : Mod D w w') (hD : ¬ D r) : Names w' r l := by
  obtain ⟨es, c, h1, h2, h3⟩ := h
  exact ⟨es, c, (hM.block r (heap_lt h1) hD).trans h1, h2, h3⟩
theorem Names.far {w : World} {r : Nat} {l : List (Str × Nat)} (h : Names w r l) {c : List Value} : ¬ Blk w r c := by
  obtain ⟨es, k, h1, h2⟩ := h
  exact far_cell h1 rfl
theorem Names.lt {w : World} {r : Nat} {l : List (Str × Nat)} (h : Names w r l) : r < w.heap.size := by
  obtain ⟨es, k, h1, h2⟩ := h
  exact heap_lt h1
theorem lookup_names {w : World} {r : Nat} {l : List (Str × Nat)} (h : Names w r l) (s : Str) {K : PA → Bool → World → Prop} (h1 : ∀ j b, fnd s l 0 = some (j, b) → K (some (b, 0)) true w) (h2 : fnd s l 0 = none → K none false w) :
    opF Try.prog (vS (Instr.lookup 73 (LV.toV (.map (some r))) (LV.toV (.str s)) true)) w (.tup [.leaf (.ptr), .leaf (.bool)]) K := by
  obtain ⟨es, c, hh, hl, hnd, hbn⟩ := h
  have hrun : ∀ v b, ((fnd s l 0).map (fun p => (p.1, ptrV p.2)) = none → v = .pointer none ∧ b = false) → (∀ j x, (fnd s l 0).map (fun p => (p.1, ptrV p.2)) = some (j, x) → v = x ∧ b = true) →
      (vS (Instr.lookup 73 (LV.toV (.map (some r))) (LV.toV (.str s)) true)).run Try.prog w = .ok (.value (.tuple #[v, .bool b])) w := by
    intro v b hn hs
    unfold vS Instr.lookup
    simp only [Sem.run_bind, run_underlying Try.underlying73, Result.andThen_ok, LV.toV, getMap hh, Sem.run_pure]
    have hk := findKey_str Try.underlying9 s hl w
    have hc := checkKey_str Try.underlying9 es.isEmpty s w
    unfold strV at hk hc
    simp only [LV.toV] at hk hc
    rw [hc]
    simp only [Result.andThen_ok]
    rw [hk]
    simp only [Result.andThen_ok]
    cases hf : (fnd s l 0).map (fun p => (p.1, ptrV p.2)) with
    | none =>
      obtain ⟨rfl, rfl⟩ := hn hf
      simp only [Sem.run_bind, Try.zeroValue82, Result.andThen_ok, Sem.run_pure, if_true]
    | some y =>
      obtain ⟨j, x⟩ := y
      obtain ⟨rfl, rfl⟩ := hs j x hf
      simp only [Sem.run_bind, Sem.run_pure, Result.andThen_ok, if_true]
  cases hf : fnd s l 0 with
  | none =>
    refine ⟨[.ptr none, .bool false], w, ?_, h2 hf⟩
    rw [hrun (.pointer none) false (fun _ => ⟨rfl, rfl⟩) (fun j x h => by rw [hf] at h; cases h)]
    rfl
  | some y =>
    obtain ⟨j, b⟩ := y
    refine ⟨[.ptr (some (b, 0)), .bool true], w, ?_, h1 j b hf⟩
    rw [hrun (ptrV b) true (fun h => by rw [hf] at h; cases h) (fun j x h => by rw [hf] at h; simp at h; exact ⟨h.2, rfl⟩)]
    rfl
theorem setAt {w : World} {r : Nat} {o o' : Obj} (h : w.heap[r]? = some o) : ({ w with heap := w.heap.setIfInBounds r o' } : World).heap[r]? = some o' := by
  have := heap_lt h
  simp [Array.getElem?_setIfInBounds, this]
theorem modAt {w : World} {r : Nat} {o' : Obj} : Mod (fun k => k = r) w { w with heap := w.heap.setIfInBounds r o' } := by
  refine ⟨rfl, rfl, rfl, by simp, fun k _ hk => ?_⟩
  simp [Array.getElem?_setIfInBounds, Ne.symm hk]
theorem update_names {w : World} {r : Nat} {l : List (Str × Nat)} (h : Names w r l) {s : Str} {b : Nat} (hf : fnd s l 0 = none) {K : World → Prop} (hK : ∀ w', Names w' r (l ++ [(s, b)]) → Mod (fun k => k = r) w w' → K w') :
    opU Try.prog (uS (Instr.mapUpdate 73 (LV.toV (.map (some r))) (LV.toV (.str s)) (LV.toV (.ptr (some (b, 0)))))) w K := by
  obtain ⟨es, c, hh, hl, hnd, hbn⟩ := h
  refine ⟨_, ?_, hK _ ⟨es.push { key := strV s, val := ptrV b, born := c }, c + 1, setAt hh, ?_, ?_, ?_⟩ modAt⟩
  · unfold uS Instr.mapUpdate
    have hk := findKey_str Try.underlying9 s hl w
    have hc := checkKey_str Try.underlying9 false s w
    unfold strV at hk hc
    simp only [LV.toV] at hk hc
    simp only [Sem.run_bind, run_underlying Try.underlying73, Result.andThen_ok, LV.toV, getMap hh]
    rw [hc]
    simp only [Result.andThen_ok]
    rw [hk, hf]
    simp only [Option.map_none, Result.andThen_ok, setMap _ hh, Sem.run_pure]
    rfl
  · simp [hl]
  · rw [Array.toList_push, List.map_append, List.nodup_append]
    refine ⟨hnd, by simp, ?_⟩
    rintro x hx y hy rfl
    obtain ⟨e, he, rfl⟩ := List.mem_map.1 hx
    simp at hy
    have := hbn e he; omega
  · intro e he
    rw [Array.toList_push] at he
    rcases List.mem_append.1 he with he | he
    · have := hbn e he; omega
    · simp at he; subst he; exact Nat.lt_succ_self c
theorem eraseIdx_map' {α β : Type} (f : α → β) : ∀ (l : List α) (i : Nat), (l.eraseIdx i).map f = (l.map f).eraseIdx i
  | [], i => by simp
  | x :: l, 0 => by simp
  | x :: l, i + 1 => by simp [eraseIdx_map' f l i]
theorem delete_names {w : World} {r : Nat} {A B : List (Str × Nat)} {s : Str} {b : Nat} (h : Names w r (A ++ (s, b) :: B)) (hf : fnd s (A ++ (s, b) :: B) 0 = some (A.length, b)) {K : World → Prop} (hK : ∀ w', Names w' r (A ++ B) → Mod (fun k => k = r) w w' → K w') :
    opF Try.prog (builtin .delete #[73, 9] 0 #[false, false] #[(LV.toV (.map (some r))), (LV.toV (.str s))]) w (.tup []) K := by
  obtain ⟨es, c, hh, hl, hnd, hbn⟩ := h
  refine ⟨[], _, ?_, hK _ ⟨es.eraseIdxIfInBounds A.length, c, setAt hh, ?_, ?_⟩ modAt⟩
  · have hk := findKey_str Try.underlying9 s hl w
    have hc := checkKey_str Try.underlying9 es.isEmpty s w
    unfold strV at hk hc
    simp only [LV.toV] at hk hc
    show (Sem.run _ (vS (Builtin.delete_ #[73, 9] 0 #[(LV.toV (.map (some r))), (LV.toV (.str s))])) w) = _
    unfold vS Builtin.delete_
    simp only [List.getElem?_toArray, List.getElem?_cons_zero, List.getElem?_cons_succ, Sem.run_bind, run_underlying Try.underlying73, Result.andThen_ok, LV.toV, getMap hh]
    rw [hc]
    simp only [Result.andThen_ok]
    rw [hk, hf]
    simp only [Option.map_some, Sem.run_bind, Result.andThen_ok, setMap _ hh, Sem.run_pure]
    rfl
  · have hlen : A.length < es.size := by
      have := congrArg List.length hl
      simp at this; omega
    rw [Array.eraseIdxIfInBounds, dif_pos hlen, Array.toList_eraseIdx, eraseIdx_map', hl, ← eraseIdx_map']
    congr 1
    rw [List.eraseIdx_append_of_length_le (Nat.le_refl _)]
    simp
  · have hs : (es.eraseIdxIfInBounds A.length).toList.Sublist es.toList := by
      unfold Array.eraseIdxIfInBounds
      split
      · rw [Array.toList_eraseIdx]; exact List.eraseIdx_sublist _ _
      · exact List.Sublist.refl _
    exact ⟨hnd.sublist (hs.map _), fun e he => hbn e (hs.subset he)⟩
theorem make_names {w : World} {K : Option Nat → World → Prop} (hK : ∀ w', Names w' w.heap.size [] → Mod (fun _ => False) w w' → w'.heap.size = w.heap.size + 1 → K (some w.heap.size) w') :
    opF Try.prog (vS (Instr.makeMap 73 none)) w (.one (.leaf (.map))) K :=
  ⟨[.map (some w.heap.size)], w.alloc (.map #[] 0), rfl, hK _ ⟨#[], 0, World.alloc_heap_new w _, rfl, by simp, by simp⟩ (Mod.alloc _ _ _) (World.size_alloc ..)⟩

/-! ### slices that are one's own, and may be cut -/
def VecL {α : Type} (ro : List (Nat × List Value)) (E : Enc α) (s : Sl) (l : List α) : Prop :=
  s.len = l.length ∧ s.len ≤ s.cap ∧ ((ro = [] ∧ s.p = none ∧ s.cap = 0) ∨ ∃ b rest, ro = [(b, E.cells l ++ rest)] ∧ s.p = some (b, 0) ∧ s.cap * E.n ≤ (E.cells l ++ rest).length)
theorem VecL.nil {α : Type} (E : Enc α) : VecL [] E ⟨none, 0, 0⟩ [] := ⟨rfl, Nat.le_refl _, .inl ⟨rfl, rfl, rfl⟩⟩
theorem VecL.l_nil {α : Type} {E : Enc α} {s : Sl} {l : List α} (h : VecL [] E s l) : l = [] := by
  rcases h.2.2 with ⟨_, _, hc⟩ | ⟨b, rest, h1, _⟩
  · have h1 := h.1; have h2 := h.2.1
    exact List.eq_nil_of_length_eq_zero (by omega)
  · cases h1
theorem VecL.rd {α : Type} {ro : List (Nat × List Value)} {E : Enc α} {s : Sl} {l : List α} (h : VecL ro E s l) {w : World} (hb : ∀ p ∈ ro, Blk w p.1 p.2) : RdS w E s l := by
  refine ⟨h.1, ?_, h.2.1⟩
  rcases h.2.2 with ⟨rfl, _, _⟩ | ⟨b, rest, rfl, hp, _⟩
  · left; rw [h.l_nil]; rfl
  · refine .inr ⟨b, 0, hp, fun i hi => ?_⟩
    rw [(hb (b, _) (List.mem_singleton.2 rfl)).cell, Nat.zero_add, List.getElem?_append_left hi]
theorem VecL.key {α : Type} {ro : List (Nat × List Value)} {E : Enc α} {s : Sl} {l : List α} (h : VecL ro E s l) {b : Nat} (hb : bk s b) : Ks ro b := by
  obtain ⟨o, hb⟩ := hb
  rcases h.2.2 with ⟨_, hp, _⟩ | ⟨b', rest, h1, h2, _⟩
  · rw [hp] at hb; cases hb
  · rw [h2] at hb; cases hb; exact ⟨_, by rw [h1]; exact List.mem_singleton.2 rfl, rfl⟩
theorem VecL.of_E {α : Type} {ro : List (Nat × List Value)} {E : Enc α} {s : Sl} {l : List α} (h : VecE ro E s l) : VecL ro E s l := by
  refine ⟨h.1, ?_, ?_⟩
  · rcases h.2 with ⟨_, _, h2, rfl⟩ | ⟨b, rest, _, _, h3⟩
    · rw [h.1]; exact Nat.zero_le _
    · rw [List.length_append, E.cells_length] at h3
      rw [h.1]
      exact Nat.le_of_mul_le_mul_right (by omega) E.pos
  · rcases h.2 with ⟨h1, h2, h3, rfl⟩ | ⟨b, rest, h1, h2, h3⟩
    · exact .inl ⟨h1, h2, h3⟩
    · exact .inr ⟨b, rest, h1, h2, by rw [h3]; exact Nat.le_refl _⟩
theorem set_last {α : Type} (m : List α) (x y : α) : (m ++ [x]).set m.length y = m ++ [y] := by rw [List.set_append_right _ _ (Nat.le_refl _)]; simp
theorem appL {α : Type} {w0 w : World} {D : Nat → Prop} {m ro : List (Nat × List Value)} (hA : At w0 D (m ++ ro) w) {E : Enc α} {s x : Sl} {l l2 : List α} (hv : VecL ro E s l) (hr : RdS w E x l2) {e : TypeId} {n bytes : Nat} {zs : List LV} (hn : n = E.n) (hz : zs.length = E.n) (hlim : (l.length + l2.length + 1024) * (bytes + 1) ≤ 2 ^ 46)
    {K : Sl → World → Prop} (hK : ∀ s' ro' w', At w0 D (m ++ ro') w' → VecL ro' E s' (l ++ l2) → Mod (Ks ro) w w' → (l2 = [] → s' = s ∧ ro' = ro ∨ s.cap < s.len + x.len) → K s' w') : ap w e n bytes zs s x K := by
  subst hn
  have hpos := E.pos
  refine ⟨E.cells l2, hr.cells (by rw [E.cells_length, hr.len]), E.cells_isCell l2, ?_, ?_, ?_⟩
  · intro hle hne
    rcases hv.2.2 with ⟨rfl, hn, hc0⟩ | ⟨b, rest, rfl, hp, hc⟩
    · rw [hc0] at hle; omega
    · have hlen : (E.cells l).length = s.len * E.n := by rw [E.cells_length, hv.1]
      have hfit : s.len * E.n + (E.cells l2).length ≤ (E.cells l ++ rest).length := by
        have : s.len * E.n + (E.cells l2).length ≤ s.cap * E.n := by
          rw [E.cells_length, ← hr.len, ← Nat.add_mul]; exact Nat.mul_le_mul_right _ hle
        omega
      have hspl : spl (E.cells l ++ rest) (s.len * E.n) (E.cells l2) = E.cells (l ++ l2) ++ rest.drop (E.cells l2).length := by
        rw [spl_eq _ _ _ hfit, ← hlen, List.take_left, List.drop_length_add_append, E.cells_append]
      have hi : (m ++ [(b, E.cells l ++ rest)])[m.length]? = some (b, E.cells l ++ rest) := by simp
      have hA' := hA.setCells hi (s.len * E.n) (E.cells l2)
      rw [hspl, set_last] at hA'
      have hb : Blk w b (E.cells l ++ rest) := hA.blk hi
      refine ⟨b, 0, hp, fun i hi => ⟨⟨(E.cells l ++ rest)[s.len * E.n + i]'(by rw [E.cells_length, ← hr.len] at hfit; omega), by rw [hb.cell, Nat.zero_add, List.getElem?_eq_getElem]⟩, hb.frz _⟩,
        hK _ [(b, E.cells (l ++ l2) ++ rest.drop (E.cells l2).length)] _ (by rw [Nat.zero_add]; exact hA') ⟨by simp [hv.1, hr.len], by simpa using hle, .inr ⟨b, _, rfl, hp, ?_⟩⟩ ?_ ?_⟩
      · rw [← hspl, spl_length]; exact hc
      · rw [Nat.zero_add]; exact (Mod.setCells ..).mono fun y _ e => ⟨_, List.mem_singleton.2 rfl, e.symm⟩
      · rintro rfl
        left
        have : x.len = 0 := by rw [hr.len]; rfl
        refine ⟨by obtain ⟨p, a, c⟩ := s; simp only at this ⊢; rw [this]; rfl, by simp [Enc.cells]⟩
  · intro h0
    have h1 : l = [] := List.eq_nil_of_length_eq_zero (by have := hv.1; omega)
    have h2 : l2 = [] := List.eq_nil_of_length_eq_zero (by have := hr.len; omega)
    subst h1; subst h2
    have hs : (⟨s.p, 0, s.cap⟩ : Sl) = s := by have := hv.1; obtain ⟨p, len, cap⟩ := s; simp at this; subst this; rfl
    rw [hs]
    exact hK _ ro _ hA (by simpa using hv) (Mod.refl _ _) fun _ => .inl ⟨rfl, rfl⟩
  · intro hlt
    refine ⟨by rw [hv.1, hr.len]; exact hlim, E.cells l, (hv.rd fun p hp => hA.own p (List.mem_append_right _ hp)).cells (by rw [E.cells_length, hv.1]), fun c hc => ?_⟩
    have hA' := (hA.drew.al (E.cells l ++ E.cells l2 ++ (List.replicate (c - (s.len + x.len)) (zs.map LV.toV)).flatten) e)
    have hA2 : At w0 D (m ++ [(w.drew.heap.size, E.cells l ++ E.cells l2 ++ (List.replicate (c - (s.len + x.len)) (zs.map LV.toV)).flatten)]) _ := hA'.sub ((List.sublist_append_left m ro).append (List.Sublist.refl _))
    refine hK _ [(w.drew.heap.size, E.cells (l ++ l2) ++ (List.replicate (c - (s.len + x.len)) (zs.map LV.toV)).flatten)] _ (by rw [E.cells_append]; exact hA2) ⟨by simp [hv.1, hr.len], hc, .inr ⟨_, _, rfl, rfl, ?_⟩⟩ ((Mod.drew _ w).trans (Mod.alloc _ w.drew _) (fun _ _ h => h) (fun _ _ h => h)) fun _ => .inr hlt
    simp only [List.length_append, E.cells_length, List.length_flatten, List.map_replicate, List.sum_replicate_nat, List.length_map, hz]
    rw [← Nat.add_mul, ← hr.len, ← hv.1]; exact Nat.mul_le_mul_right _ (by omega)
/-- a part of what is read -/
theorem RdS.cutR {α : Type} {w : World} {E : Enc α} {s : Sl} {l : List α} (h : RdS w E s l) {lo hi mx : Nat} (h1 : lo ≤ hi) (h2 : hi ≤ l.length) (h3 : hi ≤ mx) : RdS w E (s.cut E.n lo hi mx) ((l.take hi).drop lo) := by
  refine ⟨by simp [Sl.cut]; omega, ?_, by simp [Sl.cut]; omega⟩
  by_cases hz : lo = hi
  · subst hz; left; rw [List.drop_eq_nil_of_le (by simp; omega)]; rfl
  · rcases h.rd with hc | ⟨b, o, hp, hr⟩
    · have := congrArg List.length hc
      rw [E.cells_length] at this
      have hp := E.pos
      have : l.length = 0 := by
        rcases Nat.eq_zero_or_pos l.length with h | h
        · exact h
        · have := Nat.mul_pos h hp; simp at *; omega
      omega
    · have hm : ¬ mx = lo := by omega
      refine .inr ⟨b, o + lo * E.n, by simp [Sl.cut, hm, hp], fun i hi' => ?_⟩
      have e1 : E.cells l = E.cells (l.take lo) ++ (E.cells ((l.take hi).drop lo) ++ E.cells (l.drop hi)) := by
        rw [← E.cells_append, ← E.cells_append]
        congr 1
        have : l.take lo = (l.take hi).take lo := by rw [List.take_take, Nat.min_eq_left h1]
        rw [this, ← List.append_assoc, List.take_append_drop, List.take_append_drop]
      have e2 : (E.cells (l.take lo)).length = lo * E.n := by rw [E.cells_length]; simp; rw [Nat.min_eq_left (by omega)]
      rw [Nat.add_assoc, hr (lo * E.n + i) (by rw [e1]; simp only [List.length_append, e2]; omega), e1, List.getElem?_append_right (by omega), e2, Nat.add_sub_cancel_left, List.getElem?_append_left hi']
end Go.Proofs.Ytjldecomhpngmaa
