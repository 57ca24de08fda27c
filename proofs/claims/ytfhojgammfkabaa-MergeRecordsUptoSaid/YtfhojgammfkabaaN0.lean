/- MergeNone, walked. -/
import Derived.Test.YtfhojgammfkabaaMC
import Derived.Test.YtfhojgammfkabaaSNone
namespace Go.Proofs.Ytfhojgammfkabaa
open Go.Vw

/-- a list of sources with a nil among them -/
theorem new_nil {w : World} {cv : Value} {s : Sl} {vs : List Value} {j : Nat} (hcv : isFn cv) (hr : RdS w EF s vs) (hj : vs[j]? = some .nilFunc) (hf : ∀ i, i < j → ∃ v, vs[i]? = some v ∧ isFn v) (hlen : vs.length ≤ 1048576) {K : PA → Int → World → Prop} (hK : K none 1 w) :
    callK Try.prog 30 [.leaf (.val cv), .leaf (.sl s)] w (.tup [.leaf .ptr, .leaf (.int .i64)]) K := by
  refine go_merge_New_winnowref11_Thing _ _ _ _ ?_
  unfold S_merge_New_winnowref11_Thing
  have hjl : j < vs.length := (List.getElem?_eq_some_iff.1 hj).1
  refine nilF_fn hcv (ifK_f rfl (join0 (fun _ => False) (fun k hk => ?_) fun _ h => h.elim))
  refine loop1 (k := .int .i64) (fun x w' => w' = w ∧ ∃ i : Nat, x = i ∧ i ≤ j) (fun x _ => vs.length - x.toNat) rfl ⟨rfl, 0, rfl, by omega⟩ ?_
  rintro x w1 ⟨hw1, i, rfl, hi⟩
  rw [hw1]
  refine ifK_t (by rw [hr.len]; simp; omega) ?_
  by_cases hij : i = j
  · subst hij
    exact hr.ix rfl rfl hj fun b o _ hc => ld_cell (k := .val) .nilFunc (hc 0 (by decide)) (.inl ⟨rfl, ifK_t rfl hK⟩)
  · obtain ⟨v, hv, hfn⟩ := hf i (by omega)
    refine hr.ix rfl rfl hv fun b o _ hc => ld_cell (k := .val) v ?_ (nilF_fn hfn (ifK_f rfl ?_))
    · have := hc 0 (by decide)
      rw [EF_f hfn] at this; exact this
    · rw [set_step (by omega)]
      exact ⟨⟨rfl, i + 1, rfl, by omega⟩, by simp; omega⟩
theorem new_nocmp {w : World} {s : Sl} {K : PA → Int → World → Prop} (hK : K none 1 w) : callK Try.prog 30 [.leaf (.val .nilFunc), .leaf (.sl s)] w (.tup [.leaf .ptr, .leaf (.int .i64)]) K := by
  refine go_merge_New_winnowref11_Thing _ _ _ _ ?_
  unfold S_merge_New_winnowref11_Thing
  exact .inl ⟨rfl, ifK_t rfl hK⟩
/-- no sources at all -/
def noF (w : World) : Feeds := ⟨0, fun _ => 0, fun _ => ⟨none, 0, 0⟩, fun _ => [], fun _ => 0, w.heap.size⟩
theorem noF_ok (w : World) : (noF w).Ok := ⟨fun i j h => absurd h (Nat.not_lt_zero _), fun i h => absurd h (Nat.not_lt_zero _), fun i h => absurd h (Nat.not_lt_zero _), fun i h => absurd h (Nat.not_lt_zero _)⟩
theorem noF_I (w : World) : (noF w).I (fun _ => zFS) (fun _ => False) w := ⟨fun b => ⟨fun h => h.elim, fun ⟨i, h, _⟩ => absurd h (Nat.not_lt_zero _)⟩, fun i h => absurd h (Nat.not_lt_zero _), fun i h => absurd h (Nat.not_lt_zero _), fun i h => absurd h (Nat.not_lt_zero _)⟩
theorem next_none {w : World} {K : List UInt8 → Bool → Int → World → Prop} (hK : K [] false 1 w) : callK Try.prog 32 [.leaf (.ptr none)] w (.tup [.leaf .str, .leaf .bool, .leaf (.int .i64)]) K := by
  refine go_merge_Merge_Next_string _ _ _ ?_
  unfold S_merge_Merge_Next_string
  exact ifK_t rfl hK
theorem err_none {w : World} {K : Int → World → Prop} (hK : K 1 w) : callK Try.prog 35 [.leaf (.ptr none)] w (.one (.leaf (.int .i64))) K := by
  refine go_merge_Merge_Err_string _ _ _ ?_
  unfold S_merge_Merge_Err_string
  exact ifK_t rfl hK
/-- the rest of MergeNone, behind the range that gives nothing -/
theorem none_rest {w : World} {b1 r : Nat} (hb1 : Blk w b1 [.bool false]) (hr : w.heap[r]? = some (.deferred (some []))) (hlt : r < w.heap.size) (hne : r ≠ b1) {K : Bool → World → Prop} (hK : ∀ w', Mod (fun b => b = b1 ∨ b = r) w w' → K true w') :
    Go.Vw.al w 73 [.sl (⟨none, 0, 0⟩), .int .i64 0, .int .i64 0, .int .i64 0, .lit false, .lit false] fun b25 w_26 =>
      (∀ x ∈ [(.func (.func 34) #[(LV.toV (.ptr (some (b25, 0))))] #[] : Value), (.nilFunc : Value)], isCell x = true) ∧
      Go.Vw.al w_26 68 [.val (.func (.func 34) #[(LV.toV (.ptr (some (b25, 0))))] #[]), .val .nilFunc] fun b27 w_28 =>
      callK Try.prog 30 [.leaf (.val (.func (.func 31) #[] #[])), .leaf (.sl (⟨some (b27, 0), 2, 2⟩))] w_28 (.tup [.leaf (.ptr), .leaf (.int .i64)]) fun p29 n30 w_31 =>
      (∀ x ∈ [(.func (.func 34) #[(LV.toV (.ptr (some (b25, 0))))] #[] : Value)], isCell x = true) ∧
      Go.Vw.al w_31 68 [.val (.func (.func 34) #[(LV.toV (.ptr (some (b25, 0))))] #[])] fun b32 w_33 =>
      callK Try.prog 30 [.leaf (.val .nilFunc), .leaf (.sl (⟨some (b32, 0), 1, 1⟩))] w_33 (.tup [.leaf (.ptr), .leaf (.int .i64)]) fun p34 n35 w_36 =>
      callK Try.prog 30 [.leaf (.val (.func (.func 31) #[] #[])), .leaf (.sl (⟨none, 0, 0⟩))] w_36 (.tup [.leaf (.ptr), .leaf (.int .i64)]) fun p37 n38 w_39 =>
      joinK [.bool] (fun k40 =>
        ifK (!(([] : List UInt8) == []))
        (k40 true w_39)
        (ifK false
          (k40 true w_39)
          (ifK ((1 : Int) != 1)
            (k40 true w_39)
            (callK Try.prog 35 [.leaf (.ptr none)] w_39 (.one (.leaf (.int .i64))) fun n41 w_42 =>
              ifK (n41 != 1)
              (k40 true w_42)
              (ifK (!p29.isNone)
                (k40 true w_42)
                (ifK (n30 != 1)
                  (k40 true w_42)
                  (ifK (!p34.isNone)
                    (k40 true w_42)
                    (ifK (n35 != 1)
                      (k40 true w_42)
                      (ifK p37.isNone
                        (k40 true w_42)
                        (ifK (n38 != 0)
                          (k40 true w_42)
                          (dr (some (b25, 0)) fun b43 o44 =>
                            Go.Vw.ld w_42 (.int .i64) b43 (o44 + 3) fun n45 =>
                            k40 (n45 != 0) w_42))))))))))) fun t9246 w_47 =>
      ifK t9246
      (Go.Vw.st w_47 b1 0 [.lit false] fun w_48 =>
        closeK (r :: []) w_48 fun w_49 =>
        Go.Vw.ld w_49 .bool b1 0 fun c50 =>
        K c50 w_49)
      (callK Try.prog 27 [.leaf (.ptr p37)] w_47 (.tup [.agg [.int .i64, .int .i64], .leaf (.bool), .leaf (.int .i64)]) fun n51 n52 c53 n54 w_55 =>
        Go.Vw.al w_55 55 [.int .i64 0, .int .i64 0] fun b56 w_57 =>
        Go.Vw.st w_57 b56 0 [.int .i64 n51, .int .i64 n52] fun w_58 =>
        joinK [] (fun k59 =>
          ifK (!c53)
          (ifK (n54 == 0)
            (callK Try.prog 22 [] w_58 (.one (.leaf (.bool))) fun c60 w_61 =>
              Go.Vw.st w_61 b1 0 [.bool c60] fun w_62 =>
              k59 w_62)
            (Go.Vw.st w_58 b1 0 [.lit false] fun w_63 =>
              k59 w_63))
          (Go.Vw.st w_58 b1 0 [.lit false] fun w_64 =>
            k59 w_64)) fun w_65 =>
        closeK (r :: []) w_65 fun w_66 =>
        Go.Vw.ld w_66 .bool b1 0 fun c67 =>
        K c67 w_66) := by
  have h0 : At w (fun b => b = b1) [(b1, [.bool false])] w := (At.init w _).add hb1 (by simp) fun _ => rfl
  refine h0.alK fun b25 w1 _ h1 _ => ⟨fun x hx => by simp at hx; rcases hx with rfl | rfl <;> rfl, h1.alK fun b27 w2 _ h2 _ => ?_⟩
  have h2 : At w (fun b => b = b1) [(b1, [.bool false]), (b25, feedC (⟨none, 0, 0⟩, 0)), (b27, EF.cells [nextV (some (b25, 0)), .nilFunc])] w2 := h2
  have hs2 : RdS w2 EF ⟨some (b27, 0), 2, 2⟩ [nextV (some (b25, 0)), .nilFunc] := ⟨rfl, .inr ⟨b27, 0, rfl, fun i hi => by rw [(h2.blk (i := 2) rfl).cell, Nat.zero_add]⟩, Nat.le_refl _⟩
  have hfst : ∀ i, i < 1 → ∃ v, ([nextV (some (b25, 0)), .nilFunc] : List Value)[i]? = some v ∧ isFn v := fun i hi => by
    have e : i = 0 := by omega
    subst e; exact ⟨_, rfl, nextV_fn _⟩
  refine new_nil (j := 1) cmpV_fn hs2 rfl hfst (by simp) ?_
  refine ⟨fun x hx => by simp at hx; subst hx; rfl, h2.alK fun b32 w3 _ h3 _ => new_nocmp ?_⟩
  refine new_ok (vs := []) cmpV_fn ⟨rfl, .inl rfl, Nat.le_refl _⟩ (by simp) (by simp) fun w4 y hAy hy => ?_
  have h4 := h3.keep0 hAy.mod fun _ => id
  refine join1 (a := .bool) (fun b w' => b = false ∧ w' = w4) (fun k hk => ?_) ?_
  · refine ifK_f rfl (ifK_f rfl (ifK_f rfl (err_none (ifK_f rfl (ifK_f rfl (ifK_f rfl (ifK_f rfl (ifK_f rfl (ifK_f rfl (ifK_f rfl (dr_some ?_)))))))))))
    exact h4.ld 1 (k := .int .i64) 0 rfl rfl (hk _ _ ⟨rfl, rfl⟩)
  rintro _ w5 ⟨rfl, hw5⟩
  rw [hw5]
  refine ifK_f rfl ?_
  obtain ⟨hof, hmf, hrel⟩ := start_of (noF_ok w3) (noF_I w3) (Nat.le_refl _) (ps := []) rfl hAy hy
  have hyn : y.n = 0 := hy.n
  have ht : Tell ((noF w3).src (noF_ok w3)) (noF w3).en (noF w3).St 0 (fun _ => True) (s0 (noF w3).n, []) (fun _ => zFS) 0 [] 0 := .start rfl rfl rfl rfl hrel rfl rfl fun _ _ => trivial
  obtain ⟨_, n2⟩ := next_tell ((noF w3).lists (noF_ok w3)) ht
  obtain ⟨r1, _, _⟩ := n2 rfl
  refine next_ok hof (cmp := cmpT) (by rw [hy.cv]; exact compare_ok) (by omega) ht.bg0 hmf fun w6 F6 hm6 => ?_
  have r1 : (nextM ((noF w3).src (noF_ok w3)) cmpT y.n (s0 (noF w3).n, []) (fun _ => zFS)).1 = ((0, 0), false, 0) := by rw [hyn]; exact r1
  rw [r1]
  have h6 := h3.keep0 hm6.at0 fun _ => id
  refine h6.alK fun b56 w7 _ h7 _ => ?_
  refine h7.st 4 rfl (Nat.le_refl 2) fun w8 h8 _ => ?_
  have hsub : ∀ {m : List (Nat × List Value)} {w' : World} {c : List Value}, At w (fun b => b = b1) ((b1, c) :: m) w' → At w (fun b => b = b1) [(b1, c)] w' := fun h => h.sub (.cons_cons _ (List.nil_sublist _))
  have h8 := hsub h8
  refine join0 (fun w' => At w (fun b => b = b1) [(b1, [.bool true])] w') (fun k hk => ?_) fun w9 h9 => ?_
  · refine ifK_t rfl (ifK_t rfl (head_ok fun w9 M9 => ?_))
    exact (h8.keep0 M9 fun _ => id).st 0 rfl (Nat.le_refl 1) fun w10 h10 _ => hk _ h10
  · have hr9 : w9.heap[r]? = some (.deferred (some [])) := (h9.mod.block r hlt hne).trans hr
    refine ⟨hr9, ?_⟩
    have hM : Mod (fun b => b = b1 ∨ b = r) w (w9.putObj r (.deferred none)) := h9.mod.trans (Mod.putObj w9 r _) (fun _ _ h => .inl h) fun _ _ h => .inr h
    refine ld_cell (k := .bool) true ?_ (hK _ hM)
    exact ((Blk.of_heap (h9.blk (i := 0) rfl) (World.putObj_heap_other (Ne.symm hne))).cell 0).trans rfl
/-- all things of a nil merge of texts: none -/
theorem all_none {w : World} {yv : Value} {b o : Nat} (hb : w.cell? ⟨b, o, none⟩ = some (LV.ptr none).toV) {K : World → Prop} (hK : K w) : callK Try.prog 49 [.leaf (.val yv), .leaf (.ptr (some (b, o)))] w (.tup []) K := by
  refine go_merge_Merge_All_1_string _ _ _ _ _ ?_
  unfold S_merge_Merge_All_1_string
  refine loop0 (fun w' => w' = w) (fun _ => 0) rfl fun w' hw => ?_
  rw [hw]
  refine ld_cell (k := .ptr) none hb (next_none ?_)
  exact join1 (a := .bool) (fun b w' => b = true ∧ w' = w) (fun k hk => ifK_t rfl (hk _ _ ⟨rfl, rfl⟩)) fun x w1 ⟨h1, h2⟩ => ifK_t h1 (h2 ▸ hK)
theorem callF_func {f : FuncId} {a c : Array Value} {args : List AV} {w : World} {rt : RT} {K : Go.Vw.Fn rt.kds (World → Prop)} (hf : callable Try.prog f = true) (args' : List AV) (ha : a ++ (args.map AV.toV).toArray ++ c = (args'.map AV.toV).toArray)
    (h : callK Try.prog f args' w rt K) : callF Try.prog (.func (.func f) a c) args w rt K := ⟨f, a, c, rfl, hf, by rw [ha]; exact h⟩
theorem isLoop_lt {w : World} {l : Nat} {o : Obj} (h : w.heap[l]? = some o) : l < w.heap.size := (Array.getElem?_eq_some_iff.1 h).1
theorem none_walk {w : World} {K : Bool → World → Prop} (hK : ∀ w', Mod (fun _ => False) w w' → K true w') : callK Try.prog 9 [] w (.one (.leaf .bool)) K := by
  refine go_winnowlaw11_MergeNone _ _ ?_
  unfold S_winnowlaw11_MergeNone
  refine (At.init w fun _ => False).alK fun b1 w1 hb1 h1 _ => next_none ?_
  refine go_merge_Merge_All_string _ _ _ ?_
  unfold S_merge_Merge_All_string
  refine h1.alK fun b2 w2 hb2 h2 _ => ?_
  have h2 : At w (fun _ => False) [(b1, [.bool false]), (b2, [(LV.ptr none).toV])] w2 := h2
  refine .inr ⟨_, _, _, rfl, ifK_f rfl ?_⟩
  refine ⟨fun l0 h => (by cases h), fun R w3 l hR hw3 hl _ => ?_⟩
  have hw3 : w3 = w2.alloc (.deferred (some [])) := hw3
  refine callF_func (CS_ok 49 rfl) [.leaf (.val (.func (.yield l) #[] #[])), .leaf (.ptr (some (b2, 0)))] (by rfl) ?_
  have M23 : Mod (fun _ => False) w2 w3 := hw3 ▸ Mod.alloc _ _ _
  have M34 : Mod (fun _ => False) w3 (w3.alloc (R .ready)) := Mod.alloc _ _ _
  have h4 := (h2.keep0 M23 fun _ => id).keep0 M34 fun _ => id
  refine all_none (((h4.blk (i := 1) rfl).cell 0).trans rfl) ?_
  have hl3 : l = w3.heap.size := hl
  have hrec : (w3.alloc (R .ready)).heap[l]? = some (R .ready) := by rw [hl3]; exact World.alloc_heap_new _ _
  refine .inl ⟨hrec, ?_⟩
  have hr3 : w3.heap[w2.heap.size]? = some (.deferred (some [])) := by rw [hw3]; exact World.alloc_heap_new _ _
  have hr3lt := isLoop_lt hr3
  have hb1lt := (h2.blk (i := 0) rfl).lt
  have M5 : Mod (fun k => k = l) (w3.alloc (R .ready)) ((w3.alloc (R .ready)).putObj l (R (.over none))) := Mod.putObj _ _ _
  generalize (w3.alloc (R .ready)).putObj l (R (.over none)) = w5 at M5
  have M25 : Mod (fun _ => False) w2 w5 := Mod.fresh (M23.trans M34 (fun _ _ h => h) fun _ _ h => h) M5 fun x hx e => by have := M23.size; omega
  have h5 := h2.keep0 M25 fun _ => id
  have hr5 : w5.heap[w2.heap.size]? = some (.deferred (some [])) := (M5.block _ (Nat.lt_of_lt_of_le hr3lt M34.size) (by omega)).trans ((M34.block _ hr3lt id).trans hr3)
  refine none_rest (h5.blk (i := 0) rfl) hr5 (isLoop_lt hr5) (by omega) fun w6 M6 => hK w6 (Mod.fresh h5.mod M6 fun x hx e => ?_)
  have := h2.mod.size
  rcases e with e | e
  · omega
  · omega
end Go.Proofs.Ytfhojgammfkabaa
