/- The document's own store: List. -/
import Derived.Test.YtjldecomhpngmaaXC
namespace Go.Proofs.Ytjldecomhpngmaa
open Go.Vw

section
variable {w0 w : World} {D : Nat → Prop} {g : RG}
def listR (pre : Str) (a : Abs) : List Info := a.filterMap (infoOf pre)
theorem rlist_ok (hA : At w0 D g.parts.flatten w) (hg : g.ok) (pre : Str) {K : Sl → World → Prop} (hK : ∀ t ro w', At w0 D (g.parts.flatten ++ ro) w' → VecL ro EBi t (listR pre g.abs) → K t w') :
    callK Try.prog 48 [.leaf (.ptr (some (g.q, 0))), .leaf (.str pre)] w (.one (.leaf .sl)) K := by
  refine go_winnowref5_Store_List _ _ _ _ ?_
  have hlen := hg.len
  have hsl : g.lS.len = g.es.length := hg.vL.1
  refine ifK_f rfl ?_
  refine join1 (fun (t : Sl) u => ∃ ro, At w0 D (g.parts.flatten ++ ro) u ∧ VecL ro EBi t (listR pre g.abs)) ?_ (by rintro t u ⟨ro, h1, h2⟩; exact hK t ro u h1 h2)
  intro k3 hk3
  refine loop2 (k1 := .sl) (k2 := .int .i64) (fun (t : Sl) (i : Int) u => ∃ (j : Nat) (ro : BL), i = j ∧ j ≤ g.es.length ∧ At w0 D (g.parts.flatten ++ ro) u ∧ VecL ro EBi t (listR pre ((g.es.take j).map fun x => (x.1, x.2.2)))) (fun _ i _ => (g.es.length - i).toNat) (x1 := ⟨none, 0, 0⟩) (x2 := 0) rfl rfl
    ⟨0, [], rfl, by omega, side_nil hA, VecL.nil EBi⟩ ?_
  rintro t i u ⟨j, ro, rfl, hj, hA1, hv⟩
  have hA2 : At w0 D (g.parts ++ [ro]).flatten u := by rw [List.flatten_append]; simpa using hA1
  refine dr_some (ldq hA2 (k := .sl) g.lS rfl ?_)
  rw [hsl]
  refine ifK_intro (fun h => ?_) fun h => ?_
  rotate_left
  · have hlt : g.es.length ≤ j := dge h
    rw [List.take_of_length_le hlt] at hv
    exact hk3 _ _ ⟨ro, hA1, hv⟩
  have hlt : j < g.es.length := dlt h
  have hx : g.es[j]? = some g.es[j] := List.getElem?_eq_getElem hlt
  generalize g.es[j] = x at hx
  obtain ⟨hok, hxl⟩ := RG.okE hg hx
  have hk3' := hok.len
  refine join1 (fun (t' : Sl) v => ∃ ro', At w0 D (g.parts.flatten ++ ro') v ∧ VecL ro' EBi t' (listR pre ((g.es.take (j + 1)).map fun x => (x.1, x.2.2)))) ?_ ?_
  rotate_left
  · rintro t' v ⟨ro', hA', hv'⟩
    exact ⟨⟨j + 1, ro', step64 (by omega), by omega, hA', hv'⟩, by rw [step64 (by omega)]; omega⟩
  intro k11 hk11
  have hlist : listR pre ((g.es.take (j + 1)).map fun x => (x.1, x.2.2)) = listR pre ((g.es.take j).map fun x => (x.1, x.2.2)) ++ (match infoOf pre (x.1, x.2.2) with | none => [] | some y => [y]) := by
    unfold listR
    rw [List.take_add_one, hx]
    simp only [Option.toList, List.map_append, List.filterMap_append, List.map_cons, List.map_nil, List.filterMap_cons, List.filterMap_nil]
    cases infoOf pre (x.1, x.2.2) <;> rfl
  rw [hlist] at hk11
  have hll : (listR pre ((g.es.take j).map fun x => (x.1, x.2.2))).length ≤ g.es.length := by
    unfold listR
    refine Nat.le_trans (List.length_filterMap_le _ _) ?_
    rw [List.length_map]; exact List.length_take_le' ..
  refine dr_some (ldq hA2 (k := .sl) g.lS rfl ?_)
  refine (rdSide hA2 hg.vL).ix rfl rfl hx fun b o _ hc => ld_cell (k := .str) x.1 (hc 0 (by decide)) (ld_cell (k := .sl) x.2.1 (hc 1 (by decide)) (ld_cell (k := .bool) x.2.2.out (hc 2 (by decide)) (ld_cell (k := .bool) x.2.2.stopped (hc 3 (by decide)) (ld_cell (k := .bool) x.2.2.stops (hc 4 (by decide)) (ld_cell (k := .int .i64) x.2.2.stop (hc 5 (by decide)) ?_)))))
  have hA3 : At w0 D ([g.parts.flatten, ro] : List BL).flatten u := by simpa using hA1
  refine hA3.alP fun b23 w24 _ hA24 _ => ?_
  refine hA24.stP (i := 2) (b := b23) rfl (by simp) fun w25 hA25 _ => ?_
  have hA25 : At w0 D ([g.parts.flatten, ro, [(b23, ERb.f x)]] : List BL).flatten w25 := hA25
  have lb : ∀ {k : Kd} {o : Nat} (y : Den k) {K : Den k → Prop}, (ERb.f x)[o]? = some (LV.mk k y).toV → K y → Go.Vw.ld w25 k b23 o K := fun {k o} y {K} hy hK => hA25.ldP (i := 2) (b := b23) (c := ERb.f x) rfl y hy hK
  have hA25' : At w0 D (g.parts.flatten ++ ro) w25 := hA25.sub (by simp)
  refine join1 (fun c v => v = w25 ∧ c = !hasP x.1 pre) ?_ ?_
  · intro k26 hk26
    refine lb (k := .str) x.1 rfl ?_
    refine ifK_intro (fun h => ?_) fun h => ?_
    · have hl : ¬ pre.length ≤ x.1.length := by have h : (x.1.length : Int) < (pre.length : Int) := of_decide_eq_true h; omega
      refine hk26 _ _ ⟨rfl, ?_⟩
      unfold hasP; rw [decide_eq_false hl]; rfl
    · have hl : pre.length ≤ x.1.length := by have h : ¬ (x.1.length : Int) < (pre.length : Int) := of_decide_eq_false h; omega
      refine lb (k := .str) x.1 rfl ⟨0, pre.length, rfl, rfl, Nat.zero_le _, hl, hk26 _ _ ⟨rfl, ?_⟩⟩
      unfold hasP; rw [decide_eq_true hl]; simp
  rintro c v ⟨rfl, rfl⟩
  refine ifK_intro (fun hp => ?_) fun hp => ?_
  · have hp : hasP x.1 pre = false := by simpa using hp
    have e : infoOf pre (x.1, x.2.2) = none := by unfold infoOf; rw [if_neg (by rw [hp]; simp)]
    rw [e] at hk11
    exact hk11 _ _ ⟨ro, hA25', by rw [List.append_nil]; exact hv⟩
  have hp : hasP x.1 pre = true := by simpa using hp
  have e : infoOf pre (x.1, x.2.2) = some (x.1, (if x.2.2.out then 2 else 1), (x.2.2.data.length : Int)) := by unfold infoOf; rw [if_pos hp]
  rw [e] at hk11
  refine lb (k := .bool) x.2.2.out rfl ?_
  refine join1 (a := .int .i64) (fun (n : Int) v' => n = (if x.2.2.out then 2 else 1) ∧ v' = v) ?_ ?_
  · intro k33 hk33
    exact ifK_intro (fun ho => hk33 _ _ ⟨by rw [ho]; rfl, rfl⟩) fun ho => hk33 _ _ ⟨by rw [ho]; rfl, rfl⟩
  rintro st v' ⟨rfl, rfl⟩
  refine lb (k := .str) x.1 rfl (lb (k := .sl) x.2.1 rfl ?_)
  rw [hxl]
  refine hA25'.alK fun b38 w39 _ hA39 _ => ?_
  have hb38 : Blk w39 b38 (EBi.f (x.1, (if x.2.2.out then 2 else 1), (x.2.2.data.length : Int))) := hA39.own (b38, _) (by simp [EBi, LV.toV])
  have hA40 : At w0 D (g.parts.flatten ++ ro) w39 := hA39.sub (List.sublist_append_left _ _)
  exact appL hA40 hv (rd_one hb38) rfl rfl (by simp only [List.length_cons, List.length_nil]; omega) fun t' ro' w44 hA44 hv44 _ _ => hk11 _ _ ⟨ro', hA44, hv44⟩
end
end Go.Proofs.Ytjldecomhpngmaa
