/- ChainSplits: the walk. -/
import Derived.Test.YtjldecomhpngmaaDoorDG
namespace Go.Proofs.YtjldecomhpngmaaDoor
open Go.Vw

theorem ansL_len (T : Str) : (ansL T).length ≤ 256 := by
  unfold ansL ansS
  cases rfS T 0 with
  | none => exact Nat.zero_le _
  | some l =>
    simp only
    by_cases h : 256 < l.length
    · rw [if_pos h]; exact Nat.zero_le _
    · rw [if_neg h]; simp; omega
theorem rev_flat (l : List Str) : l.reverse.flatten.length = l.flatten.length := by
  rw [List.length_flatten, List.length_flatten, List.map_reverse, List.sum_reverse]
theorem chain_walk {w : World} {s : Sl} {l : List Str} (hr : RdS w EStr s l) (hl : l.length ≤ 1048576) (hT : l.flatten.length ≤ 1048576) {out : Str} (ho : out.length ≤ 1048576) (job : Int) {K : Bool → World → Prop} (hK : ∀ w', Mod F0 w w' → K true w') :
    callK Tryd.prog 3 [.leaf (.sl s), .leaf (.str out), .leaf (.int .i64 job)] w (.one (.leaf .bool)) K := by
  refine go_winnowlaw24_ChainSplits _ _ _ _ _ ?_
  refine spare_ok (m := []) (At.init w F0) hr (by omega) fun g ro w5 hA5 hvg => ?_
  rw [List.nil_append] at hA5
  have hgl : g.len = l.length + 2 := by rw [hvg.1]; simp
  have hgc := hvg.2.1
  have hcut : ∀ {g : Sl} {l : List Str} {u : World}, RdS u EStr g (l ++ [mk1, mk2]) → RdS u EStr (g.cut 1 0 l.length g.cap) l := fun {g l u} h => by
    have hc := h.has
    have hgl : g.len = l.length + 2 := by rw [h.len]; simp
    have := RdS.cutR h (lo := 0) (hi := l.length) (mx := g.cap) (Nat.zero_le _) (by simp) (by omega)
    rw [List.drop_zero, List.take_left] at this
    exact this
  have rdg : ∀ {m : BL} {u : World}, At w F0 (ro ++ m) u → RdS u EStr g (l ++ [mk1, mk2]) := fun hA => hvg.rd fun p hp => hA.own p (List.mem_append_left _ hp)
  have hrw : ∀ {m : BL} {u : World}, At w F0 m u → RdS u EStr s l := fun hA => hr.keep hA.mod fun _ _ => id
  rw [hr.len]
  refine ⟨0, l.length, g.cap, rfl, rfl, rfl, Nat.zero_le _, by omega, Nat.le_refl _, ?_⟩
  refine splits_ok hA5 (hcut (rdg (m := []) (by rw [List.append_nil]; exact hA5))) hl hT fun a7 roA w9 hA9 hvA => ?_
  refine ⟨0, l.length, g.cap, rfl, rfl, rfl, Nat.zero_le _, by omega, Nat.le_refl _, ?_⟩
  refine splits_ok hA9 (hcut (rdg hA9)) hl hT fun a11 roB w13 hA13 hvB => ?_
  refine refsplits_ok hA13 (hrw hA13) hl hT fun a14 roC w16 hA16 hvC => ?_
  have hA : At w F0 ([ro, roA, roB, roC] : List BL).flatten w16 := by simpa [List.append_assoc] using hA16
  clear hA16 hA13 hA9 hA5
  have hl256 := ansL_len l.flatten
  have rdV : ∀ {x : Sl} {v : List Spl} {rx : BL} {m : BL} {u : World}, VecL rx ESs x v → (∀ p ∈ rx, p ∈ m) → At w F0 m u → RdS u ESs x v := fun hv hm hA => hv.rd fun p hp => hA.own p (hm p hp)
  refine join1 (fun c u => c = false ∧ Mod F0 w16 u) ?_ ?_
  · intro k17 hk17
    refine ifK_f (by simp) (ifK_f (by simp) ?_)
    refine sameSplits_ok (rdV hvA (fun p hp => by simp [hp]) hA) (rdV hvC (fun p hp => by simp [hp]) hA) (by omega) fun u hM => ?_
    rw [decide_eq_true rfl]
    exact hk17 _ _ ⟨rfl, hM⟩
  rintro c u1 ⟨rfl, hM1⟩
  have hA := hA.keep0 hM1 fun _ => id
  refine ifK_f rfl ?_
  refine join0 (fun u => ∃ roA', At w F0 ([ro, roA', roB, roC] : List BL).flatten u ∧ VecL roA' ESs a7 (List.replicate (ansL l.flatten).length (-9, []))) ?_ ?_
  · intro k22 hk22
    have h1 := At.part (L := [ro, roA, roB, roC]) (i := 1) hA rfl
    exact fill_loop h1 hvA (y := ((-9 : Int), ([] : Str))) (vs := [.int .i64 (-9), .str []]) rfl rfl (by omega) fun roA' u hA' hv' => hk22 _ ⟨roA', Go.Vw.At.unpart (L := [ro, roA, roB, roC]) (i := 1) rfl hA', hv'⟩
  rintro u2 ⟨roA', hA2, hvA'⟩
  refine join0 (fun u => ∃ roX, At w F0 ([ro, roX, roB, roC] : List BL).flatten u) ?_ ?_
  · intro k30 hk30
    have h1 := At.part (L := [ro, roA', roB, roC]) (i := 1) hA2 rfl
    refine grow_loop h1 hvA' (y := ((-8 : Int), ([] : Str))) (vs := [.int .i64 (-8), .str []]) rfl rfl rfl (by simp; omega) fun s' old ro' u hA' hv' _ => hk30 _ ⟨old ++ ro', ?_⟩
    have hA3 : At w F0 ((([ro, roA', roB, roC] : List BL).eraseIdx 1).flatten ++ (old ++ ro')) u := by rw [← List.append_assoc]; exact hA'
    exact Go.Vw.At.unpart (L := [ro, roA', roB, roC]) (i := 1) rfl hA3
  rintro u3 ⟨roX, hA3⟩
  have hA3' : At w F0 (ro ++ (roX ++ (roB ++ roC))) u3 := by simpa using hA3
  refine join1 (fun c u => c = false ∧ Mod F0 u3 u) ?_ ?_
  · intro k40 hk40
    refine sameSplits_ok (rdV hvB (fun p hp => by simp [hp]) hA3) (rdV hvC (fun p hp => by simp [hp]) hA3) (by omega) fun u hM => ?_
    rw [decide_eq_true rfl]
    have hA4 := hA3'.keep0 hM fun _ => id
    refine ifK_f rfl (kept_ok (rdg hA4) (hrw hA4) (by omega) fun u' hM' => ifK_f rfl ?_)
    exact name_ok (by omega) job (refname_ok (by omega) job (hk40 _ _ ⟨by simp, mod0 hM hM'⟩))
  rintro c u4 ⟨rfl, hM4⟩
  have hA4 := hA3'.keep0 hM4 fun _ => id
  refine ifK_f rfl ?_
  have hA4 : At w F0 ([ro] : List BL).flatten u4 := by
    have := hA4.sub (List.sublist_append_left ro _)
    simpa using this
  have hA4 : At w F0 ([ro, []] : List BL).flatten u4 := by simpa using hA4
  refine join1 (a := .sl) (fun (t : Sl) u => ∃ roG roN, At w F0 ([roG, roN] : List BL).flatten u ∧ VecL roG EStr g (l.reverse ++ [mk1, mk2]) ∧ VecL roN EStr t l.reverse) ?_ ?_
  · intro k51 hk51
    refine loop2 (k1 := .sl) (k2 := .int .i64) (fun (t : Sl) (i : Int) u => ∃ (j : Nat) (roG roN : BL), i = j ∧ j ≤ l.length ∧ At w F0 ([roG, roN] : List BL).flatten u ∧ VecL roG EStr g (l.reverse.take j ++ (l.drop j ++ [mk1, mk2])) ∧ VecL roN EStr t (l.reverse.take j)) (fun _ i _ => (l.length - i).toNat) (x1 := ⟨none, 0, 0⟩) (x2 := 0) rfl rfl
      ⟨0, ro, [], rfl, Nat.zero_le _, hA4, by simpa using hvg, VecL.nil EStr⟩ ?_
    rintro t i u ⟨j, roG, roN, rfl, hj, hAu, hvG, hvN⟩
    refine ifK_intro (fun h => ?_) fun h => ?_
    rotate_left
    · have hge : l.length ≤ j := dge h
      have e1 : l.reverse.take j = l.reverse := List.take_of_length_le (by simp; omega)
      have e2 : l.drop j = [] := List.drop_eq_nil_of_le hge
      rw [e1, e2, List.nil_append] at hvG
      rw [e1] at hvN
      exact hk51 _ _ ⟨roG, roN, hAu, hvG, hvN⟩
    have hlt : j < l.length := dlt h
    have ei : w64 ((w64 ((l.length : Int) - 1)) - (j : Int)) = ((l.length - 1 - j : Nat) : Int) := by
      rw [w64_in (n := (l.length : Int) - 1) (by omega) (by omega), w64_in (by omega) (by omega)]; omega
    rw [ei]
    have hx : l[l.length - 1 - j]? = some (l[l.length - 1 - j]'(by omega)) := List.getElem?_eq_getElem (by omega)
    have hxr : l.reverse[j]? = l[l.length - 1 - j]? := List.getElem?_reverse hlt
    rw [hx] at hxr
    generalize (l[l.length - 1 - j]'(by omega)) = x at hx hxr
    refine (hrw hAu).ix rfl rfl hx fun b o _ hc => ld_cell (k := .str) x (hc 0 (by decide)) ?_
    have hjg : j < (l.reverse.take j ++ (l.drop j ++ [mk1, mk2])).length := by simp; omega
    have hgb : ∃ b, g.p = some (b, 0) := by
      rcases hvG.2.2 with ⟨_, _, e⟩ | ⟨b, rest, _, hp, _⟩
      · omega
      · exact ⟨b, hp⟩
    obtain ⟨bg, hpg⟩ := hgb
    refine ix_some hpg (by omega) (by omega) ?_ hgc
    have h1 := At.part (L := [roG, roN]) (i := 0) hAu rfl
    refine h1.setL hvG (k := j) hjg (y := x) (vs := [.str x]) rfl hpg fun roG' u2 hA' hvG' _ => ?_
    have hA2 : At w F0 ([roG', roN] : List BL).flatten u2 := Go.Vw.At.unpart (L := [roG, roN]) (i := 0) rfl hA'
    have hset : (l.reverse.take j ++ (l.drop j ++ [mk1, mk2])).set j x = l.reverse.take (j + 1) ++ (l.drop (j + 1) ++ [mk1, mk2]) := by
      have hlen : (l.reverse.take j).length = j := by simp; omega
      have hd : l.drop j = l[j] :: l.drop (j + 1) := List.drop_eq_getElem_cons hlt
      rw [List.set_append_right _ _ (by omega), hlen, Nat.sub_self, List.take_add_one, hxr, hd, List.cons_append, List.set_cons_zero]
      simp
    rw [hset] at hvG'
    have hgx : (l.reverse.take (j + 1) ++ (l.drop (j + 1) ++ [mk1, mk2]))[j]? = some x := by
      rw [← hset, List.getElem?_set]; simp; omega
    have hrG : RdS u2 EStr g (l.reverse.take (j + 1) ++ (l.drop (j + 1) ++ [mk1, mk2])) := hvG'.rd fun p hp => hA2.own p (by simp [hp])
    refine hrG.ix rfl rfl hgx fun b o _ hc => ld_cell (k := .str) x (hc 0 (by decide)) ?_
    refine hA2.alP fun b65 u3 _ hA3 _ => ?_
    have hb : Blk u3 b65 (EStr.f x) := hA3.blkP (i := 2) rfl
    have hA3' : At w F0 (roG' ++ roN) u3 := hA3.sub (by simp)
    refine appL hA3' hvN (rd_one hb) rfl rfl (by simp; omega) fun t' roN' u4 hA4 hvN' _ _ => ⟨⟨j + 1, roG', roN', step64 (by omega), by omega, by simpa using hA4, hvG', ?_⟩, by rw [step64 (by omega)]; omega⟩
    rw [List.take_add_one, hxr]; exact hvN'
  rintro t u5 ⟨roG, roN, hA5, hvG, hvN⟩
  have hA5' : At w F0 (roG ++ roN) u5 := by simpa using hA5
  have hrl : l.reverse.length = l.length := by simp
  have hrf := rev_flat l
  have hrG : RdS u5 EStr g (l.reverse ++ [mk1, mk2]) := hvG.rd fun p hp => hA5'.own p (List.mem_append_left _ hp)
  refine ⟨0, l.length, g.cap, rfl, rfl, rfl, Nat.zero_le _, by omega, Nat.le_refl _, ?_⟩
  have hc := hcut hrG
  rw [hrl] at hc
  refine splits_ok hA5' hc (by omega) (by omega) fun a72 roD w74 hA74 hvD => ?_
  have hrN : RdS w74 EStr t l.reverse := hvN.rd fun p hp => hA74.own p (by simp [hp])
  refine refsplits_ok hA74 hrN (by omega) (by omega) fun a75 roE w77 hA77 hvE => ?_
  have hl256' := ansL_len l.reverse.flatten
  refine join1 (fun c u => c = true ∧ Mod F0 w u) ?_ (by rintro c u ⟨rfl, h⟩; exact hK u h)
  intro k78 hk78
  refine ifK_t (by simp) (sameSplits_ok (rdV hvD (fun p hp => by simp [hp]) hA77) (rdV hvE (fun p hp => by simp [hp]) hA77) (by omega) fun u hM => ?_)
  rw [decide_eq_true rfl]
  exact hk78 _ _ ⟨rfl, mod0 hA77.mod hM⟩
end Go.Proofs.YtjldecomhpngmaaDoor
