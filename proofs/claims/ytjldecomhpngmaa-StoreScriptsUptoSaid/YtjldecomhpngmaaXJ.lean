/- At the end: all blobs of both. -/
import Derived.Test.YtjldecomhpngmaaXI
namespace Go.Proofs.Ytjldecomhpngmaa
open Go.Vw

section
variable {w0 : World} {α β : Type} {X : SideS α} {Y : SideS β} {lim : β → Prop} {limS : α → Prop} {J : α → β → BL → World → Prop} {p q : PA} {R : Nat → α → β → Prop} {a : α} {b : β} {w : World}
theorem whole_ok (hT : Two w0 X Y lim limS J p q) (hAl : Alike X Y lim limS R) (hnm : ∀ {k a b}, R k a b → ∀ n, ∀ x ∈ Y.list b n, x.1.length ≤ 40) {S : WS} {kept : BL} (hJ : J a b (S.parts kept).flatten w) (hS : S.ok kept) (hp : S.p = p) (hq : S.q = q) {k : Nat} (hR : R k a b) (hk : k ≤ 2097152) {K : Bool → World → Prop}
    (hK : ∀ a' b' kept' w', J a' b' (S.parts kept').flatten w' → S.ok kept' → K true w') : callK Try.prog 28 [.leaf (.ptr (some (S.bw, 0)))] w (.one (.leaf .bool)) K := by
  refine go_winnowlaw5_World_whole _ _ _ ?_
  have hw : ∀ {kp : BL}, (S.bw, S.c) ∈ (S.parts kp).flatten := by simp [WS.parts]
  have hc0 : S.c[0]? = some (LV.ptr p).toV := by rw [← hp]; rfl
  have hc1 : S.c[1]? = some (LV.ptr q).toV := by rw [← hq]; rfl
  have hlim := hAl.lim hR hk
  have hlimS := hAl.limS hR hk
  have hJd := hT.drew hJ
  refine ⟨nk _, dr_some (hT.ldD hJd hw (k := .ptr) p hc0 (dr_some (hT.ldD hJd hw (k := .ptr) q hc1 ?_)))⟩
  refine hT.sMeter hJd fun w1 hJ1 hM1 => ⟨hM1, hT.rMeter hJ1 fun w2 hJ2 hM2 => ⟨modnk hM1 hM2, ?_⟩⟩
  have he := hAl.meter hR
  refine neq_meter ⟨modnk hM1 hM2, ?_⟩
  refine ifK_f (by rw [he]; simp) ?_
  refine dr_some (hT.ld hJ2 hw (k := .ptr) q hc1 ?_)
  refine hT.rList hJ2 hlim (by simp) fun s3 ro3 w3 hJ3 _ hv3 => ?_
  rw [parts_app] at hJ3
  refine dr_some (hT.ld hJ3 hw (k := .ptr) p hc0 ?_)
  refine hT.sList hJ3 hlimS (by simp) fun s4 ro4 w4 hJ4 _ hv4 hl4 => ?_
  rw [parts_app] at hJ4
  have hin : ∀ {kp : BL} {y : Nat × List Value}, y ∈ kp → y ∈ (S.parts kp).flatten := fun h => by simp [WS.parts, h]
  have hrd : ∀ {x : Sl} {l : List (Str × Int × Int)} {ro : BL} {m : BL} {a' : α} {b' : β} {u : World}, VecL ro EBi x l → (∀ y ∈ ro, y ∈ m) → J a' b' m u → RdS u EBi x l := fun hv hm hJ => hv.rd fun y hy => (hT.at_ hJ).own y (hm y hy)
  have hel := hAl.list hR []
  refine sameList_ok (hrd hv4 (fun y hy => hin (by simp [hy])) hJ4) (hrd hv3 (fun y hy => hin (by simp [hy])) hJ4) (by omega) fun u5 hM5 => ?_
  rw [decide_eq_true hel]
  refine ifK_f rfl ?_
  have hJ5 := hT.quiet hJ4 hM5
  have hnmL := hnm hR []
  rw [hel] at hl4
  generalize Y.list b [] = L at hv3 hl4 hnmL
  have hS5 : S.ok (kept ++ ro3 ++ ro4) := hS.mono fun x hx => by simp [hx]
  have hr3 : ∀ x ∈ ro3, x ∈ kept ++ ro3 ++ ro4 := fun x hx => by simp [hx]
  generalize kept ++ ro3 ++ ro4 = kept5 at hJ5 hS5 hr3
  let I : World → Prop := fun u => ∃ a' b' kept', J a' b' (S.parts kept').flatten u ∧ S.ok kept' ∧ R k a' b' ∧ ∀ x ∈ ro3, x ∈ kept'
  refine join0 I ?_ (by rintro u ⟨a', b', kept', h1, h2, _, _⟩; exact hK a' b' kept' u h1 h2)
  intro k31 hk31
  refine loop1 (k := .int .i64) (fun (i : Int) u => I u ∧ ∃ j : Nat, i = j ∧ j ≤ L.length) (fun i _ => (L.length - i).toNat) (x := 0) rfl ⟨⟨a, b, kept5, hJ5, hS5, hR, hr3⟩, 0, rfl, Nat.zero_le _⟩ ?_
  rintro i u ⟨⟨a', b', kept', hJu, hSu, hRu, hr⟩, j, rfl, hj⟩
  rw [hv3.1]
  refine ifK_intro (fun h => ?_) fun h => hk31 _ ⟨a', b', kept', hJu, hSu, hRu, hr⟩
  have hlt : j < L.length := dlt h
  have hx : L[j]? = some L[j] := List.getElem?_eq_getElem hlt
  have hxn := hnmL L[j] (List.getElem_mem hlt)
  generalize L[j] = x at hx hxn
  have hJd := hT.drew hJu
  have hkey : ∀ {kp : BL} (_ : ∀ x ∈ ro3, x ∈ kp) {bb : Nat}, rk s3 bb → ¬ nk (S.parts kp).flatten bb := by
    intro kp hr bb hb hn
    obtain ⟨y, hy, e⟩ := hv3.key hb.2
    exact hn ⟨y, hin (hr y hy), e⟩
  refine ⟨nk _, dr_some (hT.ldD hJd hw (k := .ptr) p hc0 ?_)⟩
  refine (hrd hv3 (fun y hy => hin (hr y hy)) hJd).ix rfl rfl hx fun b1 o1 hk1 hcl1 => ldD_cell (k := .str) x.1 (hkey hr hk1) (hcl1 0 (by decide)) ?_
  refine (hrd hv3 (fun y hy => hin (hr y hy)) hJd).ix rfl rfl hx fun b2 o2 hk2 hcl2 => ldD_cell (k := .int .i64) x.2.2 (hkey hr hk2) (hcl2 2 (by decide)) ?_
  refine hT.sRead hJd (by decide) fun sa roa wa hJa hMa hva hla => ⟨hMa, ?_⟩
  rw [parts_app] at hJa
  have hra : ∀ x ∈ ro3, x ∈ kept' ++ roa := fun x hx => by simp [hr x hx]
  have hJe := hT.drew hJa
  refine ⟨nk _, dr_some (hT.ldD hJe hw (k := .ptr) q hc1 ?_)⟩
  refine (hrd hv3 (fun y hy => hin (hra y hy)) hJe).ix rfl rfl hx fun b1 o1 hk1 hcl1 => ldD_cell (k := .str) x.1 (hkey hra hk1) (hcl1 0 (by decide)) ?_
  refine (hrd hv3 (fun y hy => hin (hra y hy)) hJe).ix rfl rfl hx fun b2 o2 hk2 hcl2 => ldD_cell (k := .int .i64) x.2.2 (hkey hra hk2) (hcl2 2 (by decide)) ?_
  refine hT.rRead hJe (by decide) (by omega) fun sb rob wb hJb hMb hvb hlb => ⟨hMb, ?_⟩
  rw [parts_app] at hJb
  obtain ⟨e1, e2, hR2⟩ := hAl.read hRu x.1 0 (w64 (x.2.2 + 1)) (by decide)
  have hrdU : ∀ {z : Sl} {l : List Int} {ro : BL} {m : BL} {a' : α} {b' : β} {u : World}, VecL ro EU z l → (∀ y ∈ ro, y ∈ m) → J a' b' m u → RdS u EU z l := fun hv hm hJ => hv.rd fun y hy => (hT.at_ hJ).own y (hm y hy)
  refine join1 (fun c v => c = false ∧ J (X.read a' x.1 0 (w64 (x.2.2 + 1))).2.2 (Y.read b' x.1 0 (w64 (x.2.2 + 1))).2.2 (S.parts (kept' ++ roa ++ rob)).flatten v) ?_ ?_
  · intro k61 hk61
    refine ifK_f (by rw [e1]; simp) (same_ok (hrdU hva (fun y hy => hin (by simp [hy])) hJb) (hrdU hvb (fun y hy => hin (by simp [hy])) hJb) (by omega) (by omega) fun v hM => hk61 _ _ ⟨?_, hT.quiet hJb hM⟩)
    rw [decide_eq_true e2]; rfl
  rintro c v ⟨rfl, hJv⟩
  refine ifK_f rfl ⟨⟨⟨_, _, kept' ++ roa ++ rob, hJv, hSu.mono fun x hx => by simp [hx], hR2, fun x hx => by simp [hr x hx]⟩, j + 1, step64 (by omega), by omega⟩, by rw [step64 (by omega)]; omega⟩
end
end Go.Proofs.Ytjldecomhpngmaa
