/- One step of a script: told. -/
import Derived.Test.YtjldecomhpngmaaVP
namespace Go.Proofs.Ytjldecomhpngmaa
open Go.Vw

section
variable {w0 : World} {α β : Type} {X : SideS α} {Y : SideS β} {lim : β → Prop} {limS : α → Prop} {J : α → β → BL → World → Prop} {p q : PA} {R : Nat → α → β → Prop} {a : α} {b : β} {w : World}
theorem flat_perm {γ : Type} (L : List (List γ)) (x y : List Nat) (h : x.Perm y) : (x.flatMap fun i => L.getD i []).Perm (y.flatMap fun i => L.getD i []) := h.flatMap_right _
theorem app_nil_m {m : BL} (h : J a b (m ++ []) w) : J a b m w := by rw [List.append_nil] at h; exact h
theorem parts_app (S : WS) (kept ro : BL) : (S.parts kept).flatten ++ ro = (S.parts (kept ++ ro)).flatten := by simp [WS.parts]
theorem parts_app2 (S : WS) (kept ro : BL) : (S.parts kept ++ [ro]).flatten = (S.parts (kept ++ ro)).flatten := by simp [WS.parts]
theorem _root_.Go.Vw.At.frame {u w' : World} {m' x m'' : BL} (h : At u (Ks (m' ++ x)) (m' ++ x) u) (h2 : At u (Ks m') m'' w') : At u (Ks (m' ++ x)) (m'' ++ x) w' := by
  have hx : ∀ y ∈ x, ¬ Ks m' y.1 := by
    rintro y hy ⟨q, hq, e⟩
    have hnd := h.nodup
    rw [List.map_append, List.nodup_append] at hnd
    exact hnd.2.2 _ (List.mem_map_of_mem hq) _ (List.mem_map_of_mem hy) e
  have hnd := h.nodup
  rw [List.map_append, List.nodup_append] at hnd
  refine ⟨h2.mod.mono fun k _ hk => by obtain ⟨q, hq, e⟩ := hk; exact ⟨q, List.mem_append_left _ hq, e⟩, ?_, ?_, ?_⟩
  · intro y hy
    rcases List.mem_append.1 hy with hy | hy
    · exact h2.own y hy
    · exact h2.mod.blk (h.own y (List.mem_append_right _ hy)) (hx y hy)
  · rw [List.map_append, List.nodup_append]
    refine ⟨h2.nodup, hnd.2.1, ?_⟩
    rintro k hk k' hk' rfl
    obtain ⟨q, hq, e⟩ := List.mem_map.1 hk
    obtain ⟨y, hy, e'⟩ := List.mem_map.1 hk'
    have hlt := (h.own y (List.mem_append_right _ hy)).lt
    have := h2.wr q hq (by rw [e, ← e']; exact hlt)
    rw [e, ← e'] at this
    exact hx y hy this
  · intro y hy hlt
    rcases List.mem_append.1 hy with hy | hy
    · obtain ⟨q, hq, e⟩ := h2.wr y hy hlt
      exact ⟨q, List.mem_append_left _ hq, e⟩
    · exact ⟨y, List.mem_append_right _ hy, rfl⟩
/-- in a frame: from a store's blocks and the caller's -/
theorem Two.framed (hT : Two w0 X Y lim limS J p q) {m m' x : BL} (hJ : J a b m w) (hm : (m' ++ x).Perm m) : At w (Ks m') m' w ∧ ∀ m'' w', At w (Ks m') m'' w' → J a b (m'' ++ x) w' := by
  have hJ' : J a b (m' ++ x) w := hT.put hJ ((hT.base hJ).perm hm)
  have hB := hT.base hJ'
  refine ⟨⟨Mod.refl _ _, fun y hy => hB.own y (List.mem_append_left _ hy), ?_, fun y hy _ => ⟨y, hy, rfl⟩⟩, fun m'' w' h => hT.put hJ' (hB.frame h)⟩
  have hnd := hB.nodup
  rw [List.map_append, List.nodup_append] at hnd
  exact hnd.1
theorem told_gen (hT : Two w0 X Y lim limS J p q) (hAl : Alike X Y lim limS R) {S : WS} {kept : BL} (hJ : J a b (S.parts kept).flatten w) (hS : S.ok kept) (hp : S.p = p) (hq : S.q = q) {k : Nat} (hR : R k a b) (hk : k ≤ 1048576)
    (hlB : S.lB.length ≤ 4194304) (hlL : S.lL.length ≤ 4194304) {op : Int} {n : Str} {N j : Int} {s : Sl} {mask : Int} {d : List Int} (hn : n.length ≤ 1099511627776) (hd : RdS w0 EU s d) (hdl : d.length ≤ 1048576) (hby : ∀ x ∈ d, 0 ≤ x ∧ x < 256) (hN : N ≤ 9223372036854775807) (hm0 : 0 ≤ mask) (hm1 : mask < 4294967296) {K : Bool → World → Prop}
    (hK : ∀ a' b' (S' : WS) kept' w', J a' b' (S'.parts kept').flatten w' → S'.ok kept' → S'.p = S.p → S'.q = S.q → S'.bw = S.bw → R (k + 1) a' b' → S'.lB.length ≤ S.lB.length + 2 → S'.lL.length ≤ S.lL.length + 2 → K true w') :
    callK Try.prog 25 [.leaf (.ptr (some (S.bw, 0))), .agg [.int .i64 op, .str n, .int .i64 N, .int .i64 j, .sl s, .int .u32 mask]] w (.one (.leaf .bool)) K := by
  refine go_winnowlaw5_World_told _ _ _ _ _ _ _ _ _ ?_
  refine hT.alK hJ fun b8 w9 hJ9 => ?_
  have hJ9 : J a b (S.parts (kept ++ [(b8, sC op n N j s mask)])).flatten w9 := by rw [← parts_app]; exact hJ9
  have hS9 : S.ok (kept ++ [(b8, sC op n N j s mask)]) := hS.mono fun x hx => List.mem_append_left _ hx
  have h8k : (b8, sC op n N j s mask) ∈ kept ++ [(b8, sC op n N j s mask)] := by simp
  generalize hkk : kept ++ [(b8, sC op n N j s mask)] = kept1 at hJ9 hS9 h8k
  have hw : ∀ {kp : BL}, (S.bw, S.c) ∈ (S.parts kp).flatten := by simp [WS.parts]
  have h8 : (b8, sC op n N j s mask) ∈ (S.parts kept1).flatten := by simp [WS.parts, h8k]
  have hc0 : S.c[0]? = some (LV.ptr p).toV := by rw [← hp]; rfl
  have hc1 : S.c[1]? = some (LV.ptr q).toV := by rw [← hq]; rfl
  have hlim := hAl.lim hR (by omega)
  have fin : ∀ {a' b' w'}, J a' b' (S.parts kept1).flatten w' → R (k + 1) a' b' → K true w' := fun hJ' hR' => hK _ _ S kept1 _ hJ' hS9 rfl rfl rfl hR' (by omega) (by omega)
  refine hT.ld hJ9 h8 (k := .int .i64) op rfl ?_
  refine ifK_intro (fun _ => ?_) fun _ => ifK_intro (fun _ => ?_) fun _ => ifK_intro (fun _ => ?_) fun _ => ifK_intro (fun _ => ?_) fun _ => ifK_intro (fun _ => ?_) fun _ => ifK_intro (fun _ => ?_) fun _ => ifK_intro (fun _ => ?_) fun _ => ifK_intro (fun _ => ?_) fun _ => ifK_intro (fun _ => ?_) fun _ => ifK_intro (fun _ => ?_) fun _ => ifK_intro (fun _ => ?_) fun _ => ?_
  · -- Create
    have hJd := hT.drew hJ9
    refine ⟨nk _, dr_some (hT.ldD hJd hw (k := .ptr) p hc0 (hT.ldD hJd h8 (k := .str) n rfl (dr_some (hT.ldD hJd hw (k := .ptr) q hc1 (hT.ldD hJd h8 (k := .str) n rfl ?_)))))⟩
    refine hT.sCreate hJd fun w1 hJ1 hM1 => ⟨hM1, hT.rCreate hJ1 hlim hn fun w2 hJ2 hM2 => ⟨modnk hM1 hM2, ?_⟩⟩
    obtain ⟨h1, h2⟩ := hAl.create hR n
    rw [boolK h1]; exact fin hJ2 h2
  · -- Append
    refine hT.ld hJ9 h8 (k := .int .i64) op rfl (hT.ld hJ9 h8 (k := .str) n rfl (hT.ld hJ9 h8 (k := .int .i64) N rfl (hT.ld hJ9 h8 (k := .int .i64) j rfl (hT.ld hJ9 h8 (k := .sl) s rfl (hT.ld hJ9 h8 (k := .int .u32) mask rfl ?_)))))
    refine appended_gen hT hAl hJ9 hw hc0 hc1 hR hn hd hdl hby fun a' b' m' w' hJ' hR' => ?_
    rw [parts_app] at hJ'
    exact hK a' b' S _ w' hJ' (hS9.mono fun x hx => List.mem_append_left _ hx) rfl rfl rfl hR' (by omega) (by omega)
  · -- Publish
    have hJd := hT.drew hJ9
    refine ⟨nk _, dr_some (hT.ldD hJd hw (k := .ptr) p hc0 (hT.ldD hJd h8 (k := .str) n rfl (dr_some (hT.ldD hJd hw (k := .ptr) q hc1 (hT.ldD hJd h8 (k := .str) n rfl ?_)))))⟩
    refine hT.sPublish hJd fun w1 hJ1 hM1 => ⟨hM1, hT.rPublish hJ1 hn fun w2 hJ2 hM2 => ⟨modnk hM1 hM2, ?_⟩⟩
    obtain ⟨h1, h2⟩ := hAl.publish hR n
    rw [boolK h1]; exact fin hJ2 h2
  · -- Read
    have hJd := hT.drew hJ9
    refine ⟨nk _, dr_some (hT.ldD hJd hw (k := .ptr) p hc0 (hT.ldD hJd h8 (k := .str) n rfl (hT.ldD hJd h8 (k := .int .i64) N rfl (hT.ldD hJd h8 (k := .int .i64) j rfl ?_))))⟩
    refine hT.sRead hJd hN fun s1 ro1 w1 hJ1 hM1 hv1 hl1 => ⟨hM1, ?_⟩
    rw [parts_app] at hJ1
    have h81 : ∀ {ro : BL}, (b8, sC op n N j s mask) ∈ (S.parts (kept1 ++ ro)).flatten := by simp [WS.parts, h8k]
    have hJd1 := hT.drew hJ1
    refine ⟨nk _, dr_some (hT.ldD hJd1 hw (k := .ptr) q hc1 (hT.ldD hJd1 h81 (k := .str) n rfl (hT.ldD hJd1 h81 (k := .int .i64) N rfl (hT.ldD hJd1 h81 (k := .int .i64) j rfl ?_))))⟩
    refine hT.rRead hJd1 hN hn fun s2 ro2 w2 hJ2 hM2 hv2 hl2 => ⟨hM2, ?_⟩
    rw [parts_app] at hJ2
    obtain ⟨e1, e2, hR2⟩ := hAl.read hR n N j hN
    generalize (X.read a n N j).2.2 = a2 at hJ2 hR2
    generalize (Y.read b n N j).2.2 = b2 at hJ2 hR2
    have h82 : ∀ {ro ro' : BL}, (b8, sC op n N j s mask) ∈ (S.parts (kept1 ++ ro ++ ro')).flatten := by simp [WS.parts, h8k]
    have hJd2 := hT.drew hJ2
    refine ⟨nk _, dr_some (hT.ldD hJd2 hw (k := .ptr) p hc0 (hT.ldD hJd2 h82 (k := .str) n rfl (hT.ldD hJd2 h82 (k := .int .i64) N rfl (hT.ldD hJd2 h82 (k := .int .i64) j rfl ?_))))⟩
    refine hT.sRead hJd2 hN fun s3 ro3 w3 hJ3 hM3 hv3 hl3 => ⟨hM3, ?_⟩
    rw [parts_app] at hJ3
    have h83 : ∀ {ro ro' ro'' : BL}, (b8, sC op n N j s mask) ∈ (S.parts (kept1 ++ ro ++ ro' ++ ro'')).flatten := by simp [WS.parts, h8k]
    have hJd3 := hT.drew hJ3
    refine ⟨nk _, dr_some (hT.ldD hJd3 hw (k := .ptr) q hc1 (hT.ldD hJd3 h83 (k := .str) n rfl (hT.ldD hJd3 h83 (k := .int .i64) N rfl (hT.ldD hJd3 h83 (k := .int .i64) j rfl ?_))))⟩
    refine hT.rRead hJd3 hN hn fun s4 ro4 w4 hJ4 hM4 hv4 hl4 => ⟨hM4, ?_⟩
    rw [parts_app] at hJ4
    obtain ⟨e3, e4, hR4⟩ := hAl.read hR2 n N j hN
    generalize (X.read a2 n N j).2.2 = a4 at hJ4 hR4
    generalize (Y.read b2 n N j).2.2 = b4 at hJ4 hR4
    have hrd : ∀ {x : Sl} {l : List Int} {ro : BL} {m : BL} {a' : α} {b' : β} {u : World}, VecL ro EU x l → (∀ y ∈ ro, y ∈ m) → J a' b' m u → RdS u EU x l := fun hv hm hJ => hv.rd fun y hy => (hT.at_ hJ).own y (hm y hy)
    have hin : ∀ {S : WS} {kp : BL} {y : Nat × List Value}, y ∈ kp → y ∈ (S.parts kp).flatten := fun h => by simp [WS.parts, h]
    refine join1 (fun c u => c = true ∧ J a4 b4 (S.parts (kept1 ++ ro1 ++ ro2 ++ ro3 ++ ro4)).flatten u) ?_ ?_
    · intro k85 hk85
      refine ifK_t (boolK e1) (same_ok (hrd hv1 (fun y hy => hin (by simp [hy])) hJ4) (hrd hv2 (fun y hy => hin (by simp [hy])) hJ4) (by omega) (by omega) fun u hM => ?_)
      rw [decide_eq_true e2]
      exact ifK_t rfl (hk85 _ _ ⟨boolK e3, hT.quiet hJ4 hM⟩)
    rintro c u5 ⟨rfl, hJ5⟩
    have eP : ((S.parts (kept1 ++ ro2 ++ ro4) ++ [ro1]).flatten ++ ro3).Perm (S.parts (kept1 ++ ro1 ++ ro2 ++ ro3 ++ ro4)).flatten := by
      have h := flat_perm [[(S.bw, S.c)], S.rB, S.rL, S.rG, S.rW, kept1, ro1, ro2, ro3, ro4] [0, 1, 2, 3, 4, 5, 7, 9, 6, 8] [0, 1, 2, 3, 4, 5, 6, 7, 8, 9] (by decide)
      simpa [WS.parts] using h
    obtain ⟨hB5, hput5⟩ := hT.framed hJ5 eP
    refine keepBytes_ok hB5 (hS9.mono fun x hx => by simp [hx]) hv1 (by omega) (by omega) fun S6 kept6 w6 hA6 hS6 hp6 hq6 hb6 hl6 hL6 hm6 => ?_
    have hJ6 := hput5 _ _ hA6
    refine join1 (fun c u => c = true ∧ J a4 b4 ((S6.parts kept6).flatten ++ ro3) u) ?_ ?_
    · intro k91 hk91
      refine ifK_t rfl (same_ok (hrd hv3 (fun y hy => List.mem_append_right _ hy) hJ6) (hrd hv4 (fun y hy => List.mem_append_left _ (hin (hm6 y (by simp [hy])))) hJ6) (by omega) (by omega) fun u hM => hk91 _ _ ⟨?_, hT.quiet hJ6 hM⟩)
      exact decide_eq_true e4
    rintro c u7 ⟨rfl, hJ7⟩
    have hB7 : At u7 (Ks ((S6.parts kept6).flatten ++ ro3)) (S6.parts kept6 ++ [ro3]).flatten u7 := (hT.base hJ7).perm (by rw [List.flatten_append]; simp)
    rw [← hb6]
    refine keepBytes_ok hB7 hS6 hv3 (by omega) (by omega) fun S8 kept8 w8 hA8 hS8 hp8 hq8 hb8 hl8 hL8 hm8 => ?_
    have hJ8 := hT.put hJ7 hA8
    exact hK a4 b4 S8 kept8 w8 hJ8 hS8 (hp8.trans hp6) (hq8.trans hq6) (hb8.trans hb6) (hAl.mono hR4) (by omega) (by rw [hL8, hL6]; omega)
  · -- Size
    have hJd := hT.drew hJ9
    refine ⟨nk _, dr_some (hT.ldD hJd hw (k := .ptr) p hc0 (hT.ldD hJd h8 (k := .str) n rfl ?_))⟩
    refine hT.sSize hJd fun w1 hJ1 hM1 => ⟨hM1, ?_⟩
    have hJd1 := hT.drew hJ1
    refine ⟨nk _, dr_some (hT.ldD hJd1 hw (k := .ptr) q hc1 (hT.ldD hJd1 h8 (k := .str) n rfl ?_))⟩
    refine hT.rSize hJd1 hn fun w2 hJ2 hM2 => ⟨hM2, ?_⟩
    have he := hAl.size hR n
    refine join1 (fun c u => c = true ∧ J a b (S.parts kept1).flatten u) ?_ ?_
    · intro kk hkk'
      refine ifK_t (boolK (by rw [he])) (hkk' _ _ ⟨boolK (by rw [he]), hJ2⟩)
    · rintro c u ⟨rfl, hJ3⟩
      exact fin hJ3 (hAl.mono hR)
  · -- Delete
    have hJd := hT.drew hJ9
    refine ⟨nk _, dr_some (hT.ldD hJd hw (k := .ptr) p hc0 (hT.ldD hJd h8 (k := .str) n rfl (dr_some (hT.ldD hJd hw (k := .ptr) q hc1 (hT.ldD hJd h8 (k := .str) n rfl ?_)))))⟩
    refine hT.sDelete hJd fun w1 hJ1 hM1 => ⟨hM1, hT.rDelete hJ1 hlim hn fun w2 hJ2 hM2 => ⟨modnk hM1 hM2, ?_⟩⟩
    obtain ⟨h1, h2⟩ := hAl.delete hR n
    rw [boolK h1]; exact fin hJ2 h2
  · -- List
    have hJd := hT.drew hJ9
    refine ⟨nk _, dr_some (hT.ldD hJd hw (k := .ptr) p hc0 (hT.ldD hJd h8 (k := .str) n rfl ?_))⟩
    refine hT.sList hJd (hAl.limS hR (by omega)) hn fun s1 ro1 w1 hJ1 hM1 hv1 hl1 => ⟨hM1, ?_⟩
    rw [parts_app] at hJ1
    have h81 : ∀ {ro : BL}, (b8, sC op n N j s mask) ∈ (S.parts (kept1 ++ ro)).flatten := by simp [WS.parts, h8k]
    have hJd1 := hT.drew hJ1
    refine ⟨nk _, dr_some (hT.ldD hJd1 hw (k := .ptr) p hc0 (hT.ldD hJd1 h81 (k := .str) n rfl ?_))⟩
    refine hT.sList hJd1 (hAl.limS hR (by omega)) hn fun s2 ro2 w2 hJ2 hM2 hv2 _ => ⟨hM2, ?_⟩
    rw [parts_app] at hJ2
    have h82 : ∀ {ro ro' : BL}, (b8, sC op n N j s mask) ∈ (S.parts (kept1 ++ ro ++ ro')).flatten := by simp [WS.parts, h8k]
    have hJd2 := hT.drew hJ2
    refine ⟨nk _, dr_some (hT.ldD hJd2 hw (k := .ptr) q hc1 (hT.ldD hJd2 h82 (k := .str) n rfl ?_))⟩
    refine hT.rList hJd2 hlim hn fun s3 ro3 w3 hJ3 hM3 hv3 => ⟨hM3, ?_⟩
    rw [parts_app] at hJ3
    have he := hAl.list hR n
    have hrd : ∀ {x : Sl} {l : List (Str × Int × Int)} {ro : BL} {m : BL} {a' : α} {b' : β} {u : World}, VecL ro EBi x l → (∀ y ∈ ro, y ∈ m) → J a' b' m u → RdS u EBi x l := fun hv hm hJ => hv.rd fun y hy => (hT.at_ hJ).own y (hm y hy)
    have hin : ∀ {S : WS} {kp : BL} {y : Nat × List Value}, y ∈ kp → y ∈ (S.parts kp).flatten := fun h => by simp [WS.parts, h]
    refine sameList_ok (hrd hv1 (fun y hy => hin (by simp [hy])) hJ3) (hrd hv3 (fun y hy => hin (by simp [hy])) hJ3) (by omega) fun u5 hM5 => ?_
    rw [decide_eq_true he]
    have hJ5 := hT.quiet hJ3 hM5
    have eP : ((S.parts (kept1 ++ ro3) ++ [ro1]).flatten ++ ro2).Perm (S.parts (kept1 ++ ro1 ++ ro2 ++ ro3)).flatten := by
      have h := flat_perm [[(S.bw, S.c)], S.rB, S.rL, S.rG, S.rW, kept1, ro1, ro2, ro3] [0, 1, 2, 3, 4, 5, 8, 6, 7] [0, 1, 2, 3, 4, 5, 6, 7, 8] (by decide)
      simpa [WS.parts] using h
    obtain ⟨hB5, hput5⟩ := hT.framed hJ5 eP
    refine keepList_ok hB5 (hS9.mono fun x hx => by simp [hx]) hv1 (by omega) (by omega) fun S6 kept6 w6 hA6 hS6 hp6 hq6 hb6 hl6 hL6 hm6 => ?_
    have hJ6 := hput5 _ _ hA6
    refine join1 (fun c u => c = true ∧ J a b ((S6.parts kept6).flatten ++ ro2) u) ?_ ?_
    · intro k91 hk91
      refine ifK_t rfl (sameList_ok (hrd hv2 (fun y hy => List.mem_append_right _ hy) hJ6) (hrd hv3 (fun y hy => List.mem_append_left _ (hin (hm6 y (by simp [hy])))) hJ6) (by omega) fun u hM => hk91 _ _ ⟨?_, hT.quiet hJ6 hM⟩)
      exact decide_eq_true he
    rintro c u7 ⟨rfl, hJ7⟩
    have hB7 : At u7 (Ks ((S6.parts kept6).flatten ++ ro2)) (S6.parts kept6 ++ [ro2]).flatten u7 := (hT.base hJ7).perm (by rw [List.flatten_append]; simp)
    rw [← hb6]
    refine keepList_ok hB7 hS6 hv2 (by omega) (by omega) fun S8 kept8 w8 hA8 hS8 hp8 hq8 hb8 hl8 hL8 hm8 => ?_
    have hJ8 := hT.put hJ7 hA8
    exact hK a b S8 kept8 w8 hJ8 hS8 (hp8.trans hp6) (hq8.trans hq6) (hb8.trans hb6) (hAl.mono hR) (by rw [hL8, hL6]; omega) (by omega)
  · -- StopAt
    have hJd := hT.drew hJ9
    refine ⟨nk _, dr_some (hT.ldD hJd hw (k := .ptr) p hc0 (hT.ldD hJd h8 (k := .str) n rfl (hT.ldD hJd h8 (k := .int .i64) N rfl (dr_some (hT.ldD hJd hw (k := .ptr) q hc1 (hT.ldD hJd h8 (k := .str) n rfl (hT.ldD hJd h8 (k := .int .i64) N rfl ?_)))))))⟩
    refine hT.sStop hJd hN fun w1 hJ1 hM1 => ⟨hM1, hT.rStop hJ1 hN hn fun w2 hJ2 hM2 => ⟨modnk hM1 hM2, ?_⟩⟩
    obtain ⟨h1, h2⟩ := hAl.stop hR n N
    rw [boolK h1]; exact fin hJ2 h2
  · -- Flip
    have hJd := hT.drew hJ9
    refine ⟨nk _, dr_some (hT.ldD hJd hw (k := .ptr) p hc0 (hT.ldD hJd h8 (k := .str) n rfl (hT.ldD hJd h8 (k := .int .i64) N rfl (hT.ldD hJd h8 (k := .int .u32) mask rfl (dr_some (hT.ldD hJd hw (k := .ptr) q hc1 (hT.ldD hJd h8 (k := .str) n rfl (hT.ldD hJd h8 (k := .int .i64) N rfl (hT.ldD hJd h8 (k := .int .u32) mask rfl ?_)))))))))⟩
    refine hT.sFlip hJd hm0 hm1 fun w1 hJ1 hM1 => ⟨hM1, hT.rFlip hJ1 hm0 hm1 hn fun w2 hJ2 hM2 => ⟨modnk hM1 hM2, ?_⟩⟩
    obtain ⟨h1, h2⟩ := hAl.flip hR n N mask hm0 hm1
    rw [boolK h1]; exact fin hJ2 h2
  · -- Resize
    refine join1 (fun c u => u = w9) ?_ ?_
    · intro kk hkk'
      refine hT.ld hJ9 h8 (k := .int .i64) N rfl (ifK_intro (fun _ => hT.ld hJ9 h8 (k := .int .i64) N rfl (hkk' _ _ rfl)) fun _ => hkk' _ _ rfl)
    rintro c u rfl
    refine join0 (fun u => ∃ N', J a b (S.parts (kept ++ [(b8, sC op n N' j s mask)])).flatten u) ?_ ?_
    · intro kk hkk'
      refine ifK_intro (fun _ => ?_) fun _ => hkk' _ ⟨N, by rw [hkk]; exact hJ9⟩
      rw [← hkk] at hJ9
      have hB : At u (Ks (S.parts (kept ++ [(b8, sC op n N j s mask)])).flatten) (S.parts kept ++ [[(b8, sC op n N j s mask)]]).flatten u := (hT.base hJ9).perm (by rw [parts_app2])
      refine hB.stP (i := 6) (b := b8) (c := sC op n N j s mask) rfl (by simp [sC]) fun u2 hA2 _ => hkk' _ ⟨1000000, ?_⟩
      have := hT.put hJ9 hA2
      rw [← parts_app2]; exact this
    rintro u2 ⟨N', hJ2⟩
    have hS2 : S.ok (kept ++ [(b8, sC op n N' j s mask)]) := hS.mono fun x hx => List.mem_append_left _ hx
    have h8' : (b8, sC op n N' j s mask) ∈ (S.parts (kept ++ [(b8, sC op n N' j s mask)])).flatten := by simp [WS.parts]
    have hJd := hT.drew hJ2
    refine ⟨nk _, dr_some (hT.ldD hJd hw (k := .ptr) p hc0 (hT.ldD hJd h8' (k := .str) n rfl (hT.ldD hJd h8' (k := .int .i64) N' rfl (dr_some (hT.ldD hJd hw (k := .ptr) q hc1 (hT.ldD hJd h8' (k := .str) n rfl (hT.ldD hJd h8' (k := .int .i64) N' rfl ?_)))))))⟩
    refine hT.sResize hJd fun w1 hJ1 hM1 => ⟨hM1, hT.rResize hJ1 hn fun w2 hJ2 hM2 => ⟨modnk hM1 hM2, ?_⟩⟩
    obtain ⟨h1, h2⟩ := hAl.resize hR n N'
    rw [boolK h1]
    exact hK _ _ S _ _ hJ2 hS2 rfl rfl rfl h2 (by omega) (by omega)
  · -- Meter
    have hJd := hT.drew hJ9
    refine ⟨nk _, dr_some (hT.ldD hJd hw (k := .ptr) p hc0 (dr_some (hT.ldD hJd hw (k := .ptr) q hc1 ?_)))⟩
    refine hT.sMeter hJd fun w1 hJ1 hM1 => ⟨hM1, hT.rMeter hJ1 fun w2 hJ2 hM2 => ⟨modnk hM1 hM2, ?_⟩⟩
    have he := hAl.meter hR
    refine eql_meter ⟨modnk hM1 hM2, ?_⟩
    have : ((X.meter a).1 == (Y.meter b).1 && (X.meter a).2.1 == (Y.meter b).2.1 && (X.meter a).2.2 == (Y.meter b).2.2) = true := by rw [he]; simp
    rw [this]
    exact fin hJ2 (hAl.mono hR)
  · exact fin hJ9 (hAl.mono hR)
end
end Go.Proofs.Ytjldecomhpngmaa
