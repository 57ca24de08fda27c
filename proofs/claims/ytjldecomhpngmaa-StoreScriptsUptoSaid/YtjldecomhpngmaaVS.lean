/- A nil store: every call of both answers alike; StoreNone. -/
import Derived.Test.YtjldecomhpngmaaVQ
namespace Go.Proofs.Ytjldecomhpngmaa
open Go.Vw

def NilS : SideS Unit := ⟨fun _ _ => (1, ()), fun _ _ _ => (1, ()), fun _ _ => (1, ()), fun _ _ _ _ => (1, [], ()), fun _ _ => (0, 1), fun _ _ => (1, ()), fun _ _ => [], fun _ _ _ => (1, ()), fun _ _ _ _ => (1, ()), fun _ _ _ => (1, ()), fun _ => (0, 0, 0)⟩
theorem nil_alike : Alike NilS NilS (fun _ => True) (fun _ => True) (fun _ _ _ => True) :=
  ⟨fun _ _ => trivial, fun _ _ => trivial, fun _ _ => ⟨rfl, trivial⟩, fun _ _ _ => ⟨rfl, trivial⟩, fun _ _ => ⟨rfl, trivial⟩, fun _ _ _ _ _ => ⟨rfl, rfl, trivial⟩, fun _ _ => rfl, fun _ _ => ⟨rfl, trivial⟩, fun _ _ => rfl, fun _ _ _ => ⟨rfl, trivial⟩, fun _ _ _ _ _ _ => ⟨rfl, trivial⟩, fun _ _ _ => ⟨rfl, trivial⟩, fun _ => rfl, fun _ => trivial⟩
theorem ask_nil {n : Str} {w : World} {K : Int → Int → World → Prop} (hK : K (-1) 1 w) : callK Try.prog 61 [.leaf (.ptr none), .leaf (.str n)] w (.tup [.leaf (.int .i64), .leaf (.int .i64)]) K := by
  refine go_winnowref5_Store_ask _ _ _ _ ?_
  exact ifK_t rfl hK
theorem nil_two (w0 : World) : Two w0 NilS NilS (fun _ => True) (fun _ => True) (fun _ _ m w => At w0 F0 m w) none none where
  at_ h := h
  put := by
    intro a b m w m' w' h h2
    refine ⟨h.mod.trans h2.mod (fun _ _ h => h) fun x hx hk => ?_, h2.own, h2.nodup, fun p hp hlt => ?_⟩
    · obtain ⟨q, hq, rfl⟩ := hk; exact h.wr q hq hx
    · obtain ⟨q, hq, e⟩ := h2.wr p hp (Nat.lt_of_lt_of_le hlt h.mod.size)
      exact h.wr q hq (by rw [e]; exact hlt)
  sCreate := by intro a b m w n K h hK; exact go_store_Store_Create _ _ _ _ (ifK_t rfl (hK _ h (Mod.refl _ _)))
  rCreate := by intro a b m w n K h _ _ hK; exact go_winnowref5_Store_Create _ _ _ _ (ask_nil (ifK_f rfl (ifK_t rfl (hK _ h (Mod.refl _ _)))))
  sAppend := by intro a b m w n s d K h _ _ _ hK; exact go_store_Store_Append _ _ _ _ _ (ifK_t rfl (hK _ h (Mod.refl _ _)))
  rAppend := by intro a b m w n s d K h _ _ _ _ hK; exact go_winnowref5_Store_Append _ _ _ _ _ (ask_nil (ifK_t rfl (hK _ h (Mod.refl _ _))))
  sPublish := by intro a b m w n K h hK; exact go_store_Store_Publish _ _ _ _ (ifK_t rfl (hK _ h (Mod.refl _ _)))
  rPublish := by intro a b m w n K h _ hK; exact go_winnowref5_Store_Publish _ _ _ _ (ask_nil (ifK_t rfl (hK _ h (Mod.refl _ _))))
  sRead := by
    intro a b m w n i k K h _ hK
    exact go_store_Store_Read _ _ _ _ _ _ (ifK_t rfl (hK _ [] _ (by rw [List.append_nil]; exact h) (Mod.refl _ _) (VecL.nil EU) (Nat.zero_le _)))
  rRead := by
    intro a b m w n i k K h _ _ hK
    refine go_winnowref5_Store_Read _ _ _ _ _ _ (ask_nil ?_)
    refine join1 (fun c u => c = true ∧ u = w) (fun kk hkk => ifK_t rfl (hkk _ _ ⟨rfl, rfl⟩)) ?_
    rintro c u ⟨rfl, rfl⟩
    exact ifK_t rfl (hK _ [] _ (by rw [List.append_nil]; exact h) (Mod.refl _ _) (VecL.nil EU) (Nat.zero_le _))
  sSize := by intro a b m w n K h hK; exact go_store_Store_Size _ _ _ _ (ifK_t rfl (hK _ h (Mod.refl _ _)))
  rSize := by intro a b m w n K h _ hK; exact go_winnowref5_Store_Size _ _ _ _ (ask_nil (ifK_t rfl (hK _ h (Mod.refl _ _))))
  sDelete := by intro a b m w n K h hK; exact go_store_Store_Delete _ _ _ _ (ifK_t rfl (hK _ h (Mod.refl _ _)))
  rDelete := by intro a b m w n K h _ _ hK; exact go_winnowref5_Store_Delete _ _ _ _ (ask_nil (ifK_t rfl (hK _ h (Mod.refl _ _))))
  sList := by intro a b m w n K h _ _ hK; exact go_store_Store_List _ _ _ _ (ifK_t rfl (hK _ [] _ (by rw [List.append_nil]; exact h) (Mod.refl _ _) (VecL.nil EBi) (Nat.zero_le _)))
  rList := by intro a b m w n K h _ _ hK; exact go_winnowref5_Store_List _ _ _ _ (ifK_t rfl (hK _ [] _ (by rw [List.append_nil]; exact h) (Mod.refl _ _) (VecL.nil EBi)))
  sStop := by intro a b m w n k K h _ hK; exact go_store_Store_StopAt _ _ _ _ _ (ifK_t rfl (hK _ h (Mod.refl _ _)))
  rStop := by intro a b m w n k K h _ _ hK; exact go_winnowref5_Store_StopAt _ _ _ _ _ (ask_nil (ifK_t rfl (hK _ h (Mod.refl _ _))))
  sFlip := by intro a b m w n i k K h _ _ hK; exact go_store_Store_Flip _ _ _ _ _ _ (ifK_t rfl (hK _ h (Mod.refl _ _)))
  rFlip := by intro a b m w n i k K h _ _ _ hK; exact go_winnowref5_Store_Flip _ _ _ _ _ _ (ask_nil (ifK_t rfl (hK _ h (Mod.refl _ _))))
  sResize := by intro a b m w n k K h hK; exact go_store_Store_Resize _ _ _ _ _ (ifK_t rfl (hK _ h (Mod.refl _ _)))
  rResize := by intro a b m w n k K h _ hK; exact go_winnowref5_Store_Resize _ _ _ _ _ (ask_nil (ifK_t rfl (hK _ h (Mod.refl _ _))))
  sMeter := by
    intro a b m w K h hK
    refine go_store_Store_Meter _ _ _ ?_
    refine (At.init w F0).alK fun x w1 _ hA _ => ifK_t rfl ?_
    refine At.last hA (by simp) fun w2 hA2 => ?_
    refine hA2.ldLast (k := .int .i64) 0 rfl (hA2.ldLast (k := .int .i64) 0 rfl (hA2.ldLast (k := .int .i64) 0 rfl ?_))
    exact hK _ (h.keep0 hA2.mod fun _ => id) (hA2.mod.mono fun _ _ h => h.elim)
  rMeter := by
    intro a b m w K h hK
    refine go_winnowref5_Store_Meter _ _ _ ?_
    refine (At.init w F0).alK fun x w1 _ hA _ => ifK_t rfl ?_
    refine At.last hA (by simp) fun w2 hA2 => ?_
    refine hA2.ldLast (k := .int .i64) 0 rfl (hA2.ldLast (k := .int .i64) 0 rfl (hA2.ldLast (k := .int .i64) 0 rfl ?_))
    exact hK _ (h.keep0 hA2.mod fun _ => id) (hA2.mod.mono fun _ _ h => h.elim)
/-- an empty World -/
def WS.new (bw : Nat) (p q : PA) : WS := ⟨bw, p, q, ⟨none, 0, 0⟩, ⟨none, 0, 0⟩, ⟨none, 0, 0⟩, ⟨none, 0, 0⟩, [], [], [], [], [], [], [], []⟩
theorem WS.new_ok (bw : Nat) (p q : PA) (kept : BL) : (WS.new bw p q).ok kept := ⟨VecL.nil ESl, VecL.nil ESl, VecL.nil ESl, VecL.nil ESl, rfl, rfl, fun n s s' h => by simp [WS.new] at h, fun n s s' h => by simp [WS.new] at h, fun s h => by simp [WS.new] at h, fun s h => by simp [WS.new] at h⟩
theorem none_walk {w : World} {op : Int} {n : Str} {N j : Int} {s : Sl} {mask : Int} {d : List Int} (hn : n.length ≤ 1099511627776) (hd : RdS w EU s d) (hdl : d.length ≤ 1048576) (hby : ∀ x ∈ d, 0 ≤ x ∧ x < 256) (hN : N ≤ 9223372036854775807) (hm0 : 0 ≤ mask) (hm1 : mask < 4294967296)
    {K : Bool → World → Prop} (hK : ∀ w', Mod F0 w w' → K true w') : callK Try.prog 7 [.agg [.int .i64 op, .str n, .int .i64 N, .int .i64 j, .sl s, .int .u32 mask]] w (.one (.leaf .bool)) K := by
  refine go_winnowlaw5_StoreNone _ _ _ _ _ _ _ _ ?_
  refine (At.init w F0).alK fun b7 w8 _ hA8 _ => hA8.alK fun b9 w10 _ hA10 _ => ?_
  have h7 : Blk w10 b7 (sC op n N j s mask) := hA10.own (b7, _) (by simp [sC])
  have h9 : At w F0 ((WS.new b9 none none).parts [(b7, sC op n N j s mask)]).flatten w10 := by
    refine hA10.perm ?_
    simp only [WS.parts, WS.new, List.flatten_cons, List.flatten_nil, List.nil_append, List.append_nil]
    exact List.Perm.swap _ _ _
  have l7 : ∀ {k : Kd} {o : Nat} (x : Den k) {K : Den k → Prop}, (sC op n N j s mask)[o]? = some (LV.mk k x).toV → K x → Go.Vw.ld w10 k b7 o K := fun x _ hx hK => ⟨x, by rw [h7.cell]; exact hx, hK⟩
  refine l7 (k := .int .i64) op rfl (l7 (k := .str) n rfl (l7 (k := .int .i64) N rfl (l7 (k := .int .i64) j rfl (l7 (k := .sl) s rfl (l7 (k := .int .u32) mask rfl ?_)))))
  refine told_gen (nil_two w) nil_alike (S := WS.new b9 none none) (a := ()) (b := ()) h9 (WS.new_ok _ _ _ _) rfl rfl (k := 0) trivial (by omega) (Nat.zero_le _) (Nat.zero_le _) hn hd hdl hby hN hm0 hm1 fun _ _ S' kept' w' hJ hS hp hq hb _ _ _ => ?_
  have hJ : At w F0 (S'.parts kept').flatten w' := hJ
  refine join1 (fun c u => c = true ∧ Mod F0 w u) ?_ ?_
  · intro k19 hk19
    refine ifK_t rfl (dr_some ?_)
    have hb' : S'.bw = b9 := hb
    rw [← hb']
    refine hJ.ldP (i := 0) rfl (k := .ptr) none (by rw [← show S'.p = none from hp]; rfl) ?_
    refine go_store_Store_List _ _ _ _ (ifK_t rfl (ifK_t rfl (dr_some ?_)))
    refine hJ.ldP (i := 0) rfl (k := .ptr) none (by rw [← show S'.p = none from hp]; rfl) ?_
    refine (nil_two w).sMeter (a := ()) (b := ()) hJ fun w2 hJ2 _ => eql_meter (hk19 _ _ ⟨rfl, At.mod hJ2⟩)
  · rintro c u ⟨rfl, hM⟩
    exact hK u hM
end Go.Proofs.Ytjldecomhpngmaa
