/- Two real stores in memory: the interface is met. -/
import Derived.Test.YtjldecomhpngmaaXF
import Derived.Test.YtjldecomhpngmaaVS
namespace Go.Proofs.Ytjldecomhpngmaa
open Go.Vw

abbrev Full := Abs × (Int × Int × Int)
def RealS : SideS Full := ⟨fun a n => ((createA n a.1).1, ((createA n a.1).2, a.2)), fun a n d => ((appendA n d a.1).1, ((appendA n d a.1).2, a.2)), fun a n => ((publishA n a.1).1, ((publishA n a.1).2, a.2)), fun a n i k => ((readS n i k a.1 a.2).1, (readS n i k a.1 a.2).2.1, (a.1, (readS n i k a.1 a.2).2.2)),
  fun a n => sizeA n a.1, fun a n => ((deleteA n a.1).1, ((deleteA n a.1).2, a.2)), fun a n => listA n a.1, fun a n k => ((stopA n k a.1).1, ((stopA n k a.1).2, a.2)), fun a n i k => ((flipA n i k a.1).1, ((flipA n i k a.1).2, a.2)), fun a n k => ((resizeA n k a.1).1, ((resizeA n k a.1).2, a.2)), fun a => a.2⟩
def RealR : SideS Full := ⟨fun a n => ((createR n a.1).1, ((createR n a.1).2, a.2)), fun a n d => ((appendA n d a.1).1, ((appendA n d a.1).2, a.2)), fun a n => ((publishR n a.1).1, ((publishR n a.1).2, a.2)), fun a n i k => ((readS n i k a.1 a.2).1, (readS n i k a.1 a.2).2.1, (a.1, (readS n i k a.1 a.2).2.2)),
  fun a n => sizeA n a.1, fun a n => ((deleteA n a.1).1, ((deleteA n a.1).2, a.2)), fun a n => listR n a.1, fun a n k => ((stopA n k a.1).1, ((stopA n k a.1).2, a.2)), fun a n i k => ((flipA n i k a.1).1, ((flipA n i k a.1).2, a.2)), fun a n k => ((resizeA n k a.1).1, ((resizeA n k a.1).2, a.2)), fun a => a.2⟩
structure JR (w0 : World) (bs q : Nat) (a b : Full) (m : BL) (w : World) (g : SG) (r : RG) : Prop where
  st : StA w0 (m ++ r.parts.flatten) 0 g w
  ok : r.ok
  bs : g.bs = bs
  q : r.q = q
  a : (g.abs, g.mt) = a
  b : (r.abs, r.mt) = b
def JJ (w0 : World) (bs q : Nat) (a b : Full) (m : BL) (w : World) : Prop := ∃ g r, JR w0 bs q a b m w g r
section
variable {w0 w : World} {m c : BL} {g : SG}
theorem _root_.Go.Vw.At.put0 {w' : World} {m' : BL} (h : At w0 F0 m w) (h2 : At w (Ks m) m' w') : At w0 F0 m' w' := by
  refine ⟨h.mod.trans h2.mod (fun _ _ h => h) fun x hx hk => ?_, h2.own, h2.nodup, fun p hp hlt => ?_⟩
  · obtain ⟨q, hq, rfl⟩ := hk; exact h.wr q hq hx
  · obtain ⟨q, hq, e⟩ := h2.wr p hp (Nat.lt_of_lt_of_le hlt h.mod.size)
    exact h.wr q hq (by rw [e]; exact hlt)
/-- the caller's blocks may turn -/
theorem StA.rput {c' : BL} {w' : World} (h : StA w0 (m ++ c) 0 g w) (h2 : At w (Ks c) c' w') : StA w0 (m ++ c') 0 g w' ∧ Mod (nk m) w w' := by
  have hA : At w0 F0 (c ++ ((m ++ [g.hd 0]) ++ owns g.ents)) w := h.at_.perm (by
    simp only [List.append_assoc]
    have h1 : (m ++ (c ++ ([g.hd 0] ++ owns g.ents))).Perm ((m ++ c) ++ ([g.hd 0] ++ owns g.ents)) := by rw [List.append_assoc]
    refine List.Perm.trans ?_ h1.symm
    refine List.Perm.trans ?_ (List.Perm.append_right _ (List.perm_append_comm : (c ++ m).Perm (m ++ c)))
    rw [List.append_assoc])
  have h3 := At.frame (hA.from ksIn) h2
  have h4 := hA.put0 h3
  have hnr : ¬ Ks c g.r := by
    rintro ⟨p, hp, e⟩; exact h.nm.far (e ▸ hA.own p (List.mem_append_left _ hp))
  have h5 : At w0 F0 (((m ++ [g.hd 0]) ++ owns g.ents) ++ c') w' := h4.perm List.perm_append_comm
  refine ⟨StA.sided h5 (h.nm.keep h2.mod hnr) h.old h.vec, h2.mod.mono fun x _ hx hk => ?_⟩
  obtain ⟨p, hp, rfl⟩ := hk
  have hAm : At w0 F0 (m ++ c) w := h.side
  have hnd := hAm.nodup
  rw [List.map_append, List.nodup_append] at hnd
  obtain ⟨q, hq, e⟩ := hx
  exact hnd.2.2 _ (List.mem_map_of_mem hp) _ (List.mem_map_of_mem hq) e.symm
theorem StA.rbase (h : StA w0 (m ++ c) 0 g w) : At w (Ks c) c w := (h.side.sub (List.sublist_append_right m c)).from ksIn
theorem Nx.nk {m' : BL} {a : Abs} {t : Int × Int × Int} {g' : SG} {w' : World} (h : StA w0 (m ++ c) 0 g w) (hx : Nx w0 m' 0 g w a t g' w') : Mod (nk m) w w' :=
  hx.mod.mono fun x _ hd hk => by
    obtain ⟨p, hp, rfl⟩ := hk
    exact h.notD (p := p) (List.mem_append_left _ hp) hd
theorem perm3 (m c ro : BL) : ((m ++ ro) ++ c).Perm ((m ++ c) ++ ro) := by
  rw [List.append_assoc, List.append_assoc]
  exact List.Perm.append_left _ List.perm_append_comm
theorem getA_mem {n : Str} {b : Bl} : ∀ {a : Abs}, getA n a = some b → (n, b) ∈ a
  | [], h => by simp [getA] at h
  | x :: r, h => by
    unfold getA at h
    split at h
    · rename_i e; cases h; rw [e]; exact List.mem_cons_self
    · exact List.mem_cons_of_mem _ (getA_mem h)
theorem readS_len {n : Str} {i k : Int} {a : Abs} {t : Int × Int × Int} (h : ∀ x ∈ a, x.2.data.length ≤ 268435456) : (readS n i k a t).2.1.length ≤ 268435456 := by
  unfold readS
  split
  · exact Nat.zero_le _
  split
  · exact Nat.zero_le _
  split
  · exact Nat.zero_le _
  · rename_i c b hb
    split
    · exact Nat.zero_le _
    have hm : (n, b) ∈ a := by
      unfold readA askA at hb
      split at hb
      · cases hb
      · rename_i hx
        split at hx
        · cases hx
        · split at hx
          · cases hx
          · rename_i b' hg
            cases hx
            split at hb
            · cases hb; exact getA_mem hg
            · cases hb
    have := h _ hm
    have h1 : ((b.data.drop i.toNat).take k.toNat).length ≤ b.data.length := by simp; omega
    exact Nat.le_trans h1 this
end
section
variable {w0 w w' : World} {bs q : Nat} {a b : Full} {m : BL} {g : SG} {r : RG}
theorem JR.okS (h : JR w0 bs q a b m w g r) : ∀ x ∈ g.abs, x.2.data.length ≤ 268435456 := by
  intro x hx
  unfold SG.abs at hx
  obtain ⟨e, he, rfl⟩ := List.mem_map.1 hx
  exact (h.st.vec e he).2.len
theorem JR.nx {a' : Abs} {g' : SG} (h : JR w0 bs q a b m w g r) (hx : Nx w0 (m ++ r.parts.flatten) 0 g w a' g.mt g' w') : JJ w0 bs q (a', a.2) b m w' :=
  ⟨g', r, hx.st, h.ok, hx.bs.trans h.bs, h.q, by rw [hx.abs, hx.mt, ← h.a], h.b⟩
theorem JR.rn {b' : Abs} {r' : RG} (h : JR w0 bs q a b m w g r) (hx : RN w (Ks r.parts.flatten) r b' r.mt r' w') : JJ w0 bs q a (b', b.2) m w' ∧ Mod (nk m) w w' := by
  obtain ⟨h1, h2⟩ := h.st.rput hx.at_
  exact ⟨⟨g, r', h1, hx.ok, h.bs, hx.q.trans h.q, h.a, by rw [hx.abs, hx.mt, ← h.b]⟩, h2⟩
theorem JR.ea (h : JR w0 bs q a b m w g r) : g.abs = a.1 := by rw [← h.a]
theorem JR.em (h : JR w0 bs q a b m w g r) : g.mt = a.2 := by rw [← h.a]
theorem JR.eb (h : JR w0 bs q a b m w g r) : r.abs = b.1 := by rw [← h.b]
theorem JR.en (h : JR w0 bs q a b m w g r) : r.mt = b.2 := by rw [← h.b]
end
theorem real_two (w0 : World) (bs q : Nat) : Two w0 RealS RealR (fun b => b.1.length < 1073741824) (fun a => (a.1.map (·.1)).Nodup ∧ a.1.length ≤ 1073741824) (JJ w0 bs q) (some (bs, 0)) (some (q, 0)) where
  at_ := by rintro a b m w ⟨g, r, h⟩; exact h.st.side.sub (List.sublist_append_left _ _)
  put := by
    rintro a b m w m' w' ⟨g, r, h⟩ h2
    have h1 : StA w0 (r.parts.flatten ++ m) 0 g w := h.st.permM List.perm_append_comm
    exact ⟨g, r, (h1.rput h2).1.permM List.perm_append_comm, h.ok, h.bs, h.q, h.a, h.b⟩
  sCreate := by
    rintro a b m w n K ⟨g, r, h⟩ hK
    rw [← h.bs]
    refine create_ok h.st n fun g' w' hx => ?_
    have := hK w' (by rw [show (RealS.create a n).2 = ((createA n g.abs).2, a.2) by rw [h.ea]; rfl]; exact h.nx hx) (hx.nk h.st)
    rw [h.ea]; exact this
  rCreate := by
    rintro a b m w n K ⟨g, r, h⟩ hl hn hK
    rw [← h.q]
    have hl' : r.es.length < 1073741824 := by have := h.eb; unfold RG.abs at this; have h2 := congrArg List.length this; simp only [List.length_map] at h2; omega
    refine rcreate_ok h.st.rbase h.ok hl' n hn fun r' w' hx => ?_
    obtain ⟨h1, h2⟩ := h.rn hx
    have := hK w' (by rw [show (RealR.create b n).2 = ((createR n r.abs).2, b.2) by rw [h.eb]; rfl]; exact h1) h2
    rw [h.eb]; exact this
  sAppend := by
    rintro a b m w n s d K ⟨g, r, h⟩ hd hl hby hK
    rw [← h.bs]
    refine append_ok h.st n (fun w' hA => hd w' (hA.sub (List.sublist_append_left _ _))) hl hby fun g' w' hx => ?_
    have := hK w' (by rw [show (RealS.append a n d).2 = ((appendA n d g.abs).2, a.2) by rw [h.ea]; rfl]; exact h.nx hx) (hx.nk h.st)
    rw [h.ea]; exact this
  rAppend := by
    rintro a b m w n s d K ⟨g, r, h⟩ hd hl hby hn hK
    rw [← h.q]
    refine rappend_ok h.st.rbase h.ok n hn (hd w (h.st.side.sub (List.sublist_append_left _ _))) hl hby fun r' w' hx => ?_
    obtain ⟨h1, h2⟩ := h.rn hx
    have := hK w' (by rw [show (RealR.append b n d).2 = ((appendA n d r.abs).2, b.2) by rw [h.eb]; rfl]; exact h1) h2
    rw [h.eb]; exact this
  sPublish := by
    rintro a b m w n K ⟨g, r, h⟩ hK
    rw [← h.bs]
    refine publish_ok h.st n fun g' w' hx => ?_
    have := hK w' (by rw [show (RealS.publish a n).2 = ((publishA n g.abs).2, a.2) by rw [h.ea]; rfl]; exact h.nx hx) (hx.nk h.st)
    rw [h.ea]; exact this
  rPublish := by
    rintro a b m w n K ⟨g, r, h⟩ hn hK
    rw [← h.q]
    refine rpublish_ok h.st.rbase h.ok n hn fun r' w' hx => ?_
    obtain ⟨h1, h2⟩ := h.rn hx
    have := hK w' (by rw [show (RealR.publish b n).2 = ((publishR n r.abs).2, b.2) by rw [h.eb]; rfl]; exact h1) h2
    rw [h.eb]; exact this
  sRead := by
    rintro a b m w n i k K ⟨g, r, h⟩ hi hK
    rw [← h.bs]
    refine read_ok h.st n i k hi fun sl ro g' w' hx hv => ?_
    have hl : (readS n i k g.abs g.mt).2.1.length ≤ 268435456 := readS_len h.okS
    have hm := hx.nk h.st
    have hst := hx.st.permM (perm3 m r.parts.flatten ro)
    have e3 : (g'.abs, g'.mt) = (RealS.read a n i k).2.2 := by rw [hx.abs, hx.mt, h.ea, h.em]; rfl
    rw [h.ea, h.em] at hv hl ⊢
    exact hK sl ro w' ⟨g', r, hst, h.ok, hx.bs.trans h.bs, h.q, e3, h.b⟩ hm hv hl
  rRead := by
    rintro a b m w n i k K ⟨g, r, h⟩ hi hn hK
    rw [← h.q]
    refine rread_ok h.st.rbase h.ok n hn i k hi fun sl ro r' w' hA hok hq hab hmt hv hl => ?_
    obtain ⟨h1, h2⟩ := h.st.rput hA
    have h1' : StA w0 ((m ++ ro) ++ r'.parts.flatten) 0 g w' := h1.permM (by rw [List.append_assoc]; exact List.Perm.append_left _ List.perm_append_comm)
    have e3 : (r'.abs, r'.mt) = (RealR.read b n i k).2.2 := by rw [hab, hmt, h.eb, h.en]; rfl
    rw [h.eb, h.en] at hv hl ⊢
    exact hK sl ro w' ⟨g, r', h1', hok, h.bs, hq.trans h.q, h.a, e3⟩ h2 hv hl
  sSize := by
    rintro a b m w n K ⟨g, r, h⟩ hK
    rw [← h.bs]
    refine size_ok h.st n fun g' w' hx => ?_
    have := hK w' (by have := h.nx hx; rw [h.ea] at this; exact this) (hx.nk h.st)
    rw [h.ea]; exact this
  rSize := by
    rintro a b m w n K ⟨g, r, h⟩ hn hK
    rw [← h.q]
    refine rsize_ok h.st.rbase h.ok n hn ?_
    have := hK w ⟨g, r, h⟩ (Mod.refl _ _)
    rw [h.eb]; exact this
  sDelete := by
    rintro a b m w n K ⟨g, r, h⟩ hK
    rw [← h.bs]
    refine delete_ok h.st n fun g' w' hx => ?_
    have := hK w' (by rw [show (RealS.delete a n).2 = ((deleteA n g.abs).2, a.2) by rw [h.ea]; rfl]; exact h.nx hx) (hx.nk h.st)
    rw [h.ea]; exact this
  rDelete := by
    rintro a b m w n K ⟨g, r, h⟩ _ hn hK
    rw [← h.q]
    refine rdelete_ok h.st.rbase h.ok n hn fun r' w' hx => ?_
    obtain ⟨h1, h2⟩ := h.rn hx
    have := hK w' (by rw [show (RealR.delete b n).2 = ((deleteA n r.abs).2, b.2) by rw [h.eb]; rfl]; exact h1) h2
    rw [h.eb]; exact this
  sList := by
    rintro a b m w n K ⟨g, r, h⟩ hl hn hK
    rw [← h.bs]
    have hl1 : (g.abs.map (·.1)).Nodup := by rw [h.ea]; exact hl.1
    have hl2 : g.ents.length ≤ 1073741824 := by have := h.ea; unfold SG.abs at this; have h2 := congrArg List.length this; simp only [List.length_map] at h2; have := hl.2; omega
    refine list_ok h.st n (by omega) hl1 hl2 fun t ro g' w' hx hv => ?_
    have hm := hx.nk h.st
    have hst := hx.st.permM (perm3 m r.parts.flatten ro)
    have e3 : (g'.abs, g'.mt) = a := by rw [hx.abs, hx.mt]; exact h.a
    rw [h.ea] at hv
    refine hK t ro w' ⟨g', r, hst, h.ok, hx.bs.trans h.bs, h.q, e3, h.b⟩ hm hv ?_
    show (listA n a.1).length ≤ _
    unfold listA
    rw [(sortI_perm _).length_eq]
    exact Nat.le_trans (List.length_filterMap_le _ _) hl.2
  rList := by
    rintro a b m w n K ⟨g, r, h⟩ _ _ hK
    rw [← h.q]
    refine rlist_ok h.st.rbase h.ok n fun t ro w' hA hv => ?_
    obtain ⟨h1, h2⟩ := h.st.rput hA
    have h1' : StA w0 ((m ++ ro) ++ r.parts.flatten) 0 g w' := h1.permM (by rw [List.append_assoc]; exact List.Perm.append_left _ List.perm_append_comm)
    rw [h.eb] at hv
    exact hK t ro w' ⟨g, r, h1', h.ok, h.bs, h.q, h.a, h.b⟩ h2 hv
  sStop := by
    rintro a b m w n k K ⟨g, r, h⟩ hk hK
    rw [← h.bs]
    refine stop_ok h.st n k hk fun g' w' hx => ?_
    have := hK w' (by rw [show (RealS.stop a n k).2 = ((stopA n k g.abs).2, a.2) by rw [h.ea]; rfl]; exact h.nx hx) (hx.nk h.st)
    rw [h.ea]; exact this
  rStop := by
    rintro a b m w n k K ⟨g, r, h⟩ hk hn hK
    rw [← h.q]
    refine rstop_ok h.st.rbase h.ok n k hk hn fun r' w' hx => ?_
    obtain ⟨h1, h2⟩ := h.rn hx
    have := hK w' (by rw [show (RealR.stop b n k).2 = ((stopA n k r.abs).2, b.2) by rw [h.eb]; rfl]; exact h1) h2
    rw [h.eb]; exact this
  sFlip := by
    rintro a b m w n i k K ⟨g, r, h⟩ h0 h1 hK
    rw [← h.bs]
    refine flip_ok h.st n i k h0 h1 fun g' w' hx => ?_
    have := hK w' (by rw [show (RealS.flip a n i k).2 = ((flipA n i k g.abs).2, a.2) by rw [h.ea]; rfl]; exact h.nx hx) (hx.nk h.st)
    rw [h.ea]; exact this
  rFlip := by
    rintro a b m w n i k K ⟨g, r, h⟩ h0 h1 hn hK
    rw [← h.q]
    refine rflip_ok h.st.rbase h.ok n hn i k h0 h1 fun r' w' hx => ?_
    obtain ⟨h1, h2⟩ := h.rn hx
    have := hK w' (by rw [show (RealR.flip b n i k).2 = ((flipA n i k r.abs).2, b.2) by rw [h.eb]; rfl]; exact h1) h2
    rw [h.eb]; exact this
  sResize := by
    rintro a b m w n k K ⟨g, r, h⟩ hK
    rw [← h.bs]
    refine resize_ok h.st n k fun g' w' hx => ?_
    have := hK w' (by rw [show (RealS.resize a n k).2 = ((resizeA n k g.abs).2, a.2) by rw [h.ea]; rfl]; exact h.nx hx) (hx.nk h.st)
    rw [h.ea]; exact this
  rResize := by
    rintro a b m w n k K ⟨g, r, h⟩ hn hK
    rw [← h.q]
    refine rresize_ok h.st.rbase h.ok n hn k fun r' w' hx => ?_
    obtain ⟨h1, h2⟩ := h.rn hx
    have := hK w' (by rw [show (RealR.resize b n k).2 = ((resizeA n k r.abs).2, b.2) by rw [h.eb]; rfl]; exact h1) h2
    rw [h.eb]; exact this
  sMeter := by
    rintro a b m w K ⟨g, r, h⟩ hK
    rw [← h.bs]
    refine meter_ok h.st fun w' h1 hM => ?_
    have hm : Mod (nk m) w w' := hM.mono fun x _ e hk => by
      obtain ⟨p, hp, rfl⟩ := hk
      exact h.st.neS (p := p) (List.mem_append_left _ hp) e
    have := hK w' ⟨g, r, h1, h.ok, h.bs, h.q, h.a, h.b⟩ hm
    have e : (g.m1, g.m2, g.m3) = a.2 := h.em
    rw [show RealS.meter a = (g.m1, g.m2, g.m3) from e.symm] at this
    exact this
  rMeter := by
    rintro a b m w K ⟨g, r, h⟩ hK
    rw [← h.q]
    refine rmeter_ok h.st.rbase fun w' hA => ?_
    obtain ⟨h1, h2⟩ := h.st.rput hA
    have := hK w' ⟨g, r, h1, h.ok, h.bs, h.q, h.a, h.b⟩ h2
    have e : (r.m1, r.m2, r.m3) = b.2 := h.en
    rw [show RealR.meter b = (r.m1, r.m2, r.m3) from e.symm] at this
    exact this
end Go.Proofs.Ytjldecomhpngmaa
