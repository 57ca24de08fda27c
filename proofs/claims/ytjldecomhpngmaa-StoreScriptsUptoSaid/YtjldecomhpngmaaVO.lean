/- One step of a script, whatever the two stores are: the interface. -/
import Derived.Test.YtjldecomhpngmaaVE
import Derived.Test.YtjldecomhpngmaaVG
import Derived.Test.YtjldecomhpngmaaVN
namespace Go.Proofs.Ytjldecomhpngmaa
open Go.Vw

theorem run_eq_info (w : World) (a : Str) (b c : Int) (a' : Str) (b' c' : Int) : (Op.equalIn 10000 59 (.agg #[strV a, .int .i64 b, .int .i64 c]) (.agg #[strV a', .int .i64 b', .int .i64 c'])).run Try.prog w = .ok (a == a' && b == b' && c == c') w := by
  have hf : Try.prog.fieldsOf 59 = #[{ name := "Name", type := 9, offset := 0, embedded := false, tag := "", pkgPath := "", byteOffset := 0 }, { name := "State", type := 3, offset := 1, embedded := false, tag := "", pkgPath := "", byteOffset := 16 }, { name := "Size", type := 3, offset := 2, embedded := false, tag := "", pkgPath := "", byteOffset := 24 }] := by
    simp [Program.fieldsOf, Try.underlying59]
  rw [run_equalIn_struct w 9999 59 _ _ (by rw [hf]; exact Try.underlying59) Try.stoodInHeld59, hf]
  have h3 : Try.prog.underlying 3 = some (.int .i64) := Try.underlying3
  have h9 : Try.prog.underlying 9 = some .string := Try.underlying9
  have hs : ∀ d, (Op.equalIn (d + 1) 9 (strV a) (strV a')).run Try.prog w = .ok (a == a') w := fun d => by
    unfold strV
    simp only [LV.toV]
    rw [run_equalIn_string _ _ _ _ _ h9, ByteArray.toList_mk, ByteArray.toList_mk]
  simp [Op.eqFields, part, hs, run_equalIn_int _ _ _ _ _ _ _ h3, Result.andThen]
  by_cases h1 : a = a' <;> by_cases h2 : b = b' <;> by_cases h3 : c = c' <;> simp [h1, h2, h3]
theorem neq_info {w : World} {a : Str} {b c : Int} {a' : Str} {b' c' : Int} {o1 o2 : Operand} {K : Bool → World → Prop} (hK : K (!(a == a' && b == b' && c == c')) w) :
    opF Try.prog (vS (do eqGuard .neq 59 o1 o2 (.agg #[(LV.toV (.str a)), (LV.toV (.int .i64 b)), (LV.toV (.int .i64 c))]) (.agg #[(LV.toV (.str a')), (LV.toV (.int .i64 b')), (LV.toV (.int .i64 c'))]); binOp .neq 59 (.agg #[(LV.toV (.str a)), (LV.toV (.int .i64 b)), (LV.toV (.int .i64 c))]) (.agg #[(LV.toV (.str a')), (LV.toV (.int .i64 b')), (LV.toV (.int .i64 c'))]))) w (.one (.leaf .bool)) K := by
  refine ⟨[.bool (!(a == a' && b == b' && c == c'))], w, ?_, hK⟩
  have h := run_eq_info w a b c a' b' c'
  unfold strV at h
  simp only [LV.toV] at h ⊢
  simp only [vS, Sem.run_bind, run_eqGuard_agg w .neq 59 o1 o2 _ _ Try.eqGuardType59, Result.andThen, run_neq_struct, h]
  rfl
/-- sameList -/
theorem sameList_ok {a b : Sl} {la lb : List (Str × Int × Int)} {w : World} (ha : RdS w EBi a la) (hb : RdS w EBi b lb) (hn : la.length ≤ 1099511627776) {K : Bool → World → Prop} (hK : ∀ w', Mod F0 w w' → K (decide (la = lb)) w') : callK Try.prog 49 [.leaf (.sl a), .leaf (.sl b)] w (.one (.leaf .bool)) K := by
  refine go_winnowlaw5_sameList _ _ _ _ ?_
  refine ifK_intro (fun h => ?_) fun h => ?_
  · have : la ≠ lb := by
      rintro rfl
      rw [ha.len, hb.len] at h; simp at h
    have := hK w (Mod.refl _ _)
    rw [decide_eq_false ‹la ≠ lb›] at this; exact this
  have hl : la.length = lb.length := by
    rw [ha.len, hb.len] at h
    have : (la.length : Int) = lb.length := by simpa using h
    omega
  refine join0 (fun w' => Mod F0 w w' ∧ la = lb) ?_ fun w' hw => by have := hK w' hw.1; rw [decide_eq_true hw.2] at this; exact this
  intro k hk
  refine loop1 (k := .int .i64) (fun (i : Int) u => Mod F0 w u ∧ ∃ j : Nat, i = j ∧ j ≤ la.length ∧ la.take j = lb.take j) (fun i _ => (la.length - i).toNat) (x := 0) rfl ⟨Mod.refl _ _, 0, rfl, by omega, by simp⟩ ?_
  rintro i u ⟨hM, j, rfl, hj, he⟩
  refine ifK_intro (fun h => ?_) fun h => ?_
  · rw [ha.len] at h
    have hlt : j < la.length := dlt h
    have hltb : j < lb.length := by omega
    have hM2 : Mod F0 w u.drew := mod0 hM (mod_drew u)
    have hla : la[j]? = some la[j] := List.getElem?_eq_getElem hlt
    have hlb : lb[j]? = some lb[j] := List.getElem?_eq_getElem hltb
    have hne' : la[j] ≠ lb[j] → la ≠ lb := by rintro h rfl; exact h rfl
    generalize la[j] = x at hla hne'
    generalize lb[j] = y at hlb hne'
    refine ⟨F0, (ha.keep hM2 fun _ _ => id).ix rfl rfl hla fun b1 o1 _ hc1 => ?_⟩
    refine ldD_cell (k := .str) x.1 id (hc1 0 (by decide)) (ldD_cell (k := .int .i64) x.2.1 id (hc1 1 (by decide)) (ldD_cell (k := .int .i64) x.2.2 id (hc1 2 (by decide)) ?_))
    refine (hb.keep hM2 fun _ _ => id).ix rfl rfl hlb fun b2 o2 _ hc2 => ?_
    refine ldD_cell (k := .str) y.1 id (hc2 0 (by decide)) (ldD_cell (k := .int .i64) y.2.1 id (hc2 1 (by decide)) (ldD_cell (k := .int .i64) y.2.2 id (hc2 2 (by decide)) ?_))
    refine neq_info ⟨Mod.refl _ _, ?_⟩
    have hxy : (x.1 == y.1 && x.2.1 == y.2.1 && x.2.2 == y.2.2) = decide (x = y) := by
      obtain ⟨x1, x2, x3⟩ := x
      obtain ⟨y1, y2, y3⟩ := y
      by_cases h1 : x1 = y1 <;> by_cases h2 : x2 = y2 <;> by_cases h3 : x3 = y3 <;> simp [h1, h2, h3]
    rw [hxy]
    refine ifK_intro (fun hne => ?_) fun heq => ?_
    · have hne : x ≠ y := by simpa using hne
      have := hK _ hM2
      rw [decide_eq_false (hne' hne)] at this; exact this
    · have heq : x = y := by simpa using heq
      refine ⟨⟨hM2, j + 1, step64 (by omega), by omega, ?_⟩, ?_⟩
      · rw [List.take_add_one, List.take_add_one, he, hla, hlb, heq]
      · rw [step64 (by omega)]; omega
  · rw [ha.len] at h
    have hlt : la.length ≤ j := dge h
    refine hk _ ⟨hM, ?_⟩
    rw [List.take_of_length_le hlt, List.take_of_length_le (by omega)] at he; exact he

/-- all but these blocks -/
def nk (m : BL) : Nat → Prop := fun x => ¬ Ks m x
theorem nk_not {m : BL} {p : Nat × List Value} (h : p ∈ m) : ¬ nk m p.1 := fun hn => hn ⟨p, h, rfl⟩
structure SideS (α : Type) where
  create : α → Str → Int × α
  append : α → Str → List Int → Int × α
  publish : α → Str → Int × α
  read : α → Str → Int → Int → Int × List Int × α
  size : α → Str → Int × Int
  delete : α → Str → Int × α
  list : α → Str → List (Str × Int × Int)
  stop : α → Str → Int → Int × α
  flip : α → Str → Int → Int → Int × α
  resize : α → Str → Int → Int × α
  meter : α → Int × Int × Int
/-- two stores in memory -/
structure Two (w0 : World) {α β : Type} (X : SideS α) (Y : SideS β) (lim : β → Prop) (limS : α → Prop) (J : α → β → BL → World → Prop) (p q : PA) : Prop where
  at_ : ∀ {a b m w}, J a b m w → At w0 F0 m w
  put : ∀ {a b m w m' w'}, J a b m w → At w (Ks m) m' w' → J a b m' w'
  sCreate : ∀ {a b m w n} {K : Int → World → Prop}, J a b m w → (∀ w', J (X.create a n).2 b m w' → Mod (nk m) w w' → K (X.create a n).1 w') → callK Try.prog 11 [.leaf (.ptr p), .leaf (.str n)] w (.one (.leaf (.int .i64))) K
  rCreate : ∀ {a b m w n} {K : Int → World → Prop}, J a b m w → lim b → n.length ≤ 1099511627776 → (∀ w', J a (Y.create b n).2 m w' → Mod (nk m) w w' → K (Y.create b n).1 w') → callK Try.prog 40 [.leaf (.ptr q), .leaf (.str n)] w (.one (.leaf (.int .i64))) K
  sAppend : ∀ {a b m w n s d} {K : Int → World → Prop}, J a b m w → (∀ w', At w0 F0 m w' → RdS w' EU s d) → d.length ≤ 1099511627776 → (∀ x ∈ d, 0 ≤ x ∧ x < 256) → (∀ w', J (X.append a n d).2 b m w' → Mod (nk m) w w' → K (X.append a n d).1 w') → callK Try.prog 12 [.leaf (.ptr p), .leaf (.str n), .leaf (.sl s)] w (.one (.leaf (.int .i64))) K
  rAppend : ∀ {a b m w n s d} {K : Int → World → Prop}, J a b m w → (∀ w', At w0 F0 m w' → RdS w' EU s d) → d.length ≤ 1099511627776 → (∀ x ∈ d, 0 ≤ x ∧ x < 256) → n.length ≤ 1099511627776 → (∀ w', J a (Y.append b n d).2 m w' → Mod (nk m) w w' → K (Y.append b n d).1 w') → callK Try.prog 62 [.leaf (.ptr q), .leaf (.str n), .leaf (.sl s)] w (.one (.leaf (.int .i64))) K
  sPublish : ∀ {a b m w n} {K : Int → World → Prop}, J a b m w → (∀ w', J (X.publish a n).2 b m w' → Mod (nk m) w w' → K (X.publish a n).1 w') → callK Try.prog 13 [.leaf (.ptr p), .leaf (.str n)] w (.one (.leaf (.int .i64))) K
  rPublish : ∀ {a b m w n} {K : Int → World → Prop}, J a b m w → n.length ≤ 1099511627776 → (∀ w', J a (Y.publish b n).2 m w' → Mod (nk m) w w' → K (Y.publish b n).1 w') → callK Try.prog 42 [.leaf (.ptr q), .leaf (.str n)] w (.one (.leaf (.int .i64))) K
  sRead : ∀ {a b m w n i k} {K : Sl → Int → World → Prop}, J a b m w → i ≤ 9223372036854775807 → (∀ s ro w', J (X.read a n i k).2.2 b (m ++ ro) w' → Mod (nk m) w w' → VecL ro EU s (X.read a n i k).2.1 → (X.read a n i k).2.1.length ≤ 268435456 → K s (X.read a n i k).1 w') → callK Try.prog 14 [.leaf (.ptr p), .leaf (.str n), .leaf (.int .i64 i), .leaf (.int .i64 k)] w (.tup [.leaf .sl, .leaf (.int .i64)]) K
  rRead : ∀ {a b m w n i k} {K : Sl → Int → World → Prop}, J a b m w → i ≤ 9223372036854775807 → n.length ≤ 1099511627776 → (∀ s ro w', J a (Y.read b n i k).2.2 (m ++ ro) w' → Mod (nk m) w w' → VecL ro EU s (Y.read b n i k).2.1 → (Y.read b n i k).2.1.length ≤ 268435456 → K s (Y.read b n i k).1 w') → callK Try.prog 43 [.leaf (.ptr q), .leaf (.str n), .leaf (.int .i64 i), .leaf (.int .i64 k)] w (.tup [.leaf .sl, .leaf (.int .i64)]) K
  sSize : ∀ {a b m w n} {K : Int → Int → World → Prop}, J a b m w → (∀ w', J a b m w' → Mod (nk m) w w' → K (X.size a n).1 (X.size a n).2 w') → callK Try.prog 20 [.leaf (.ptr p), .leaf (.str n)] w (.tup [.leaf (.int .i64), .leaf (.int .i64)]) K
  rSize : ∀ {a b m w n} {K : Int → Int → World → Prop}, J a b m w → n.length ≤ 1099511627776 → (∀ w', J a b m w' → Mod (nk m) w w' → K (Y.size b n).1 (Y.size b n).2 w') → callK Try.prog 45 [.leaf (.ptr q), .leaf (.str n)] w (.tup [.leaf (.int .i64), .leaf (.int .i64)]) K
  sDelete : ∀ {a b m w n} {K : Int → World → Prop}, J a b m w → (∀ w', J (X.delete a n).2 b m w' → Mod (nk m) w w' → K (X.delete a n).1 w') → callK Try.prog 46 [.leaf (.ptr p), .leaf (.str n)] w (.one (.leaf (.int .i64))) K
  rDelete : ∀ {a b m w n} {K : Int → World → Prop}, J a b m w → lim b → n.length ≤ 1099511627776 → (∀ w', J a (Y.delete b n).2 m w' → Mod (nk m) w w' → K (Y.delete b n).1 w') → callK Try.prog 47 [.leaf (.ptr q), .leaf (.str n)] w (.one (.leaf (.int .i64))) K
  sList : ∀ {a b m w n} {K : Sl → World → Prop}, J a b m w → limS a → n.length ≤ 1099511627776 → (∀ s ro w', J a b (m ++ ro) w' → Mod (nk m) w w' → VecL ro EBi s (X.list a n) → (X.list a n).length ≤ 1073741824 → K s w') → callK Try.prog 24 [.leaf (.ptr p), .leaf (.str n)] w (.one (.leaf .sl)) K
  rList : ∀ {a b m w n} {K : Sl → World → Prop}, J a b m w → lim b → n.length ≤ 1099511627776 → (∀ s ro w', J a b (m ++ ro) w' → Mod (nk m) w w' → VecL ro EBi s (Y.list b n) → K s w') → callK Try.prog 48 [.leaf (.ptr q), .leaf (.str n)] w (.one (.leaf .sl)) K
  sStop : ∀ {a b m w n k} {K : Int → World → Prop}, J a b m w → k ≤ 9223372036854775807 → (∀ w', J (X.stop a n k).2 b m w' → Mod (nk m) w w' → K (X.stop a n k).1 w') → callK Try.prog 22 [.leaf (.ptr p), .leaf (.str n), .leaf (.int .i64 k)] w (.one (.leaf (.int .i64))) K
  rStop : ∀ {a b m w n k} {K : Int → World → Prop}, J a b m w → k ≤ 9223372036854775807 → n.length ≤ 1099511627776 → (∀ w', J a (Y.stop b n k).2 m w' → Mod (nk m) w w' → K (Y.stop b n k).1 w') → callK Try.prog 51 [.leaf (.ptr q), .leaf (.str n), .leaf (.int .i64 k)] w (.one (.leaf (.int .i64))) K
  sFlip : ∀ {a b m w n i k} {K : Int → World → Prop}, J a b m w → 0 ≤ k → k < 4294967296 → (∀ w', J (X.flip a n i k).2 b m w' → Mod (nk m) w w' → K (X.flip a n i k).1 w') → callK Try.prog 18 [.leaf (.ptr p), .leaf (.str n), .leaf (.int .i64 i), .leaf (.int .u32 k)] w (.one (.leaf (.int .i64))) K
  rFlip : ∀ {a b m w n i k} {K : Int → World → Prop}, J a b m w → 0 ≤ k → k < 4294967296 → n.length ≤ 1099511627776 → (∀ w', J a (Y.flip b n i k).2 m w' → Mod (nk m) w w' → K (Y.flip b n i k).1 w') → callK Try.prog 52 [.leaf (.ptr q), .leaf (.str n), .leaf (.int .i64 i), .leaf (.int .u32 k)] w (.one (.leaf (.int .i64))) K
  sResize : ∀ {a b m w n k} {K : Int → World → Prop}, J a b m w → (∀ w', J (X.resize a n k).2 b m w' → Mod (nk m) w w' → K (X.resize a n k).1 w') → callK Try.prog 19 [.leaf (.ptr p), .leaf (.str n), .leaf (.int .i64 k)] w (.one (.leaf (.int .i64))) K
  rResize : ∀ {a b m w n k} {K : Int → World → Prop}, J a b m w → n.length ≤ 1099511627776 → (∀ w', J a (Y.resize b n k).2 m w' → Mod (nk m) w w' → K (Y.resize b n k).1 w') → callK Try.prog 53 [.leaf (.ptr q), .leaf (.str n), .leaf (.int .i64 k)] w (.one (.leaf (.int .i64))) K
  sMeter : ∀ {a b m w} {K : Int → Int → Int → World → Prop}, J a b m w → (∀ w', J a b m w' → Mod (nk m) w w' → K (X.meter a).1 (X.meter a).2.1 (X.meter a).2.2 w') → callK Try.prog 16 [.leaf (.ptr p)] w (.one (.agg [.int .i64, .int .i64, .int .i64])) K
  rMeter : ∀ {a b m w} {K : Int → Int → Int → World → Prop}, J a b m w → (∀ w', J a b m w' → Mod (nk m) w w' → K (Y.meter b).1 (Y.meter b).2.1 (Y.meter b).2.2 w') → callK Try.prog 54 [.leaf (.ptr q)] w (.one (.agg [.int .i64, .int .i64, .int .i64])) K
/-- the two answer alike -/
structure Alike {α β : Type} (X : SideS α) (Y : SideS β) (lim : β → Prop) (limS : α → Prop) (R : Nat → α → β → Prop) : Prop where
  lim : ∀ {k a b}, R k a b → k ≤ 2097152 → lim b
  limS : ∀ {k a b}, R k a b → k ≤ 2097152 → limS a
  create : ∀ {k a b}, R k a b → ∀ n, (X.create a n).1 = (Y.create b n).1 ∧ R (k + 1) (X.create a n).2 (Y.create b n).2
  append : ∀ {k a b}, R k a b → ∀ n d, (X.append a n d).1 = (Y.append b n d).1 ∧ R (k + 1) (X.append a n d).2 (Y.append b n d).2
  publish : ∀ {k a b}, R k a b → ∀ n, (X.publish a n).1 = (Y.publish b n).1 ∧ R (k + 1) (X.publish a n).2 (Y.publish b n).2
  read : ∀ {k a b}, R k a b → ∀ n i j, i ≤ 9223372036854775807 → (X.read a n i j).1 = (Y.read b n i j).1 ∧ (X.read a n i j).2.1 = (Y.read b n i j).2.1 ∧ R k (X.read a n i j).2.2 (Y.read b n i j).2.2
  size : ∀ {k a b}, R k a b → ∀ n, X.size a n = Y.size b n
  delete : ∀ {k a b}, R k a b → ∀ n, (X.delete a n).1 = (Y.delete b n).1 ∧ R (k + 1) (X.delete a n).2 (Y.delete b n).2
  list : ∀ {k a b}, R k a b → ∀ n, X.list a n = Y.list b n
  stop : ∀ {k a b}, R k a b → ∀ n j, (X.stop a n j).1 = (Y.stop b n j).1 ∧ R (k + 1) (X.stop a n j).2 (Y.stop b n j).2
  flip : ∀ {k a b}, R k a b → ∀ n i j, 0 ≤ j → j < 4294967296 → (X.flip a n i j).1 = (Y.flip b n i j).1 ∧ R (k + 1) (X.flip a n i j).2 (Y.flip b n i j).2
  resize : ∀ {k a b}, R k a b → ∀ n j, (X.resize a n j).1 = (Y.resize b n j).1 ∧ R (k + 1) (X.resize a n j).2 (Y.resize b n j).2
  meter : ∀ {k a b}, R k a b → X.meter a = Y.meter b
  mono : ∀ {k a b}, R k a b → R (k + 1) a b
end Go.Proofs.Ytjldecomhpngmaa
