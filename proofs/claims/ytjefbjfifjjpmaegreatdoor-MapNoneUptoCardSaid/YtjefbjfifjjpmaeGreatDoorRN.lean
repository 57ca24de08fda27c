/- MapNone answers true for every input whose reading is of bulk at most 1048576, and leaves its arguments as they read: the card MapNoneUptoCardSaid ties the tables and errors that the program lists to the text. -/
import Derived.Test.YtjefbjfifjjpmaeGreatDoorCards
import Derived.Test.YtjefbjfifjjpmaeGreatDoorTie
import Derived.Deep.DeepHandedRow
import Derived.Test.YtjefbjfifjjpmaeGreatDoorLS
import Derived.Test.YtjefbjfifjjpmaeGreatDoorNW
import Derived.Test.YtjefbjfifjjpmaeGreatDoorRF5
namespace Go.Proofs.YtjefbjfifjjpmaeGreatDoor.mapNone
open Go.ChangeShapes Go.WideShapes Go.ChangeAt Go.RowKit
open Go.Vw (RdS callK LV AV Sl)
set_option linter.unusedVariables false

section
variable {H : Type} {enc : TypeId × Value → H} {w : World} {base : Nat} {held : Bool}
theorem c2 : Tryz.prog.cellsOf 2 = 1 := by kernel_rfl
theorem c3 : Tryz.prog.cellsOf 3 = 1 := by kernel_rfl
theorem c4 : Tryz.prog.cellsOf 4 = 1 := by kernel_rfl
theorem c9 : Tryz.prog.cellsOf 9 = 1 := by kernel_rfl
theorem c22 : Tryz.prog.cellsOf 22 = 1 := by kernel_rfl
theorem c24 : Tryz.prog.cellsOf 24 = 3 := by kernel_rfl
theorem c26 : Tryz.prog.cellsOf 26 = 10 := by kernel_rfl
theorem c28 : Tryz.prog.cellsOf 28 = 2 := by kernel_rfl
theorem c30 : Tryz.prog.cellsOf 30 = 17 := by kernel_rfl
theorem wf64 {n : Int} (h : (Lit.int .i64 n).wf = true) : -9223372036854775808 ≤ n ∧ n ≤ 9223372036854775807 := by
  simp [Lit.wf, IntKind.min, IntKind.max, IntKind.bits, IntKind.signed] at h; omega
set_option maxRecDepth 100000 in
theorem open_shape {fuel : Nat} {cs : List Value} {x : DataW H × List MemPlace} (h : DataW.trod enc Tryz.prog w base (fun _ => true) held fuel 24 cs = some x) :
    ∃ a b c : Int, cs = [LV.toV (.int .i64 a), LV.toV (.int .i64 b), LV.toV (.int .i64 c)] := by
  obtain ⟨xs, n, _, rfl, hl, hlen, hf⟩ := DataW.trod_struct Tryz.underlying24 h
  match xs, hlen with
  | [x0, x1, x2], _ =>
  have h0 : DataW.trod enc Tryz.prog w base (fun _ => true) held n 3 ((cs.drop 0).take (Tryz.prog.cellsOf 3)) = some x0 := hf 0 _ rfl
  have h1 : DataW.trod enc Tryz.prog w base (fun _ => true) held n 3 ((cs.drop 1).take (Tryz.prog.cellsOf 3)) = some x1 := hf 1 _ rfl
  have h2 : DataW.trod enc Tryz.prog w base (fun _ => true) held n 3 ((cs.drop 2).take (Tryz.prog.cellsOf 3)) = some x2 := hf 2 _ rfl
  clear hf
  rw [c3] at h0 h1 h2
  rw [c24] at hl
  match cs, hl with
  | [y0, y1, y2], _ =>
  obtain ⟨k0, e0, _, _⟩ := DataW.trod_int Tryz.underlying3 h0
  obtain ⟨k1, e1, _, _⟩ := DataW.trod_int Tryz.underlying3 h1
  obtain ⟨k2, e2, _, _⟩ := DataW.trod_int Tryz.underlying3 h2
  simp at e0 e1 e2
  subst e0 e1 e2
  exact ⟨k0, k1, k2, rfl⟩
set_option maxRecDepth 100000 in
theorem open_split {fuel : Nat} {cs : List Value} {x : DataW H × List MemPlace} (h : DataW.trod enc Tryz.prog w base (fun _ => true) held fuel 28 cs = some x) :
    ∃ (a : Int) (b : List UInt8), cs = [LV.toV (.int .i64 a), LV.toV (.str b)] := by
  obtain ⟨xs, n, _, rfl, hl, hlen, hf⟩ := DataW.trod_struct Tryz.underlying28 h
  match xs, hlen with
  | [x0, x1], _ =>
  have h0 : DataW.trod enc Tryz.prog w base (fun _ => true) held n 2 ((cs.drop 0).take (Tryz.prog.cellsOf 2)) = some x0 := hf 0 _ rfl
  have h1 : DataW.trod enc Tryz.prog w base (fun _ => true) held n 9 ((cs.drop 1).take (Tryz.prog.cellsOf 9)) = some x1 := hf 1 _ rfl
  clear hf
  rw [c2] at h0
  rw [c9] at h1
  rw [c28] at hl
  match cs, hl with
  | [y0, y1], _ =>
  obtain ⟨k0, e0, _, _⟩ := DataW.trod_int Tryz.underlying2 h0
  obtain ⟨k1, e1, _, _⟩ := DataW.trod_string Tryz.underlying9 h1
  rw [str_toV] at e1
  simp at e0 e1
  subst e0 e1
  exact ⟨k0, k1.data.toList, rfl⟩
set_option maxRecDepth 100000 in
theorem open_job {fuel : Nat} {cs : List Value} {x : DataW H × List MemPlace} (h : DataW.trod enc Tryz.prog w base (fun _ => true) held fuel 26 cs = some x) :
    ∃ (a0 a1 : Int) (a2 : Sl) (a3 : Bool) (a4 a5 a6 a7 a8 a9 : Int), cs = [LV.toV (.int .i64 a0), LV.toV (.int .i64 a1), LV.toV (.sl a2), LV.toV (.bool a3), LV.toV (.int .i64 a4), LV.toV (.int .i64 a5), LV.toV (.int .i64 a6), LV.toV (.int .i64 a7), LV.toV (.int .i64 a8), LV.toV (.int .i64 a9)] := by
  obtain ⟨xs, n, _, rfl, hl, hlen, hf⟩ := DataW.trod_struct Tryz.underlying26 h
  match xs, hlen with
  | [x0, x1, x2, x3, x4, x5, x6, x7], _ =>
  have h0 : DataW.trod enc Tryz.prog w base (fun _ => true) held n 3 ((cs.drop 0).take (Tryz.prog.cellsOf 3)) = some x0 := hf 0 _ rfl
  have h1 : DataW.trod enc Tryz.prog w base (fun _ => true) held n 3 ((cs.drop 1).take (Tryz.prog.cellsOf 3)) = some x1 := hf 1 _ rfl
  have h2 : DataW.trod enc Tryz.prog w base (fun _ => true) held n 22 ((cs.drop 2).take (Tryz.prog.cellsOf 22)) = some x2 := hf 2 _ rfl
  have h3 : DataW.trod enc Tryz.prog w base (fun _ => true) held n 4 ((cs.drop 3).take (Tryz.prog.cellsOf 4)) = some x3 := hf 3 _ rfl
  have h4 : DataW.trod enc Tryz.prog w base (fun _ => true) held n 3 ((cs.drop 4).take (Tryz.prog.cellsOf 3)) = some x4 := hf 4 _ rfl
  have h5 : DataW.trod enc Tryz.prog w base (fun _ => true) held n 3 ((cs.drop 5).take (Tryz.prog.cellsOf 3)) = some x5 := hf 5 _ rfl
  have h6 : DataW.trod enc Tryz.prog w base (fun _ => true) held n 3 ((cs.drop 6).take (Tryz.prog.cellsOf 3)) = some x6 := hf 6 _ rfl
  have h7 : DataW.trod enc Tryz.prog w base (fun _ => true) held n 24 ((cs.drop 7).take (Tryz.prog.cellsOf 24)) = some x7 := hf 7 _ rfl
  clear hf
  rw [c3] at h0 h1 h4 h5 h6
  rw [c22] at h2
  rw [c4] at h3
  rw [c24] at h7
  rw [c26] at hl
  match cs, hl with
  | [y0, y1, y2, y3, y4, y5, y6, y7, y8, y9], _ =>
  obtain ⟨k0, e0, _, _⟩ := DataW.trod_int Tryz.underlying3 h0
  obtain ⟨k1, e1, _, _⟩ := DataW.trod_int Tryz.underlying3 h1
  obtain ⟨k2, e2⟩ := open_sl Tryz.underlying22 (by rw [c9]; decide) h2
  obtain ⟨k3, e3, _⟩ := DataW.trod_bool Tryz.underlying4 h3
  obtain ⟨k4, e4, _, _⟩ := DataW.trod_int Tryz.underlying3 h4
  obtain ⟨k5, e5, _, _⟩ := DataW.trod_int Tryz.underlying3 h5
  obtain ⟨k6, e6, _, _⟩ := DataW.trod_int Tryz.underlying3 h6
  obtain ⟨k7, k8, k9, e7⟩ := open_shape h7
  simp at e0 e1 e2 e3 e4 e5 e6 e7
  obtain ⟨e7, e8, e9⟩ := e7
  subst e0 e1 e2 e3 e4 e5 e6 e7 e8 e9
  exact ⟨k0, k1, k2, k3, k4, k5, k6, k7, k8, k9, rfl⟩
set_option maxRecDepth 100000 in
theorem open_try {fuel : Nat} {cs : List Value} {x : DataW H × List MemPlace} (h : DataW.trod enc Tryz.prog w base (fun _ => true) held fuel 30 cs = some x) :
    ∃ (o : List UInt8) (a0 a1 : Int) (a2 : Sl) (a3 : Bool) (a4 a5 a6 a7 a8 a9 t y p : Int) (s : List UInt8) (at_ : Int) (st : Bool), cs = [LV.toV (.str o), LV.toV (.int .i64 a0), LV.toV (.int .i64 a1), LV.toV (.sl a2), LV.toV (.bool a3), LV.toV (.int .i64 a4), LV.toV (.int .i64 a5), LV.toV (.int .i64 a6), LV.toV (.int .i64 a7), LV.toV (.int .i64 a8), LV.toV (.int .i64 a9),
      LV.toV (.int .i64 t), LV.toV (.int .i64 y), LV.toV (.int .i64 p), LV.toV (.str s), LV.toV (.int .i64 at_), LV.toV (.bool st)] ∧ t ≤ 9223372036854775807 ∧ y ≤ 9223372036854775807 ∧ o.length ≤ Rows.uptoBulk x.1 := by
  obtain ⟨xs, n, _, rfl, hl, hlen, hf⟩ := DataW.trod_struct Tryz.underlying30 h
  match xs, hlen with
  | [x0, x1, x2, x3, x4, x5, x6], _ =>
  have h0 : DataW.trod enc Tryz.prog w base (fun _ => true) held n 9 ((cs.drop 0).take (Tryz.prog.cellsOf 9)) = some x0 := hf 0 _ rfl
  have h1 : DataW.trod enc Tryz.prog w base (fun _ => true) held n 26 ((cs.drop 1).take (Tryz.prog.cellsOf 26)) = some x1 := hf 1 _ rfl
  have h2 : DataW.trod enc Tryz.prog w base (fun _ => true) held n 3 ((cs.drop 11).take (Tryz.prog.cellsOf 3)) = some x2 := hf 2 _ rfl
  have h3 : DataW.trod enc Tryz.prog w base (fun _ => true) held n 3 ((cs.drop 12).take (Tryz.prog.cellsOf 3)) = some x3 := hf 3 _ rfl
  have h4 : DataW.trod enc Tryz.prog w base (fun _ => true) held n 28 ((cs.drop 13).take (Tryz.prog.cellsOf 28)) = some x4 := hf 4 _ rfl
  have h5 : DataW.trod enc Tryz.prog w base (fun _ => true) held n 2 ((cs.drop 15).take (Tryz.prog.cellsOf 2)) = some x5 := hf 5 _ rfl
  have h6 : DataW.trod enc Tryz.prog w base (fun _ => true) held n 4 ((cs.drop 16).take (Tryz.prog.cellsOf 4)) = some x6 := hf 6 _ rfl
  clear hf
  rw [c3] at h2 h3
  rw [c9] at h0
  rw [c26] at h1
  rw [c28] at h4
  rw [c2] at h5
  rw [c4] at h6
  rw [c30] at hl
  match cs, hl with
  | [y0, y1, y2, y3, y4, y5, y6, y7, y8, y9, y10, y11, y12, y13, y14, y15, y16], _ =>
  obtain ⟨k0, e0, g0, _⟩ := DataW.trod_string Tryz.underlying9 h0
  obtain ⟨a0, a1, a2, a3, a4, a5, a6, a7, a8, a9, e1⟩ := open_job h1
  obtain ⟨k2, e2, _, w2⟩ := DataW.trod_int Tryz.underlying3 h2
  obtain ⟨k3, e3, _, w3⟩ := DataW.trod_int Tryz.underlying3 h3
  obtain ⟨k4, k5, e4⟩ := open_split h4
  obtain ⟨k6, e5, _, _⟩ := DataW.trod_int Tryz.underlying2 h5
  obtain ⟨k7, e6, _⟩ := DataW.trod_bool Tryz.underlying4 h6
  rw [str_toV] at e0
  simp at e0 e1 e2 e3 e4 e5 e6
  obtain ⟨q0, q1, q2, q3, q4, q5, q6, q7, q8, q9⟩ := e1
  obtain ⟨p4, p5⟩ := e4
  subst e0 e2 e3 e5 e6 q0 q1 q2 q3 q4 q5 q6 q7 q8 q9 p4 p5
  refine ⟨k0.data.toList, a0, a1, a2, a3, a4, a5, a6, a7, a8, a9, k2, k3, k4, k5, k6, k7, rfl, (wf64 w2).2, (wf64 w3).2, ?_⟩
  subst g0
  simp only [List.map_cons, Rows.uptoBulk, Rows.uptoBulkAll]
  omega
end
set_option maxRecDepth 100000 in
theorem contract (H : Type) (enc : TypeId × Value → H) (W : World) (base : Nat) (args : Array Value) (ds gs : List (DataW H)) (before : List MemPlace)
    (hval : ∀ (j : Nat) t v, Tryz.f3.params[j]? = some t → args[j]? = some v → Value.okWide Tryz.prog W .any base t v)
    (hW : DataW.Whole enc Tryz.prog Tryz.f3.params.toList Rows.mapNoneSpec.vars false W args.toList ds gs before) (hk : Rows.uptoSmall H (ds ++ gs) = true) (ht : Go.Lib.TabIs Tryz.prog W "internal/strconv.uint64pow10" .u64 Go.Lib.pow10Tab) :
    Calls Tryz.prog 3 args W fun e W' => ∃ v, e = .returned v ∧ Rows.mapNoneSpec.post enc Tryz.prog Tryz.f3 false true false false W args v W' := by
  have hW' := hW
  obtain ⟨p, q, hA0, hV, rfl, hfz, hnd⟩ := hW
  have hA : DataW.TrodAll enc Tryz.prog W 0 (fun _ => true) true Tryz.f3.params.toList args.toList ds p := hA0
  rw [Tryz.params3] at hA hval
  obtain ⟨v0, vs0, d0, ds0, p0, q0, hargs, rfl, rfl, h0, r0⟩ := trodAll_cons hA
  obtain ⟨rfl, rfl, rfl⟩ := trodAll_nil r0
  obtain rfl : args = #[v0] := by cases args; simp_all
  obtain ⟨rfl, rfl⟩ := trodVars_none hV
  have hb := bound hk
  simp only [List.append_nil, Rows.uptoBulkAll] at hb
  obtain ⟨c0, rfl, _⟩ := okWide_struct Tryz.underlying30 (hval 0 30 v0 rfl rfl)
  obtain ⟨fuel0, h0⟩ := h0
  obtain ⟨o, a0, a1, a2, a3, a4, a5, a6, a7, a8, a9, t, y, p, s, at_, st, hcs0, g1, g2, g3⟩ := open_try h0
  have g3 : o.length ≤ Rows.uptoBulk d0 := g3
  have hcs0 : Value.agg c0 = (AV.agg [.str o, .int .i64 a0, .int .i64 a1, .sl a2, .bool a3, .int .i64 a4, .int .i64 a5, .int .i64 a6, .int .i64 a7, .int .i64 a8, .int .i64 a9, .int .i64 t, .int .i64 y, .int .i64 p, .str s, .int .i64 at_, .bool st]).toV := by
    have hx : c0.toList = _ := hcs0
    show Value.agg c0 = Value.agg (List.toArray _)
    congr 1
    rw [← Array.toArray_toList (xs := c0), hx]; rfl
  rw [hcs0] at hW' ⊢
  refine Calls.mono (calls_true (args := [.agg [.str o, .int .i64 a0, .int .i64 a1, .sl a2, .bool a3, .int .i64 a4, .int .i64 a5, .int .i64 a6, .int .i64 a7, .int .i64 a8, .int .i64 a9, .int .i64 t, .int .i64 y, .int .i64 p, .str s, .int .i64 at_, .bool st]]) (none_walk (by omega) (Go.Lib.tabBelow_of_tabIs ht) g1 g2 fun w' hM => ⟨rfl, hM⟩)) fun e W' ⟨he, hg⟩ => ?_
  subst he
  exact ⟨_, rfl, post_law hW' rfl (by kernel_rfl) rfl rfl rfl (by kernel_rfl) hg⟩
/-- a variable is laid -/
def setTab (c : Array Value) (o : Obj) : Obj := match o with
  | .cells _ t frozen => .cells c t frozen
  | o => o
/-- a world for the witness: the settled one, the tables and errors as their initialisers lay them -/
noncomputable def heap0 (os : Os) : Array Obj := (World.holding Tryz.prog os ⟨#[], #[], []⟩).heap
noncomputable def laidWorld (os : Os) : World :=
  { World.holding Tryz.prog os ⟨#[], #[], []⟩ with heap := (((((((heap0 os).modify 0 (setTab #[.int .u64 1, .int .u64 10, .int .u64 100, .int .u64 1000, .int .u64 10000, .int .u64 100000, .int .u64 1000000, .int .u64 10000000, .int .u64 100000000, .int .u64 1000000000, .int .u64 10000000000, .int .u64 100000000000, .int .u64 1000000000000, .int .u64 10000000000000, .int .u64 100000000000000, .int .u64 1000000000000000, .int .u64 10000000000000000, .int .u64 100000000000000000, .int .u64 1000000000000000000, .int .u64 10000000000000000000])).modify 1 (setTab #[.int .u8 0, .int .u8 1, .int .u8 28, .int .u8 2, .int .u8 29, .int .u8 14, .int .u8 24, .int .u8 3, .int .u8 30, .int .u8 22, .int .u8 20, .int .u8 15, .int .u8 25, .int .u8 17, .int .u8 4, .int .u8 8, .int .u8 31, .int .u8 27, .int .u8 13, .int .u8 23, .int .u8 21, .int .u8 19, .int .u8 16, .int .u8 7, .int .u8 26, .int .u8 12, .int .u8 18, .int .u8 6, .int .u8 11, .int .u8 5, .int .u8 10, .int .u8 9])).modify 2 (setTab #[.int .u8 0, .int .u8 1, .int .u8 56, .int .u8 2, .int .u8 57, .int .u8 49, .int .u8 28, .int .u8 3, .int .u8 61, .int .u8 58, .int .u8 42, .int .u8 50, .int .u8 38, .int .u8 29, .int .u8 17, .int .u8 4, .int .u8 62, .int .u8 47, .int .u8 59, .int .u8 36, .int .u8 45, .int .u8 43, .int .u8 51, .int .u8 22, .int .u8 53, .int .u8 39, .int .u8 33, .int .u8 30, .int .u8 24, .int .u8 18, .int .u8 12, .int .u8 5, .int .u8 63, .int .u8 55, .int .u8 48, .int .u8 27, .int .u8 60, .int .u8 41, .int .u8 37, .int .u8 16, .int .u8 46, .int .u8 35, .int .u8 44, .int .u8 21, .int .u8 52, .int .u8 32, .int .u8 23, .int .u8 11, .int .u8 54, .int .u8 26, .int .u8 40, .int .u8 15, .int .u8 34, .int .u8 20, .int .u8 31, .int .u8 10, .int .u8 25, .int .u8 14, .int .u8 19, .int .u8 9, .int .u8 13, .int .u8 8, .int .u8 7, .int .u8 6])).modify 4 (setTab #[.iface 424 (.pointer (some ⟨(heap0 os).size, 0, none⟩))])).modify 5 (setTab #[.iface 424 (.pointer (some ⟨(heap0 os).size + 1, 0, none⟩))])).push (.cells #[.string ⟨#[105, 110, 118, 97, 108, 105, 100, 32, 115, 121, 110, 116, 97, 120]⟩] 426 (0, 0))).push (.cells #[.string ⟨#[118, 97, 108, 117, 101, 32, 111, 117, 116, 32, 111, 102, 32, 114, 97, 110, 103, 101]⟩] 426 (0, 0)) }
def arg0 : Value := .agg #[.string ⟨#[]⟩, .int .i64 0, .int .i64 0, .slice none 0 0, .bool false, .int .i64 0, .int .i64 0, .int .i64 0, .int .i64 0, .int .i64 0, .int .i64 0, .int .i64 0, .int .i64 0, .int .i64 0, .string ⟨#[]⟩, .int .i64 0, .bool false]
def dat0 {H : Type} : DataW H := .agg [.lit (.string []), .agg [.lit (.int .i64 0), .lit (.int .i64 0), .nil, .lit (.bool false), .lit (.int .i64 0), .lit (.int .i64 0), .lit (.int .i64 0), .agg [.lit (.int .i64 0), .lit (.int .i64 0), .lit (.int .i64 0)]], .lit (.int .i64 0), .lit (.int .i64 0), .agg [.lit (.int .i64 0), .lit (.string [])], .lit (.int .i64 0), .lit (.bool false)]
set_option maxRecDepth 100000 in
theorem laid_met (os : Os) : laidMet Tryz.prog Rows.mapNoneUptoRow.laid ((laidWorld os).forCall (fun _ _ => 0) ⟨#[], #[arg0], []⟩).memory :=
  laidMet_of_run' 8 (by kernel_rfl) (by kernel_rfl)
set_option maxRecDepth 100000 in
theorem reads (os : Os) {H : Type} (enc : TypeId × Value → H) : ∃ places, DataW.whole enc Tryz.prog ((laidWorld os).forCall (fun _ _ => 0) ⟨#[], #[arg0], []⟩).memory Tryz.f3.params.toList Rows.mapNoneSpec.vars false #[arg0].toList 8 = some ([dat0], [], places) :=
  ⟨[], by kernel_rfl⟩
set_option maxRecDepth 100000 in
/-- the table, off the row's condition -/
theorem tab_of {W : World} (h : laidMet Tryz.prog Rows.mapNoneUptoRow.laid W) : Go.Lib.TabIs Tryz.prog W "internal/strconv.uint64pow10" .u64 Go.Lib.pow10Tab := by
  obtain ⟨ps, hL, hnd, hz⟩ := h
  obtain ⟨g1, t1, cs1, fuel1, p1, q1, hg1, ht1, hv1, hd1, hL, _⟩ := hL
  obtain ⟨g2, t2, cs2, fuel2, p2, q2, hg2, ht2, hv2, hd2, hL, _⟩ := hL
  obtain ⟨g3, t3, cs3, fuel3, p3, q3, hg3, ht3, hv3, hd3, hL, _⟩ := hL
  have hgg : Tryz.prog.globalNamed "internal/strconv.uint64pow10" = some 0 := by kernel_rfl
  obtain rfl := Option.some.inj (hgg.symm.trans hg3)
  have hty : (Tryz.prog.globals[0]?).map (·.type) = some 292 := by kernel_rfl
  obtain rfl := Option.some.inj (hty.symm.trans ht3)
  unfold Go.Lib.TabIs
  rw [hv3, ← Go.Lib.cells_of_tab (k := .u64) (zs := Go.Lib.pow10Tab) Tryz.underlying292 Tryz.underlying195 (by kernel_rfl) (by kernel_rfl) hd3]
set_option maxRecDepth 100000 in
theorem lifted (os : Os) (started : os.Started) (H : Type) (enc : TypeId × Value → H) (F : Stop.Interp) :
    ReturnsInHanded {} Tryz.checked os 3 .any ((Rows.OpenSpec.upto Rows.mapNoneSpec).preRow enc Tryz.prog Tryz.f3 Rows.mapNoneUptoRow.domain false Rows.mapNoneUptoRow.laid) (((Rows.OpenSpec.upto Rows.mapNoneSpec).at F).post enc Tryz.prog Tryz.f3 false true false false) := by
  obtain ⟨places, hx⟩ := reads os enc
  refine returnsInHanded_of_row (C := Tryz.checked) (s := Rows.OpenSpec.upto Rows.mapNoneSpec) own started (by kernel_rfl) Tryz.func3
    (witness_row_at (enc := enc) (C := Tryz.checked) false (laidWorld os) #[arg0] rfl (by kernel_rfl) (by kernel_rfl) (by kernel_rfl)
      (OpenSpec.preRow_of_cond 8 hx (by kernel_rfl) (fun k hk => by cases hk; kernel_rfl) (by kernel_rfl) (laid_met os))) ?_
  intro W base args ds gs before hval hW _ hcond _ hL _ _
  exact contract H enc W base args ds gs before hval hW (hcond _ rfl) (tab_of hL)
theorem said : Rows.MapNoneUptoSaid :=
  OpenClaim.holds_of_cond 3 Tryz.f3 rfl rfl rfl rfl rfl rfl rfl ⟨rfl, rfl, rfl, rfl, rfl⟩ rfl rfl rfl rfl rfl (by kernel_rfl) Tryz.func3 closed
    (of_decide_eq_true (by kernel_rfl)) (by unfold Func.isWrapper; first | (rw [if_pos (by decide +kernel)]; kernel_rfl) | (rw [if_neg (by decide +kernel)]; exact ⟨rfl, rfl⟩))
    (fun os started H enc _ F => by rw [OpenClaim.pre_eq_preRow]; exact lifted os started H enc F)
/-- no parameter wants a stand-in; the program's own looks are on -/
theorem plain (f : FuncId) (fn : Func) (hf : Tryz.pinned.checked.prog.funcNamed "winnow/winnowlaw17.MapNone" = some f) (hfn : Tryz.pinned.checked.prog.funcs[f]? = some fn) :
    true = Tryz.pinned.checked.prog.looks [] ∧ ∀ (j : Nat) t, fn.params[j]? = some t → Tryz.pinned.checked.prog.wantsStandIn t = false := by
  obtain rfl : f = 3 := Option.some.inj ((show Tryz.prog.funcNamed "winnow/winnowlaw17.MapNone" = some 3 by kernel_rfl).symm.trans hf) |>.symm
  obtain rfl : fn = Tryz.f3 := (Option.some.inj (Tryz.func3.symm.trans hfn)).symm
  refine ⟨by kernel_rfl, fun j t ht => ?_⟩
  rw [Tryz.params3] at ht
  have hm := Array.mem_of_getElem? ht
  have h3 : t = 30 := by simpa using hm
  subst h3
  exact (show Tryz.prog.wantsStandIn 30 = false by kernel_rfl)
theorem proved : Rows.MapNoneUptoCardSaid :=
  Claim7.holds_tied_plain_at .later [] _ _ _ _ said (fun _ h => by cases h) (by kernel_rfl) (fun _ h => by cases h) mapNoneUpto_row_tie rfl ⟨rfl, rfl⟩ (by kernel_rfl) rfl plain (by kernel_rfl)
end Go.Proofs.YtjefbjfifjjpmaeGreatDoor.mapNone
