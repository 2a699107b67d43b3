/- The card of CmdBack: the walk and the plain law, joined. Conditions: the given statement's own. -/
import Derived.Test.YtpiafpkpdbknfaaGreatDoorCards
import Derived.Test.YtpiafpkpdbknfaaGreatDoorTie
import Derived.Test.YtpiafpkpdbknfaaGreatDoorPCmdBackx6
import Derived.Test.YtpiafpkpdbknfaaGreatDoorPureCmdBack
import Derived.Test.YtpiafpkpdbknfaaGreatDoorSTab
import Derived.WalkKit
import Derived.ProofKit
import Derived.OpenShut
import Derived.ShutString
import Derived.ChangeOld
import Derived.Below
import Derived.SliceStrings
import Derived.JoinedCond
import Derived.Carry
import Derived.SizedLaws
import Derived.Deep.DeepHandedRow
import Derived.Lib.LaidTab
import Derived.LaidSub
namespace Go.Proofs.YtpiafpkpdbknfaaGreatDoor.cmdBack
open Go.ChangeShapes Go.WideShapes Go.ChangeAt Go.RowKit Go.Proofs.YtpiafpkpdbknfaaGreatDoorW.PrintWords
set_option linter.unusedVariables false
set_option maxRecDepth 100000
theorem own : ownKnob Tryz.prog.godebug = none := by kernel_rfl
theorem laidOut : laidOutB Tryz.prog = true := by kernel_rfl
theorem cells9 : Tryz.prog.cellsOf 9 = 1 := by kernel_rfl
theorem reads_of {W : World} {a : Addr} {ss : List ByteArray} (len : Nat) (hl : len ≤ ss.length) (hm : ss.length ≤ maxLen) (hcell : ∀ i, i < ss.length → W.cell? (a.add i) = some (.string (ss.getD i ByteArray.empty))) :
    Kd.C Kd.string W (some a) (ss.take len).length (ss.take len) := by
  have hmx : maxLen ≤ 9223372036854775807 := by decide
  have hlen : (ss.take len).length = len := by rw [List.length_take]; omega
  refine ⟨rfl, by omega, fun _ => ⟨a, rfl, fun j p hj => ⟨[.string p], rfl, rfl, fun i u hu => ?_⟩⟩⟩
  have hjl : j < len := by
    have := (List.getElem?_eq_some_iff.1 hj).1
    omega
  cases i with
  | succ i => simp at hu
  | zero =>
    simp only [List.getElem?_cons_zero, Option.some.injEq] at hu
    subst hu
    show W.cell? (a.add (j * 1 + 0)) = _
    rw [Nat.mul_one, Nat.add_zero, hcell j (by omega)]
    rw [List.getElem?_take_of_lt hjl] at hj
    rw [List.getD_eq_getElem?_getD, hj]
    rfl
theorem weights_strs {H : Type} : ∀ ss : List ByteArray, DataW.weightsAll Tryz.prog 9 (strs (H := H) ss) = ss.map (·.size)
  | [] => rfl
  | s :: r => by
    have ih := weights_strs (H := H) r
    simp only [strs, List.map_cons, DataW.weightsAll, DataW.weights] at ih ⊢
    rw [ih]
    rfl
theorem sized_strs {H : Type} {ss sp : List ByteArray} (h : (DataW.weightsEach Tryz.prog [22] [(.slice (strs (H := H) ss) (strs sp) : DataW H)]).all (· ≤ reachBytes) = true) : ∀ x ∈ ss, x.size ≤ 140737488351232 := by
  simp only [DataW.weightsEach, DataW.weights, Tryz.underlying22, weights_strs, List.append_nil, List.all_cons, List.all_append, Bool.and_eq_true] at h
  intro x hx
  have := List.all_eq_true.1 h.2.1 x.size (List.mem_map.2 ⟨x, hx, rfl⟩)
  exact of_decide_eq_true this
theorem cells24 : Tryz.prog.cellsOf 24 = 5 := by kernel_rfl
theorem bytes9 : Tryz.prog.bytesOf 9 = 16 := by kernel_rfl
/-- What a list of strings reads as. -/
def IsL {H : Type} (d : DataW H) (l : List ByteArray) : Prop := (d = .nil ∧ l = []) ∨ ∃ sp : List ByteArray, d = .slice (strs l) (strs sp)
theorem open_list {H : Type} {enc : TypeId × Value → H} {W : World} {v : Value} {y : DataW H × List MemPlace} {fuel : Nat} (h : DataW.trod enc Tryz.prog W 0 (fun _ => true) true fuel 22 [v] = some y) :
    ∃ (A : Option Addr) (c : Nat) (l : List ByteArray), v = .slice A l.length c ∧ Kd.C Kd.string W A l.length l ∧ l.length ≤ c ∧ IsL y.1 l := by
  rcases open_strings Tryz.underlying22 Tryz.underlying9 cells9 h with ⟨hcs, hx⟩ | ⟨a, len, cap, ss, hcs, _, hl, hm, hz, hx, hcell, hws⟩
  · have hcs := (List.cons.inj hcs).1
    subst hcs hx
    exact ⟨none, 0, [], rfl, ⟨rfl, by decide, fun h => absurd h (by decide)⟩, Nat.le_refl _, .inl ⟨rfl, rfl⟩⟩
  · have hcs := (List.cons.inj hcs).1
    subst hcs hx
    simp only [if_true] at hz
    have hlen : (ss.take len).length = len := by rw [List.length_take]; omega
    exact ⟨some a, cap, ss.take len, by rw [hlen], reads_of len (by omega) (by omega) hcell, by omega, .inr ⟨_, rfl⟩⟩
theorem five {α : Type} {l : List α} (h : l.length = 5) : ∃ a b c d e, l = [a, b, c, d, e] := by
  match l, h with
  | [a, b, c, d, e], _ => exact ⟨a, b, c, d, e, rfl⟩
/-- A command, opened: its five fields. -/
theorem open_cmd {H : Type} {enc : TypeId × Value → H} {W : World} {cs : Array Value} {x : DataW H × List MemPlace} {fuel : Nat} (h : DataW.trod enc Tryz.prog W 0 (fun _ => true) true fuel 24 cs.toList = some x) :
    ∃ (op : Int) (dst : ByteArray) (A2 : Option Addr) (c2 : Nat) (src : List ByteArray) (A3 : Option Addr) (c3 : Nat) (words : List ByteArray) (st : Int) (d2 d3 : DataW H),
      cs = #[.int .i64 op, .string dst, .slice A2 src.length c2, .slice A3 words.length c3, .int .i64 st] ∧ Kd.C Kd.string W A2 src.length src ∧ src.length ≤ c2 ∧ Kd.C Kd.string W A3 words.length words ∧ words.length ≤ c3 ∧
      x.1 = .agg [.lit (.int .i64 op), .lit (.string dst.data.toList), d2, d3, .lit (.int .i64 st)] ∧ IsL d2 src ∧ IsL d3 words ∧ (Lit.int .i64 op).wf = true ∧ (Lit.int .i64 st).wf = true := by
  obtain ⟨xs, n, _, rfl, hl, hlen, hf⟩ := DataW.trod_struct Tryz.underlying24 h
  obtain ⟨y0, y1, y2, y3, y4, rfl⟩ := five (by rw [hlen]; rfl)
  rw [cells24] at hl
  obtain ⟨v0, v1, v2, v3, v4, hcs⟩ := five hl
  rw [hcs] at hf
  have f0 := hf 0 _ rfl
  have f1 := hf 1 _ rfl
  have f2 := hf 2 _ rfl
  have f3 := hf 3 _ rfl
  have f4 := hf 4 _ rfl
  simp only [List.getElem?_cons_zero, List.getElem?_cons_succ] at f0 f1 f2 f3 f4
  obtain ⟨op, e0, g0, w0⟩ := DataW.trod_int Tryz.underlying3 f0
  obtain ⟨dst, e1, g1, _⟩ := DataW.trod_string Tryz.underlying9 f1
  obtain ⟨A2, c2, src, e2, r2, l2, i2⟩ := open_list f2
  obtain ⟨A3, c3, words, e3, r3, l3, i3⟩ := open_list f3
  obtain ⟨st, e4, g4, w4⟩ := DataW.trod_int Tryz.underlying3 f4
  obtain rfl := (List.cons.inj e0).1
  obtain rfl := (List.cons.inj e1).1
  obtain rfl := (List.cons.inj e4).1
  subst e2 e3 g0 g1 g4
  exact ⟨op, dst, A2, c2, src, A3, c3, words, st, y2.1, y3.1, Array.ext' hcs, r2, l2, r3, l3, rfl, i2, i3, w0, w4⟩
theorem sized_list {H : Type} {d : DataW H} {l : List ByteArray} (hd : IsL d l) (h : (DataW.weights Tryz.prog 22 d).all (· ≤ reachBytes) = true) : l.length ≤ 8796093021952 ∧ ∀ x ∈ l, x.size ≤ 140737488351232 := by
  rcases hd with ⟨rfl, rfl⟩ | ⟨sp, rfl⟩
  · exact ⟨by decide, fun x hx => by cases hx⟩
  · simp only [DataW.weights, Tryz.underlying22, weights_strs, List.all_cons, List.all_append, Bool.and_eq_true, bytes9] at h
    refine ⟨?_, fun x hx => ?_⟩
    · have h1 := of_decide_eq_true h.1
      simp only [strs, List.length_map] at h1
      have h2 : reachBytes = 140737488351232 := rfl
      omega
    · exact of_decide_eq_true (List.all_eq_true.1 h.2.1 x.size (List.mem_map.2 ⟨x, hx, rfl⟩))
theorem sized_cmd {H : Type} {op st : Int} {dst src words} {d2 d3 : DataW H} (h2 : IsL d2 src) (h3 : IsL d3 words)
    (h : (DataW.weightsEach Tryz.prog [24] [(.agg [.lit (.int .i64 op), .lit (.string dst), d2, d3, .lit (.int .i64 st)] : DataW H)]).all (· ≤ reachBytes) = true) :
    dst.length ≤ 140737488351232 ∧ (src.length ≤ 8796093021952 ∧ ∀ x ∈ src, x.size ≤ 140737488351232) ∧ (words.length ≤ 8796093021952 ∧ ∀ x ∈ words, x.size ≤ 140737488351232) := by
  simp only [DataW.weightsEach, DataW.weights, Tryz.underlying24, List.map_cons, List.map_nil, List.append_nil, List.nil_append, List.all_cons, List.all_append, List.all_nil, Bool.and_eq_true, Bool.and_true] at h
  exact ⟨of_decide_eq_true h.1, sized_list h2 h.2.1, sized_list h3 h.2.2⟩
theorem bulk_strs {H : Type} : ∀ ss : List ByteArray, ∀ x ∈ ss, x.size < Rows.uptoBulkAll (strs (H := H) ss)
  | [], x, hx => by cases hx
  | s :: r, x, hx => by
    have e : Rows.uptoBulkAll (strs (H := H) (s :: r)) = (s.data.toList.length + 1) + Rows.uptoBulkAll (strs (H := H) r) := rfl
    rw [e]
    rcases List.mem_cons.1 hx with rfl | hx
    · have : x.data.toList.length = x.size := Array.length_toList
      omega
    · have ih := bulk_strs (H := H) r x hx
      omega
theorem bulk_list {H : Type} {d : DataW H} {l : List ByteArray} (hd : IsL d l) : ∀ x ∈ l, x.size ≤ Rows.uptoBulk d := by
  rcases hd with ⟨rfl, rfl⟩ | ⟨sp, rfl⟩
  · intro x hx; cases hx
  · intro x hx
    have h := bulk_strs (H := H) l x hx
    have e : Rows.uptoBulk (.slice (strs l) (strs sp) : DataW H) = Rows.uptoBulkAll (strs (H := H) l) + Rows.uptoBulkAll (strs (H := H) sp) + 1 := rfl
    omega
theorem bulk_cmd {H : Type} {op st : Int} {dst : ByteArray} {src words : List ByteArray} {d2 d3 : DataW H} (h2 : IsL d2 src) (h3 : IsL d3 words)
    (h : Rows.uptoBulkAll [(.agg [.lit (.int .i64 op), .lit (.string dst.data.toList), d2, d3, .lit (.int .i64 st)] : DataW H)] ≤ 1048576) :
    dst.size ≤ 1048576 ∧ (∀ x ∈ src, x.size ≤ 1048576) ∧ (∀ x ∈ words, x.size ≤ 1048576) := by
  have e : Rows.uptoBulkAll [(.agg [.lit (.int .i64 op), .lit (.string dst.data.toList), d2, d3, .lit (.int .i64 st)] : DataW H)] = (1 + ((dst.data.toList.length + 1) + (Rows.uptoBulk d2 + (Rows.uptoBulk d3 + (1 + 0)))) + 1) + 0 := rfl
  rw [e] at h
  have e1 : dst.data.toList.length = dst.size := Array.length_toList
  exact ⟨by omega, fun x hx => by have := bulk_list h2 x hx; omega, fun x hx => by have := bulk_list h3 x hx; omega⟩
def tab32 : List Int := [0, 1, 28, 2, 29, 14, 24, 3, 30, 22, 20, 15, 25, 17, 4, 8, 31, 27, 13, 23, 21, 19, 16, 7, 26, 12, 18, 6, 11, 5, 10, 9]
def tab64 : List Int := [0, 1, 56, 2, 57, 49, 28, 3, 61, 58, 42, 50, 38, 29, 17, 4, 62, 47, 59, 36, 45, 43, 51, 22, 53, 39, 33, 30, 24, 18, 12, 5, 63, 55, 48, 27, 60, 41, 37, 16, 46, 35, 44, 21, 52, 32, 23, 11, 54, 26, 40, 15, 34, 20, 31, 10, 25, 14, 19, 9, 13, 8, 7, 6]
theorem gT : Tryz.prog.globalNamed "internal/strconv.uint64pow10" = some 2 := by kernel_rfl
theorem gTType : (Tryz.prog.globals[2]?).map (·.type) = some 158 := by kernel_rfl
theorem gS : Tryz.prog.globalNamed "strconv.ErrSyntax" = some 0 := by kernel_rfl
theorem gST : (Tryz.prog.globals[0]?).map (·.type) = some 55 := by kernel_rfl
theorem gR : Tryz.prog.globalNamed "strconv.ErrRange" = some 1 := by kernel_rfl
theorem gRT : (Tryz.prog.globals[1]?).map (·.type) = some 55 := by kernel_rfl
theorem cellsT : Tryz.prog.cellsOf 158 = 20 := by kernel_rfl
theorem cellsU : Tryz.prog.cellsOf 120 = 1 := by kernel_rfl
theorem undE : ∃ ms, Tryz.prog.underlying 55 = some (.interface ms) := ⟨_, Tryz.underlying55⟩
theorem err_cell {W : World} {n : String} {g : Nat} {d : DataW Unit} {s : String} (hg : Tryz.prog.globalNamed n = some g) (hty : (Tryz.prog.globals[g]?).map (·.type) = some 55)
    (h : laidMet Tryz.prog [(n, .iface s d)] W) : ∃ te pe, W.cell? ⟨g, 0, none⟩ = some (.iface te pe) := by
  obtain ⟨ps, ⟨g', t', cs, fuel, p, q, hg', ht', hvar, hd, _, _⟩, _⟩ := h
  obtain rfl := Option.some.inj (hg.symm.trans hg')
  obtain rfl := Option.some.inj (hty.symm.trans ht')
  obtain ⟨ms, hu⟩ := undE
  have hc := World.var?_cell hg hvar 0
  cases fuel with
  | zero => simp [DataW.trod] at hd
  | succ fuel =>
    generalize hl : cs.toList = l at hd
    have h0 : cs[0]? = l[0]? := by rw [← hl, Array.getElem?_toList]
    match l, hd, h0 with
    | [.iface u v], _, h0 => exact ⟨u, v, by rw [hc, h0]; rfl⟩
    | [], hd, _ => simp [DataW.trod, hu] at hd
    | _ :: _ :: _, hd, _ => simp [DataW.trod, hu] at hd
    | [.nilIface], hd, _ => simp [DataW.trod, hu] at hd
theorem laid_tab {W : World} {l : List (String × DataW Unit)} (h : laidMet Tryz.prog l W)
    (h1 : (l.filter fun x => x.1 == "internal/strconv.uint64pow10") = [("internal/strconv.uint64pow10", Lib.tabData .u64 Lib.pow10Tab)])
    (h2 : (l.filter fun x => x.1 == "strconv.ErrSyntax") = [("strconv.ErrSyntax", Rows.laid_strconv_ErrSyntax)])
    (h3 : (l.filter fun x => x.1 == "strconv.ErrRange") = [("strconv.ErrRange", Rows.laid_strconv_ErrRange)]) : Sup.Tab W := by
  have e1 := h.filter fun x => x.1 == "internal/strconv.uint64pow10"
  have e2 := h.filter fun x => x.1 == "strconv.ErrSyntax"
  have e3 := h.filter fun x => x.1 == "strconv.ErrRange"
  rw [h1] at e1
  rw [h2] at e2
  rw [h3] at e3
  exact ⟨err_cell gS gST e2, err_cell gR gRT e3, Lib.tabIs_of_head (rest := []) gT gTType Tryz.underlying158 Tryz.underlying120 cellsU cellsT e1⟩
/-- A world for the witness: the settled one, the listed variables holding what their initialisers lay. -/
noncomputable def laidWorld (os : Os) : World :=
  let w0 := World.holding Tryz.prog os ⟨#[], #[], []⟩
  { w0 with heap := ((((((w0.heap.modify 4 fun | .cells _ t fr => .cells (tab32.map fun z => Value.int .u8 z).toArray t fr | o => o).modify 5 fun | .cells _ t fr => .cells (tab64.map fun z => Value.int .u8 z).toArray t fr | o => o).modify 2 fun | .cells _ t fr => .cells (Lib.pow10Tab.map fun z => Value.int .u64 z).toArray t fr | o => o).modify
    1 fun | .cells _ t fr => .cells #[.iface 154 (.pointer (some ⟨w0.heap.size, 0, none⟩))] t fr | o => o).modify
    0 fun | .cells _ t fr => .cells #[.iface 154 (.pointer (some ⟨w0.heap.size + 1, 0, none⟩))] t fr | o => o).push (.cells #[.string ⟨#[118, 97, 108, 117, 101, 32, 111, 117, 116, 32, 111, 102, 32, 114, 97, 110, 103, 101]⟩] 156 (0, 0))).push (.cells #[.string ⟨#[105, 110, 118, 97, 108, 105, 100, 32, 115, 121, 110, 116, 97, 120]⟩] 156 (0, 0)) }
theorem tab {W : World} (h : laidMetH Tryz.prog Rows.cmdBackUptoRow.laid W) : Sup.Tab W := by
  exact laid_tab (laidMetH_iff.1 h).1 rfl rfl rfl
theorem contract (H : Type) (enc : TypeId × Value → H) (W : World) (base : Nat) (args : Array Value) (ds gs : List (DataW H)) (before : List MemPlace)
    (hval : ∀ (j : Nat) t v, Tryz.f7.params[j]? = some t → args[j]? = some v → Value.okWide Tryz.prog W .any base t v)
    (hW : DataW.Whole enc Tryz.prog Tryz.f7.params.toList Rows.cmdBackSpec.vars false W args.toList ds gs before)
    (hsz0 : (DataW.weightsEach Tryz.prog (Tryz.f7.params.toList ++ Rows.cmdBackSpec.plain.varTypes Tryz.prog) (ds ++ gs)).all (· ≤ reachBytes) = true) (hL : laidMetH Tryz.prog Rows.cmdBackUptoRow.laid W) (hbulk : Rows.uptoBulkAll (ds ++ gs) ≤ 1048576) :
    Calls Tryz.prog 7 args W fun e W' => ∃ v, e = .returned v ∧ Rows.cmdBackSpec.post enc Tryz.prog Tryz.f7 false true false false W args v W' := by
  have hW' := hW
  obtain ⟨p, q, hA0, hV, rfl, _, _⟩ := hW
  have hA : DataW.TrodAll enc Tryz.prog W 0 (fun _ => true) true Tryz.f7.params.toList args.toList ds p := hA0
  rw [Tryz.params7] at hA hval
  obtain ⟨v0, d0, rfl, rfl, h0⟩ := trodAll_one hA
  obtain ⟨rfl, rfl⟩ := trodVars_none hV
  obtain ⟨cs, rfl, _⟩ := okWide_struct Tryz.underlying24 (hval 0 24 v0 rfl rfl)
  have h0k := h0
  obtain ⟨fuel, hf⟩ := h0
  clear hA0
  simp only [List.append_nil] at hW' hsz0 hbulk
  have hsz : (DataW.weightsEach Tryz.prog [24] [d0]).all (· ≤ reachBytes) = true := hsz0
  have hlt : ∀ x ∈ p, x.block < W.heap.size := fun x hx => by simpa using hW'.lt x hx
  have hT := tab hL
  obtain ⟨op, dst, A2, c2, src, A3, c3, words, st, d2, d3, rfl, r2, l2, r3, l3, hx, i2, i3, w0, w4⟩ := open_cmd hf
  simp only at hx
  rw [hx] at hsz hbulk
  obtain ⟨_, ⟨z2, _⟩, ⟨z3, _⟩⟩ := sized_cmd i2 i3 hsz
  obtain ⟨b1, b2, b3⟩ := bulk_cmd i2 i3 hbulk
  refine (PCmdBack.smithylaw16_CmdBack.calls 70000 op dst A2 c2 src A3 c3 words st true W r2 l2 r3 l3 hT (Pure.CmdBack 70000 (Nat.le_refl _) op dst src words st (by omega) (by omega) b1 b2 b3)).mono fun e W' ⟨he, bel⟩ => ?_
  subst he
  exact ⟨_, rfl, _, _, _, [] ++ [], p, [], hW', trodAll_mk1 (shut_bool Tryz.underlying4 _), trodAll_mk1 (Below.trod laidOut (by kernel_rfl) (of_decide_eq_true (by kernel_rfl)) h0k bel hlt), rfl, bel.frame _, fun h => by cases h⟩
theorem laid_met (os : Os) : laidMet Tryz.prog Rows.cmdBackUptoRow.laid ((laidWorld os).forCall (fun _ _ => 0) ⟨#[], #[.agg #[.int .i64 0, .string ⟨#[]⟩, .slice none 0 0, .slice none 0 0, .int .i64 0]], []⟩).memory :=
  laidMet_of_run' 8 (by kernel_rfl) (by kernel_rfl)
theorem reads (os : Os) {H : Type} (enc : TypeId × Value → H) : ∃ places, DataW.whole enc Tryz.prog ((laidWorld os).forCall (fun _ _ => 0) ⟨#[], #[.agg #[.int .i64 0, .string ⟨#[]⟩, .slice none 0 0, .slice none 0 0, .int .i64 0]], []⟩).memory Tryz.f7.params.toList Rows.cmdBackSpec.vars false #[Value.agg #[.int .i64 0, .string ⟨#[]⟩, .slice none 0 0, .slice none 0 0, .int .i64 0]].toList 8 = some ([.agg [.lit (.int .i64 0), .lit (.string []), .nil, .nil, .lit (.int .i64 0)]], [], places) :=
  ⟨[], by kernel_rfl⟩
theorem lifted (os : Os) (started : os.Started) (H : Type) (enc : TypeId × Value → H) (F : Stop.Interp) :
    ReturnsInHanded {} Tryz.checked os 7 .any ((Rows.OpenSpec.upto Rows.cmdBackSpec).preRow enc Tryz.prog Tryz.f7 Rows.cmdBackUptoRow.domain false Rows.cmdBackUptoRow.laid) (((Rows.OpenSpec.upto Rows.cmdBackSpec).at F).post enc Tryz.prog Tryz.f7 false true false false) := by
  obtain ⟨places, hx⟩ := reads os enc
  refine returnsInHanded_of_row (C := Tryz.checked) (s := Rows.OpenSpec.upto Rows.cmdBackSpec) own started (by kernel_rfl) Tryz.func7
    (witness_row_at (enc := enc) (C := Tryz.checked) false (laidWorld os) #[.agg #[.int .i64 0, .string ⟨#[]⟩, .slice none 0 0, .slice none 0 0, .int .i64 0]] rfl (by kernel_rfl) (by kernel_rfl) (by kernel_rfl)
      (OpenSpec.preRow_of_cond 8 hx (by kernel_rfl) (fun k hk => by obtain rfl := Option.some.inj hk; kernel_rfl) (by kernel_rfl) (laid_met os))) ?_
  intro W base args ds gs before hval hW _ hk hsz hL _ _
  exact contract H enc W base args ds gs before hval hW hsz hL (of_decide_eq_true (hk _ rfl))
theorem said : Rows.CmdBackUptoSaid :=
  OpenClaim.holds_of_cond 7 Tryz.f7 rfl rfl rfl rfl rfl rfl rfl ⟨rfl, rfl, rfl, rfl, rfl⟩ rfl rfl rfl rfl rfl (by kernel_rfl) Tryz.func7 (by kernel_rfl)
    (of_decide_eq_true (by kernel_rfl)) (by unfold Func.isWrapper; first | (rw [if_pos (by decide +kernel)]; kernel_rfl) | (rw [if_neg (by decide +kernel)]; exact ⟨rfl, rfl⟩))
    (fun os started H enc _ F => by rw [OpenClaim.pre_eq_preRow]; exact lifted os started H enc F)
theorem plain (f : FuncId) (fn : Func) (hf : Tryz.pinned.checked.prog.funcNamed "smithy/smithylaw16.CmdBack" = some f) (hfn : Tryz.pinned.checked.prog.funcs[f]? = some fn) :
    true = Tryz.pinned.checked.prog.looks [] ∧ ∀ (j : Nat) t, fn.params[j]? = some t → Tryz.pinned.checked.prog.wantsStandIn t = false := by
  obtain rfl : f = 7 := Option.some.inj ((show Tryz.prog.funcNamed "smithy/smithylaw16.CmdBack" = some 7 by kernel_rfl).symm.trans hf) |>.symm
  obtain rfl : fn = Tryz.f7 := (Option.some.inj (Tryz.func7.symm.trans hfn)).symm
  refine ⟨by kernel_rfl, fun j t ht => ?_⟩
  rw [Tryz.params7] at ht
  obtain rfl : t = 24 := by simpa using Array.mem_of_getElem? ht
  exact (show Tryz.prog.wantsStandIn 24 = false by kernel_rfl)
theorem card : Rows.CmdBackUptoCardSaid :=
  Claim7.holds_tied_plain_at .later [] _ _ _ _ said (fun _ h => by cases h) (by kernel_rfl) (fun _ h => by cases h) cmdBackUpto_row_tie rfl ⟨rfl, rfl⟩ (by kernel_rfl) rfl plain (by kernel_rfl)
#print axioms card
end Go.Proofs.YtpiafpkpdbknfaaGreatDoor.cmdBack
namespace Go.Proofs.YtpiafpkpdbknfaaGreatDoor
theorem cmdBackUpto_holds : Rows.CmdBackUptoCardSaid := cmdBack.card
end Go.Proofs.YtpiafpkpdbknfaaGreatDoor
