/- The card of ExecDoes: the walk and the plain law, joined. Conditions: the given statement's own. -/
import Derived.Test.YtepdiooaoegpfaaGreatDoorCards
import Derived.Test.YtepdiooaoegpfaaGreatDoorTie
import Derived.Test.YtepdiooaoegpfaaGreatDoorPkFx20
import Derived.Test.YtepdiooaoegpfaaGreatDoorPkEv23
import Derived.WalkKit
import Derived.ProofKit
import Derived.OpenShut
import Derived.ShutString
import Derived.ChangeOld
import Derived.Below
import Derived.SliceStrings
import Derived.JoinedCond
import Derived.Carry
import Derived.SizedLaws
import Derived.Deep.DeepHandedRow
import Derived.Lib.LaidTab
import Derived.Lib.ItoaNum
import Derived.LaidSub
namespace Go.Proofs.YtepdiooaoegpfaaGreatDoor.execDoes
open Go Go.Ev Go.ChangeShapes Go.WideShapes Go.ChangeAt Go.RowKit
set_option linter.unusedVariables false
set_option maxRecDepth 100000
theorem own : ownKnob Tryz.prog.godebug = none := by kernel_rfl
theorem laidOut : laidOutB Tryz.prog = true := by kernel_rfl
def tab32 : List Int := [0, 1, 28, 2, 29, 14, 24, 3, 30, 22, 20, 15, 25, 17, 4, 8, 31, 27, 13, 23, 21, 19, 16, 7, 26, 12, 18, 6, 11, 5, 10, 9]
def tab64 : List Int := [0, 1, 56, 2, 57, 49, 28, 3, 61, 58, 42, 50, 38, 29, 17, 4, 62, 47, 59, 36, 45, 43, 51, 22, 53, 39, 33, 30, 24, 18, 12, 5, 63, 55, 48, 27, 60, 41, 37, 16, 46, 35, 44, 21, 52, 32, 23, 11, 54, 26, 40, 15, 34, 20, 31, 10, 25, 14, 19, 9, 13, 8, 7, 6]
theorem gT : Tryz.prog.globalNamed "internal/strconv.uint64pow10" = some 3 := by kernel_rfl
theorem gTType : (Tryz.prog.globals[3]?).map (·.type) = some 213 := by kernel_rfl
theorem gS : Tryz.prog.globalNamed "strconv.ErrSyntax" = some 1 := by kernel_rfl
theorem gST : (Tryz.prog.globals[1]?).map (·.type) = some 127 := by kernel_rfl
theorem gR : Tryz.prog.globalNamed "strconv.ErrRange" = some 2 := by kernel_rfl
theorem gRT : (Tryz.prog.globals[2]?).map (·.type) = some 127 := by kernel_rfl
theorem cellsT : Tryz.prog.cellsOf 213 = 20 := by kernel_rfl
theorem cellsU : Tryz.prog.cellsOf 196 = 1 := by kernel_rfl
theorem undE : ∃ ms, Tryz.prog.underlying 127 = some (.interface ms) := ⟨_, Tryz.underlying127⟩
theorem err_cell {W : World} {n : String} {g : Nat} {d : DataW Unit} {s : String} (hg : Tryz.prog.globalNamed n = some g) (hty : (Tryz.prog.globals[g]?).map (·.type) = some 127)
    (h : laidMet Tryz.prog [(n, .iface s d)] W) : (∃ te pe, W.cell? ⟨g, 0, none⟩ = some (.iface te pe)) ∧ ∃ cs e f, W.heap[g]? = some (.cells cs e f) ∧ cs.size = 1 := by
  obtain ⟨ps, ⟨g', t', cs, fuel, p, q, hg', ht', hvar, hd, _, _⟩, _⟩ := h
  obtain rfl := Option.some.inj (hg.symm.trans hg')
  obtain rfl := Option.some.inj (hty.symm.trans ht')
  obtain ⟨ms, hu⟩ := undE
  have hc := World.var?_cell hg hvar 0
  cases fuel with
  | zero => simp [DataW.trod] at hd
  | succ fuel =>
    generalize hl : cs.toList = l at hd
    have h0 : cs[0]? = l[0]? := by rw [← hl, Array.getElem?_toList]
    match l, hd, h0 with
    | [.iface u v], _, h0 =>
      refine ⟨⟨u, v, by rw [hc, h0]; rfl⟩, ?_⟩
      have hv := hvar
      unfold World.var? at hv
      rw [hg, Option.bind_some] at hv
      split at hv
      · rename_i cs' e f hh
        cases hv
        exact ⟨cs, e, f, hh, by have := congrArg List.length hl; simpa using this⟩
      · cases hv
    | [], hd, _ => simp [DataW.trod, hu] at hd
    | _ :: _ :: _, hd, _ => simp [DataW.trod, hu] at hd
    | [.nilIface], hd, _ => simp [DataW.trod, hu] at hd
theorem laid_glob {W : World} {l : List (String × DataW Unit)} (h : laidMet Tryz.prog l W)
    (h1 : (l.filter fun x => x.1 == "internal/strconv.uint64pow10") = [("internal/strconv.uint64pow10", Lib.tabData .u64 Lib.pow10Tab)])
    (h2 : (l.filter fun x => x.1 == "strconv.ErrSyntax") = [("strconv.ErrSyntax", Rows.laid_strconv_ErrSyntax)])
    (h3 : (l.filter fun x => x.1 == "strconv.ErrRange") = [("strconv.ErrRange", Rows.laid_strconv_ErrRange)]) : GlobOk W (blockHw W) := by
  have e1 := h.filter fun x => x.1 == "internal/strconv.uint64pow10"
  have e2 := h.filter fun x => x.1 == "strconv.ErrSyntax"
  have e3 := h.filter fun x => x.1 == "strconv.ErrRange"
  rw [h1] at e1
  rw [h2] at e2
  rw [h3] at e3
  obtain ⟨a1, a2⟩ := err_cell gS gST e2
  obtain ⟨b1, b2⟩ := err_cell gR gRT e3
  exact Fx.glob_of a1 b1 a2 b2 (Lib.tabIs_of_head (rest := []) gT gTType Tryz.underlying213 Tryz.underlying196 cellsU cellsT e1)
/-- A world for the witness: the settled one, the listed variables holding what their initialisers lay. -/
noncomputable def laidWorld (os : Os) : World :=
  let w0 := World.holding Tryz.prog os ⟨#[], #[], []⟩
  { w0 with heap := ((((((w0.heap.modify 4 fun | .cells _ t fr => .cells (tab32.map fun z => Value.int .u8 z).toArray t fr | o => o).modify 5 fun | .cells _ t fr => .cells (tab64.map fun z => Value.int .u8 z).toArray t fr | o => o).modify 3 fun | .cells _ t fr => .cells (Lib.pow10Tab.map fun z => Value.int .u64 z).toArray t fr | o => o).modify
    2 fun | .cells _ t fr => .cells #[.iface 209 (.pointer (some ⟨w0.heap.size, 0, none⟩))] t fr | o => o).modify
    1 fun | .cells _ t fr => .cells #[.iface 209 (.pointer (some ⟨w0.heap.size + 1, 0, none⟩))] t fr | o => o).push (.cells #[.string ⟨#[118, 97, 108, 117, 101, 32, 111, 117, 116, 32, 111, 102, 32, 114, 97, 110, 103, 101]⟩] 211 (0, 0))).push (.cells #[.string ⟨#[105, 110, 118, 97, 108, 105, 100, 32, 115, 121, 110, 116, 97, 120]⟩] 211 (0, 0)) }
theorem contract (H : Type) (enc : TypeId × Value → H) (W : World) (base : Nat) (args : Array Value) (ds gs : List (DataW H)) (before : List MemPlace)
    (hval : ∀ (j : Nat) t v, Tryz.f3.params[j]? = some t → args[j]? = some v → Value.okWide Tryz.prog W .any base t v)
    (hW : DataW.Whole enc Tryz.prog Tryz.f3.params.toList Rows.execDoesSpec.vars false W args.toList ds gs before)
    (hsz0 : (DataW.weightsEach Tryz.prog (Tryz.f3.params.toList ++ Rows.execDoesSpec.plain.varTypes Tryz.prog) (ds ++ gs)).all (· ≤ reachBytes) = true) (hL : laidMetH Tryz.prog Rows.execDoesUptoRow.laid W) (hbulk : Rows.uptoBulkAll (ds ++ gs) ≤ 1048576) :
    Calls Tryz.prog 3 args W fun e W' => ∃ v, e = .returned v ∧ Rows.execDoesSpec.post enc Tryz.prog Tryz.f3 false true false false W args v W' := by
  have hW' := hW
  obtain ⟨p, q, hA0, hV, rfl, _, _⟩ := hW
  have hA : DataW.TrodAll enc Tryz.prog W 0 (fun _ => true) true Tryz.f3.params.toList args.toList ds p := hA0
  obtain ⟨rfl, rfl⟩ := trodVars_none hV

  simp only [List.append_nil] at hbulk hW'
  have hlt : ∀ x ∈ p, x.block < W.heap.size := fun x hx => by simpa using hW'.lt x hx
  have hsz : (DataW.weightsEach Tryz.prog Tryz.f3.params.toList ds).all (· ≤ 1048576 * 64) = true := Fx.bulk_each (S := 64) (d := 8) (by decide) (by kernel_rfl) hbulk
  obtain ⟨avs, hR, hS⟩ := args_av (R := 1048576 * 64) (by decide) (d := 8) _ _ ds p hA (fun j t v h h' => hval j t v (by simpa using h) (by simpa using h')) (by kernel_rfl) hsz
  obtain ⟨n, t, c, k, l, rfl, hz, hl⟩ := Fx.does_args (by decide) hS
  have C := XPure.row (Fx.c_law_Does (t := t) (clock := c) (k := k) (l := l) hz hl) W args.toList (laid_glob (laidMetH_iff.1 hL).1 rfl rfl rfl) hR
  rw [Array.toArray_toList] at C
  refine C.mono fun e W' ⟨he, bel⟩ => ?_
  subst he
  rw [Tryz.params3] at hA
  obtain ⟨v0, d0, rfl, rfl, h0⟩ := trodAll_one hA
  exact ⟨_, rfl, _, _, _, [] ++ [], p, [], hW', trodAll_mk1 (shut_bool Tryz.underlying4 _), trodAll_mk1 (Below.trod laidOut (by kernel_rfl) (of_decide_eq_true (by kernel_rfl)) h0 bel hlt), rfl, bel.frame _, fun h => by cases h⟩
theorem laid_met (os : Os) : laidMet Tryz.prog Rows.execDoesUptoRow.laid ((laidWorld os).forCall (fun _ _ => 0) ⟨#[], #[.agg #[.string ⟨#[]⟩, .slice none 0 0, .slice none 0 0, .bool false, .string ⟨#[]⟩, .string ⟨#[]⟩, .bool false, .bool false, .bool false, .bool false, .string ⟨#[]⟩, .int .i64 0, .slice none 0 0, .int .i64 0]], []⟩).memory :=
  laidMet_of_run' 8 (by kernel_rfl) (by kernel_rfl)
theorem reads (os : Os) {H : Type} (enc : TypeId × Value → H) : ∃ places, DataW.whole enc Tryz.prog ((laidWorld os).forCall (fun _ _ => 0) ⟨#[], #[.agg #[.string ⟨#[]⟩, .slice none 0 0, .slice none 0 0, .bool false, .string ⟨#[]⟩, .string ⟨#[]⟩, .bool false, .bool false, .bool false, .bool false, .string ⟨#[]⟩, .int .i64 0, .slice none 0 0, .int .i64 0]], []⟩).memory Tryz.f3.params.toList Rows.execDoesSpec.vars false #[Value.agg #[.string ⟨#[]⟩, .slice none 0 0, .slice none 0 0, .bool false, .string ⟨#[]⟩, .string ⟨#[]⟩, .bool false, .bool false, .bool false, .bool false, .string ⟨#[]⟩, .int .i64 0, .slice none 0 0, .int .i64 0]].toList 8 = some ([.agg [.agg [.lit (.string []), .nil, .nil, .lit (.bool false), .lit (.string []), .lit (.string []), .lit (.bool false), .lit (.bool false), .lit (.bool false), .lit (.bool false)], .lit (.string []), .agg [.lit (.int .i64 0), .nil], .lit (.int .i64 0)]], [], places) :=
  ⟨[], by kernel_rfl⟩
theorem lifted (os : Os) (started : os.Started) (H : Type) (enc : TypeId × Value → H) (F : Stop.Interp) :
    ReturnsInHanded {} Tryz.checked os 3 .any ((Rows.OpenSpec.upto Rows.execDoesSpec).preRow enc Tryz.prog Tryz.f3 Rows.execDoesUptoRow.domain false Rows.execDoesUptoRow.laid) (((Rows.OpenSpec.upto Rows.execDoesSpec).at F).post enc Tryz.prog Tryz.f3 false true false false) := by
  obtain ⟨places, hx⟩ := reads os enc
  refine returnsInHanded_of_row (C := Tryz.checked) (s := Rows.OpenSpec.upto Rows.execDoesSpec) own started (by kernel_rfl) Tryz.func3
    (witness_row_at (enc := enc) (C := Tryz.checked) false (laidWorld os) #[.agg #[.string ⟨#[]⟩, .slice none 0 0, .slice none 0 0, .bool false, .string ⟨#[]⟩, .string ⟨#[]⟩, .bool false, .bool false, .bool false, .bool false, .string ⟨#[]⟩, .int .i64 0, .slice none 0 0, .int .i64 0]] rfl (by kernel_rfl) (by kernel_rfl) (by kernel_rfl)
      (OpenSpec.preRow_of_cond 8 hx (by kernel_rfl) (fun k hk => by obtain rfl := Option.some.inj hk; kernel_rfl) (by kernel_rfl) (laid_met os))) ?_
  intro W base args ds gs before hval hW _ hk hsz hL _ _
  exact contract H enc W base args ds gs before hval hW hsz hL (of_decide_eq_true (hk _ rfl))
theorem said : Rows.ExecDoesUptoSaid :=
  OpenClaim.holds_of_cond 3 Tryz.f3 rfl rfl rfl rfl rfl rfl rfl ⟨rfl, rfl, rfl, rfl, rfl⟩ rfl rfl rfl rfl rfl (by kernel_rfl) Tryz.func3 (by kernel_rfl)
    (of_decide_eq_true (by kernel_rfl)) (by unfold Func.isWrapper; first | (rw [if_pos (by decide +kernel)]; kernel_rfl) | (rw [if_neg (by decide +kernel)]; exact ⟨rfl, rfl⟩))
    (fun os started H enc _ F => by rw [OpenClaim.pre_eq_preRow]; exact lifted os started H enc F)
theorem plain (f : FuncId) (fn : Func) (hf : Tryz.pinned.checked.prog.funcNamed "smithy/smithylaw17.ExecDoes" = some f) (hfn : Tryz.pinned.checked.prog.funcs[f]? = some fn) :
    true = Tryz.pinned.checked.prog.looks [] ∧ ∀ (j : Nat) t, fn.params[j]? = some t → Tryz.pinned.checked.prog.wantsStandIn t = false := by
  obtain rfl : f = 3 := Option.some.inj ((show Tryz.prog.funcNamed "smithy/smithylaw17.ExecDoes" = some 3 by kernel_rfl).symm.trans hf) |>.symm
  obtain rfl : fn = Tryz.f3 := (Option.some.inj (Tryz.func3.symm.trans hfn)).symm
  refine ⟨by kernel_rfl, fun j t ht => ?_⟩
  rw [Tryz.params3] at ht
  have ht' : t ∈ [29] := Array.mem_toList_iff.2 (Array.mem_of_getElem? ht)
  rcases List.mem_cons.1 ht' with rfl | ht'
  · exact (show Tryz.prog.wantsStandIn 29 = false by kernel_rfl)
  · cases ht'
theorem card : Rows.ExecDoesUptoCardSaid :=
  Claim7.holds_tied_plain_at .later [] _ _ _ _ said (fun _ h => by cases h) (by kernel_rfl) (fun _ h => by cases h) execDoesUpto_row_tie rfl ⟨rfl, rfl⟩ (by kernel_rfl) rfl plain (by kernel_rfl)
#print axioms card
end Go.Proofs.YtepdiooaoegpfaaGreatDoor.execDoes
namespace Go.Proofs.YtepdiooaoegpfaaGreatDoor
theorem execDoesUpto_holds : Rows.ExecDoesUptoCardSaid := execDoes.card
end Go.Proofs.YtepdiooaoegpfaaGreatDoor
