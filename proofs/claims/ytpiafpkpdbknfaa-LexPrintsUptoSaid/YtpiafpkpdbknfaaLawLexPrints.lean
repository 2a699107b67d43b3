/- The row LexPrintsUpto: the walk (printed) and the plain law, joined. Conditions: the given statement's own. -/
import Derived.Test.YtpiafpkpdbknfaaRows
import Derived.Test.YtpiafpkpdbknfaaPLexPrintsx3
import Derived.Test.YtpiafpkpdbknfaaPureLexPrints
import Derived.WalkKit
import Derived.ProofKit
import Derived.OpenShut
import Derived.ShutString
import Derived.ChangeOld
import Derived.Below
import Derived.SliceStrings
import Derived.JoinedCond
import Derived.Carry
namespace Go.Proofs.Ytpiafpkpdbknfaa.lexPrintsUpto
open Go.ChangeShapes Go.WideShapes Go.ChangeAt Go.RowKit Go.Proofs.YtpiafpkpdbknfaaW.PrintWords
set_option linter.unusedVariables false
theorem own : ownKnob Try.prog.godebug = none := by kernel_rfl
theorem laidOut : laidOutB Try.prog = true := by kernel_rfl
theorem cells9 : Try.prog.cellsOf 9 = 1 := by kernel_rfl
theorem bulk_strs {H : Type} : ∀ ss : List ByteArray, Rows.uptoBulkAll (strs (H := H) ss) = Lib.lens (ss.map (·.data.toList)) + ss.length
  | [] => by simp [strs, Rows.uptoBulkAll, Lib.lens]
  | s :: r => by
    have ih := bulk_strs (H := H) r
    simp only [strs, List.map_cons, Rows.uptoBulkAll, Rows.uptoBulk, Lib.lens, List.sum_cons, List.length_cons] at ih ⊢
    omega
theorem reads_of {W : World} {a : Addr} {ss : List ByteArray} (len : Nat) (hl : len ≤ ss.length) (hm : ss.length ≤ maxLen) (hcell : ∀ i, i < ss.length → W.cell? (a.add i) = some (.string (ss.getD i ByteArray.empty))) :
    Kd.C Kd.string W (some a) (ss.take len).length (ss.take len) := by
  have hmx : maxLen ≤ 9223372036854775807 := by decide
  have hlen : (ss.take len).length = len := by rw [List.length_take]; omega
  refine ⟨rfl, by omega, fun _ => ⟨a, rfl, fun j p hj => ⟨[.string p], rfl, rfl, fun i u hu => ?_⟩⟩⟩
  have hjl : j < len := by
    have := (List.getElem?_eq_some_iff.1 hj).1
    omega
  cases i with
  | succ i => simp at hu
  | zero =>
    simp only [List.getElem?_cons_zero, Option.some.injEq] at hu
    subst hu
    show W.cell? (a.add (j * 1 + 0)) = _
    rw [Nat.mul_one, Nat.add_zero, hcell j (by omega)]
    rw [List.getElem?_take_of_lt hjl] at hj
    rw [List.getD_eq_getElem?_getD, hj]
    rfl
set_option maxRecDepth 100000 in
theorem lifted (os : Os) (started : os.Started) (H : Type) (enc : TypeId × Value → H) (F : Stop.Interp) :
    ReturnsInHanded {} Try.checked os 5 .any ((Rows.OpenSpec.upto Rows.lexPrintsSpec).pre6 enc Try.prog Try.f5 Rows.lexPrintsUptoRow.domain false) (((Rows.OpenSpec.upto Rows.lexPrintsSpec).at F).post enc Try.prog Try.f5 false true false false) := by
  refine returnsInHanded_of_cond (C := Try.checked) (s := Rows.OpenSpec.upto Rows.lexPrintsSpec) (k := Rows.uptoSmall) rfl own started (by kernel_rfl) Try.func5
    (OpenSpec.witness (enc := enc) (C := Try.checked) (s := Rows.OpenSpec.upto Rows.lexPrintsSpec) (k := Rows.uptoSmall) rfl false ⟨#[], #[.slice none 0 0, .string .empty], []⟩ 8 (by kernel_rfl) (by kernel_rfl) (by kernel_rfl)
      (x := ([.nil, .lit (.string [])], [], [])) (by kernel_rfl) rfl (by kernel_rfl)) ?_
  intro W base args ds gs before hval0 hW _ hk _
  have hval : ∀ (j : Nat) t v, Try.f5.params[j]? = some t → args[j]? = some v → Value.okWide Try.prog W .any base t v := hval0
  have hW' := hW
  obtain ⟨p, q, hA0, hV, rfl, _, _⟩ := hW
  have hA : DataW.TrodAll enc Try.prog W 0 (fun _ => true) true Try.f5.params.toList args.toList ds p := hA0
  rw [Try.params5] at hA hval
  obtain ⟨v0, vs0, d0, ds0, p0, q0, hargs, rfl, rfl, h0, r0⟩ := trodAll_cons hA
  obtain ⟨v1, vs1, d1, ds1, p1, q1, hargs1, rfl, rfl, h1, r1⟩ := trodAll_cons r0
  obtain ⟨rfl, rfl, rfl⟩ := trodAll_nil r1
  obtain rfl : args = #[v0, v1] := by cases args; simp_all
  obtain ⟨a1, rfl, rfl, rfl, y1⟩ := ChangeMaps.open_string Try.underlying9 (hval 1 9 v1 rfl rfl) h1
  obtain ⟨rfl, rfl⟩ := trodVars_none hV
  obtain ⟨a0, len, cap, rfl⟩ := okWide_slice Try.underlying22 (hval 0 22 v0 rfl rfl)
  have h0k := h0
  obtain ⟨fuel, hf⟩ := h0
  clear hA0 hval0
  simp only [List.append_nil] at hW' hk
  have hlt : ∀ x ∈ p0, x.block < W.heap.size := fun x hx => hW'.lt x (by simp [hx])
  have hsz1 : a1.data.toList.length = a1.size := by simp
  have hb : Rows.uptoBulkAll [d0, .lit (.string a1.data.toList)] ≤ 1048576 := of_decide_eq_true hk
  have fin : ∀ (l : List ByteArray) (A : Option Addr) (c : Nat), Kd.C Kd.string W A l.length l → l.length ≤ c → Lib.lens (l.map (·.data.toList)) + l.length + a1.size ≤ 1048576 → a0 = A → len = l.length → cap = c →
      Calls Try.checked.prog 5 #[.slice a0 len cap, .string a1] W fun e W' => ∃ v, e = Ending.returned v ∧ (((Rows.OpenSpec.upto Rows.lexPrintsSpec).at F).post enc Try.checked.prog Try.f5 false true false false) W #[.slice a0 len cap, .string a1] v W' := by
    intro l A c hr hc hl e1 e2 e3
    subst e1 e2 e3
    obtain ⟨k, hk⟩ := Pure.LexPrints l a1 hl
    refine (PLexPrints.smithylaw15_LexPrints.calls k a0 cap l a1 true W hr hc hk).mono fun e W' ⟨he, bel⟩ => ?_
    subst he
    exact ⟨_, rfl, _, _, _, [] ++ [], _, [], hW', trodAll_mk1 (shut_bool Try.underlying4 _), trodAll_cons_mk (Below.trod laidOut (by kernel_rfl) (of_decide_eq_true (by kernel_rfl)) h0k bel hlt) (trodAll_cons_mk (ChangeMaps.shut_string Try.underlying9 y1) trodAll_mk0), rfl, bel.frame _, fun h => by cases h⟩
  rcases open_strings Try.underlying22 Try.underlying9 cells9 hf with ⟨hcs, hx⟩ | ⟨a, len', cap', ss, hcs, _, hl, hm, hz, hx, hcell, hws⟩
  · simp [Value.cells] at hcs
    obtain ⟨rfl, rfl, rfl⟩ := hcs
    have hb3 : a1.size ≤ 1048576 := by
      simp only [Rows.uptoBulkAll, Rows.uptoBulk] at hb
      omega
    exact fin [] none 0 ⟨rfl, by decide, fun h => absurd h (by decide)⟩ (Nat.le_refl _) (by simpa [Lib.lens] using hb3) rfl rfl rfl
  · simp [Value.cells] at hcs
    obtain ⟨rfl, rfl, rfl⟩ := hcs
    simp only [Prod.mk.injEq] at hx
    obtain ⟨rfl, rfl⟩ := hx
    simp only [if_true] at hz
    have hlen : (ss.take len).length = len := by rw [List.length_take]; omega
    have hb2 : Lib.lens ((ss.take len).map (·.data.toList)) + (ss.take len).length + a1.size ≤ 1048576 := by
      have := bulk_strs (H := H) (ss.take len)
      simp only [Rows.uptoBulkAll, Rows.uptoBulk] at hb
      omega
    exact fin (ss.take len) (some a) cap (reads_of len (by omega) (by omega) hcell) (by omega) hb2 rfl hlen.symm rfl
theorem proved : Rows.LexPrintsUptoSaid :=
  OpenClaim.holds_of_cond 5 Try.f5 rfl rfl rfl rfl rfl rfl rfl ⟨rfl, rfl, rfl, rfl, rfl⟩ rfl rfl rfl rfl rfl (by kernel_rfl) Try.func5 (by kernel_rfl)
    (of_decide_eq_true (by kernel_rfl)) (by unfold Func.isWrapper; first | (rw [if_pos (by decide +kernel)]; kernel_rfl) | (rw [if_neg (by decide +kernel)]; exact ⟨rfl, rfl⟩))
    (fun os started H enc _ F => lifted os started H enc F)
#print axioms proved
end Go.Proofs.Ytpiafpkpdbknfaa.lexPrintsUpto
namespace Go.Proofs.Ytpiafpkpdbknfaa
theorem lexPrintsUpto_holds : Rows.LexPrintsUptoSaid := lexPrintsUpto.proved
end Go.Proofs.Ytpiafpkpdbknfaa
