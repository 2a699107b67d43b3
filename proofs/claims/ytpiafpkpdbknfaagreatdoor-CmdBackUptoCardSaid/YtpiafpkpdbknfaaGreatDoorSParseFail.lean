/- cmd.Parse: 'fail' with an operand, whole. Conditions: those in each statement. -/
import Derived.Test.YtpiafpkpdbknfaaGreatDoorSParseFail1
import Derived.Lib.AtoiAllCases
namespace Go.Proofs.YtpiafpkpdbknfaaGreatDoor.Sup
open Go.RowKit Go.Proofs.YtpiafpkpdbknfaaGreatDoorW.PrintWords Go.Proofs.YtpiafpkpdbknfaaGreatDoorW.PrintLast Go.Proofs.YtpiafpkpdbknfaaGreatDoorW.PrintMore
attribute [local go_sem] max2_int min2_int max_two min_two max_three min_three max_four min_four
set_option linter.unusedVariables false
set_option linter.unusedSimpArgs false
theorem failN_err {s : ByteArray} (hv : ∀ v, Lib.atoiAll s.data.toList ≠ .ok v) : failN s = 0 := by
  unfold failN
  split
  · rename_i v hv'; exact absurd hv' (hv v)
  · rfl
theorem failN_ok {s : ByteArray} {v : Int} (hv : Lib.atoiAll s.data.toList = .ok v) : failN s = if (⟨(Lib.itoa v).toArray⟩ : ByteArray) = s ∧ 1 ≤ v ∧ v ≤ 255 then v else 0 := by
  unfold failN
  rw [hv]
theorem list_ne {q s : ByteArray} (h : q ≠ s) : (q.toList == s.toList) = false := by
  refine beq_eq_false_iff_ne.2 (fun e => h ?_)
  rw [ByteArray.toList_eq, ByteArray.toList_eq] at e
  exact ByteArray.ext (Array.ext' e)
theorem parse_fail_no (s : ByteArray) (hs : s.size ≤ 140737488355328) (hn0 : failN s = 0) (A0 : Option Addr) (c0 : Nat) (x : ByteArray) (w : World) (hr : Kd.C Kd.string w A0 (x :: [s]).length (x :: [s])) (hc : (x :: [s]).length ≤ c0) (hl : (x :: [s]).length ≤ 514)
    (HH : HeadsOk) (HL : CloneOk) (HX : IndexOk x 6) (HCNT : CountOk 7 ([s].length : Int) true) (hT : Tab w) :
    Calls Tryz.prog 9 #[.slice A0 (x :: [s]).length c0] w fun ev w' => parseP w w' ev 0 ByteArray.empty [] [] 0 160 := by
  by_cases hv : ∃ v, Lib.atoiAll s.data.toList = .ok v
  · obtain ⟨v, hv⟩ := hv
    obtain ⟨h0, h1⟩ := Lib.atoiAll_bounds hv
    rw [failN_ok hv] at hn0
    by_cases hq : (⟨(Lib.itoa v).toArray⟩ : ByteArray) = s
    · by_cases h2 : v < 1
      · exact parse_fail_lt s hs v hv h0 h1 hq (decide_eq_true h2) A0 c0 x w hr hc hl HH HL HX HCNT hT
      · by_cases h3 : v > 255
        · exact parse_fail_gt s hs v hv h0 h1 hq (decide_eq_false h2) (decide_eq_true h3) A0 c0 x w hr hc hl HH HL HX HCNT hT
        · rw [if_pos ⟨hq, by omega, by omega⟩] at hn0
          omega
    · exact parse_fail_ne s hs v hv h0 h1 _ rfl (list_ne hq) A0 c0 x w hr hc hl HH HL HX HCNT hT
  · exact parse_fail_err s hs (fun v e => hv ⟨v, e⟩) A0 c0 x w hr hc hl HH HL HX HCNT hT
theorem parse_fail_n (s : ByteArray) (hs : s.size ≤ 140737488355328) (hn0 : ¬ failN s = 0) (A0 : Option Addr) (c0 : Nat) (x : ByteArray) (w : World) (hr : Kd.C Kd.string w A0 (x :: [s]).length (x :: [s])) (hc : (x :: [s]).length ≤ c0) (hl : (x :: [s]).length ≤ 514)
    (HH : HeadsOk) (HL : CloneOk) (HX : IndexOk x 6) (HCNT : CountOk 7 ([s].length : Int) true) (HF : FilesOk [] 0) (hT : Tab w) :
    Calls Tryz.prog 9 #[.slice A0 (x :: [s]).length c0] w fun ev w' => parseP w w' ev 7 ByteArray.empty [] [] (failN s) 0 := by
  by_cases hv : ∃ v, Lib.atoiAll s.data.toList = .ok v
  · obtain ⟨v, hv⟩ := hv
    obtain ⟨h0, h1⟩ := Lib.atoiAll_bounds hv
    rw [failN_ok hv] at hn0 ⊢
    by_cases hq : (⟨(Lib.itoa v).toArray⟩ : ByteArray) = s ∧ 1 ≤ v ∧ v ≤ 255
    · rw [if_pos hq]
      exact parse_fail_ok s hs v hv h0 h1 hq.1 (decide_eq_false (by omega)) (decide_eq_false (by omega)) A0 c0 x w hr hc hl HH HL HX HCNT HF hT
    · rw [if_neg hq] at hn0
      exact absurd rfl hn0
  · exact absurd (failN_err (fun v e => hv ⟨v, e⟩)) hn0
end Go.Proofs.YtpiafpkpdbknfaaGreatDoor.Sup
