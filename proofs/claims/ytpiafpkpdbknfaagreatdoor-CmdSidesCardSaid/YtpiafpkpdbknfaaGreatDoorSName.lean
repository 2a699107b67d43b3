/- smithyref02.Name walked. Conditions: those in each statement. -/
import Derived.Test.YtpiafpkpdbknfaaGreatDoorSParse
namespace Go.Proofs.YtpiafpkpdbknfaaGreatDoor.Sup
open Go.RowKit Go.Proofs.YtpiafpkpdbknfaaGreatDoorW.PrintWords Go.Proofs.YtpiafpkpdbknfaaGreatDoorW.PrintLast Go.Proofs.YtpiafpkpdbknfaaGreatDoorW.PrintMore
set_option linter.unusedVariables false
set_option linter.unusedSimpArgs false
/-- The bytes of names. -/
def nameN (n : Int) : Bool := (decide (97 ≤ n) && decide (n ≤ 122)) || (decide (65 ≤ n) && decide (n ≤ 90)) || (decide (48 ≤ n) && decide (n ≤ 57)) || n == 95 || n == 45 || n == 46 || n == 47 || n == 43
def nameC (c : UInt8) : Bool := nameN (c.toNat : Int)
theorem name_cases (n : Int) : (nameN n = true ∧ ((97 ≤ n ∧ n ≤ 122) ∨ (65 ≤ n ∧ n ≤ 90) ∨ (48 ≤ n ∧ n ≤ 57) ∨ n = 95 ∨ n = 45 ∨ n = 46 ∨ n = 47 ∨ n = 43)) ∨
    (nameN n = false ∧ (n ≠ 95 ∧ n ≠ 45 ∧ n ≠ 46 ∧ n ≠ 47 ∧ n ≠ 43) ∧ (122 < n ∨ (90 < n ∧ n < 97) ∨ (57 < n ∧ n < 65) ∨ n < 48)) := by
  by_cases h : nameN n = true
  · left
    refine ⟨h, ?_⟩
    simp only [nameN, Bool.or_eq_true, Bool.and_eq_true, decide_eq_true_eq, beq_iff_eq] at h
    omega
  · right
    refine ⟨by simpa using h, ?_⟩
    simp only [nameN, Bool.or_eq_true, Bool.and_eq_true, decide_eq_true_eq, beq_iff_eq] at h
    omega
theorem take_all (l : List UInt8) (p : Nat) (h : p < l.length) (ha : (l.take p).all nameC = true) : (l.take (p + 1)).all nameC = nameC l[p] := by
  rw [List.take_succ_eq_append_getElem h, List.all_append, ha]
  simp
theorem all_false (l : List UInt8) (p : Nat) (h : p < l.length) (hc : nameC l[p] = false) : l.all nameC = false := by
  rw [List.all_eq_false]
  exact ⟨l[p], List.getElem_mem h, by simp [hc]⟩
set_option maxHeartbeats 4000000 in
set_option maxRecDepth 100000 in
theorem name_walk (s : ByteArray) (w : World) (hs : s.size ≤ 140737488351232) :
    Calls Tryz.prog 55 #[.string s] w fun e w' => e = .returned (.bool (s.data.toList.all nameC && (decide (0 < s.size) && decide (s.size ≤ 64)))) ∧ Below w.heap.size w w' := by
  go_enter Tryz.func55, Tryz.ntmps55
  go_wp2
  go_loopw [3] (fun i wr => ∃ (p : Nat), i = .int .i64 p ∧ p ≤ s.size ∧ Aside0 ((s.data.toList.take p).all nameC = true) ∧ Aside0 (Below w.heap.size w wr)) (fun i _ => s.size - (intOf i).toNat)
  case atStart => exact ⟨0, by go_num, by omega, ⟨rfl⟩, ⟨Below.refl _ _⟩⟩
  case round =>
    obtain ⟨p, rfl, hp, HA, HB⟩ := hrel
    by_cases hlt : p < s.size
    · have hlt' : p < s.data.toList.length := by simpa using hlt
      obtain ⟨n, hn⟩ : ∃ n : Int, ((s[p]'hlt).toNat : Int) = n := ⟨_, rfl⟩
      have HN := Aside0.mk (show nameC (s.data.toList[p]'hlt') = nameN n by rw [← hn]; rfl)
      rcases name_cases n with ⟨hg, h⟩ | ⟨hg, ⟨n1, n2, n3, n4, n5⟩, h⟩
      · have HG := Aside0.mk hg
        clear hg
        rcases h with ⟨h1, h2⟩ | ⟨h1, h2⟩ | ⟨h1, h2⟩ | rfl | rfl | rfl | rfl | rfl
        all_goals
          (try first | (have a1 : decide (97 ≤ n) = true := decide_eq_true (by omega)) | (have a1 : decide (97 ≤ n) = false := decide_eq_false (by omega)))
          (try first | (have a2 : decide (n ≤ 122) = true := decide_eq_true (by omega)) | (have a2 : decide (n ≤ 122) = false := decide_eq_false (by omega)))
          (try first | (have a3 : decide (65 ≤ n) = true := decide_eq_true (by omega)) | (have a3 : decide (65 ≤ n) = false := decide_eq_false (by omega)))
          (try first | (have a4 : decide (n ≤ 90) = true := decide_eq_true (by omega)) | (have a4 : decide (n ≤ 90) = false := decide_eq_false (by omega)))
          (try first | (have a5 : decide (48 ≤ n) = true := decide_eq_true (by omega)) | (have a5 : decide (48 ≤ n) = false := decide_eq_false (by omega)))
          (try first | (have a6 : decide (n ≤ 57) = true := decide_eq_true (by omega)) | (have a6 : decide (n ≤ 57) = false := decide_eq_false (by omega)))
          (try clear h1 h2)
          go_wp2
          go_roundw
          case rel => exact ⟨p + 1, by go_num, by omega, ⟨by rw [take_all _ _ hlt' HA.out, HN.out]; exact HG.out⟩, HB⟩
          case measure => simp [intOf]; omega
      · have HG := Aside0.mk hg
        clear hg
        have b1 : (n == 95) = false := beq_eq_false_iff_ne.2 n1
        have b1' : (n != 95) = true := bne_iff_ne.2 n1
        have b2 : (n == 45) = false := beq_eq_false_iff_ne.2 n2
        have b2' : (n != 45) = true := bne_iff_ne.2 n2
        have b3 : (n == 46) = false := beq_eq_false_iff_ne.2 n3
        have b3' : (n != 46) = true := bne_iff_ne.2 n3
        have b4 : (n == 47) = false := beq_eq_false_iff_ne.2 n4
        have b4' : (n != 47) = true := bne_iff_ne.2 n4
        have b5 : (n == 43) = false := beq_eq_false_iff_ne.2 n5
        have b5' : (n != 43) = true := bne_iff_ne.2 n5
        clear n1 n2 n3 n4 n5
        rcases h with h | ⟨h, h'⟩ | ⟨h, h'⟩ | h
        all_goals
          (first | (have a1 : decide (97 ≤ n) = true := decide_eq_true (by omega)) | (have a1 : decide (97 ≤ n) = false := decide_eq_false (by omega)))
          (try (have a2 : decide (n ≤ 122) = false := decide_eq_false (by omega)))
          (first | (have a3 : decide (65 ≤ n) = true := decide_eq_true (by omega)) | (have a3 : decide (65 ≤ n) = false := decide_eq_false (by omega)))
          (try (have a4 : decide (n ≤ 90) = false := decide_eq_false (by omega)))
          (first | (have a5 : decide (48 ≤ n) = true := decide_eq_true (by omega)) | (have a5 : decide (48 ≤ n) = false := decide_eq_false (by omega)))
          (try (have a6 : decide (n ≤ 57) = false := decide_eq_false (by omega)))
          (try clear h)
          (try clear h')
          go_wp2
          go_ret
          exact ⟨by rw [all_false _ _ hlt' (HN.out.trans HG.out)]; rfl, HB.out⟩
    · have hall : s.data.toList.all nameC = true := by
        have h_ := HA.out
        rwa [List.take_of_length_le (by simp; omega)] at h_
      have HALL := Aside0.mk hall
      clear hall
      by_cases h0 : 0 < s.size
      · have z0 : decide (0 < (s.size : Int)) = true := decide_eq_true (by omega)
        by_cases h6 : s.size ≤ 64
        · have z1 : decide ((s.size : Int) ≤ 64) = true := decide_eq_true (by omega)
          go_wp2
          go_ret
          exact ⟨by rw [HALL.out, decide_eq_true h0, decide_eq_true h6]; rfl, HB.out⟩
        · have z1 : decide ((s.size : Int) ≤ 64) = false := decide_eq_false (by omega)
          go_wp2
          go_ret
          exact ⟨by rw [HALL.out, decide_eq_false h6, Bool.and_false]; rfl, HB.out⟩
      · have z0 : decide (0 < (s.size : Int)) = false := decide_eq_false (by omega)
        go_wp2
        go_ret
        exact ⟨by rw [decide_eq_false h0, Bool.false_and, Bool.and_false]; rfl, HB.out⟩
end Go.Proofs.YtpiafpkpdbknfaaGreatDoor.Sup
