/- Written by programs of this session: laws and contracts that the law's proof stands on, merged into one text. Conditions: none beyond those in each statement. -/
import Derived.Test.YtepdiooaoegpfaaGreatDoorPkFx3
import Derived.Test.YtepdiooaoegpfaaGreatDoorPkFx2
import Derived.Test.YtepdiooaoegpfaaGreatDoorPkEv4
section
/- What is compared: files, disks, what a command did. Conditions: those in each statement. -/
namespace Go.Proofs.YtepdiooaoegpfaaGreatDoor.Fx
open Go Go.Proofs Go.Ev Go.RowKit
set_option maxRecDepth 100000
set_option maxHeartbeats 1600000
set_option linter.unusedSimpArgs false
set_option linter.unusedVariables false
def sameF (a b : File) : Bool := beqS a.name b.name && beqS a.text b.text && (a.stamp == b.stamp)
def sameGo : List File → List File → Bool
  | a :: l, b :: m => sameF a b && sameGo l m
  | _, _ => true
def sameFs (l m : List File) : Bool := decide (l.length = m.length) && sameGo l m
theorem sameGo_step {l m : List File} {i : Nat} (h : i < l.length) (k : i < m.length) : sameGo (l.drop i) (m.drop i) = (sameF (l.getD i File.none) (m.getD i File.none) && sameGo (l.drop (i + 1)) (m.drop (i + 1))) := by
  rw [drop_getD File.none h, drop_getD File.none k]; rfl
theorem sameGo_end {l m : List File} {i : Nat} (h : ¬ i < l.length) : sameGo (l.drop i) (m.drop i) = true := by
  rw [List.drop_eq_nil_of_le (by omega)]; rfl
theorem c_plain_Files {l m : List File} (hl : l.length ≤ 1000000000) (hm : m.length ≤ 1000000000) : XPure Tryz.prog 33 [eFs l, eFs m] (bln (sameFs l m)) false := by
  refine XPure.body ⟨_, Tryz.func33, rfl, by kernel_rfl⟩ Tryz.func33 rfl (Nat.le_of_ble_eq_true (by rfl)) (pf_of1 rfl) fun env => ?_
  repeat' ((conv => whnf); (fail_if_success (with_reducible show ∃ _, _ ∧ _ ∧ Weak _ _ _)); first
    | ((with_reducible show guardA _ _ _ _ _ _ ∨ _); first
      | (refine .inr ?_; (conv => whnf); refine ⟨_, ?_, fun h => rfl, rfl, ?_⟩; ((conv => whnf); first | exact trivial | (refine ⟨?_, trivial⟩; (first | exact fun h => h | exact fun _ => rfl | exact notF | exact andL | exact andR | exact fun h' => andI h h' | exact fun h' => andN h h'))))
      | (refine .inr ?_; (conv => whnf); refine ⟨_, trivial, fun h => ⟨?_, ?_, ?_, rfl⟩, rfl, ?_⟩; (first | exact h | rfl); (first | exact fun h => h | exact fun _ => rfl | exact notF | exact andL | exact andR | exact fun h' => andI h h' | exact fun h' => andN h h'); (first | exact fun h => h | exact fun _ => rfl | exact notF | exact andL | exact andR | exact fun h' => andI h h' | exact fun h' => andN h h'))
      | (refine .inl ?_; (conv => whnf); first | refine gY (by with_reducible first | rfl | assumption) ?_ | refine gTF (by with_reducible first | rfl | assumption) ?_ | refine gFT (by with_reducible first | rfl | assumption) ?_ | ((first | refine gsT (fun h => ?_) (fun h => ?_) | refine gsF (fun h => ?_) (fun h => ?_)) <;> (have hs := h; try simp only [reduceCtorEq, emptyLit, emptyLit2, Int.reduceEq, Int.reduceNe, Int.reduceLT, Int.reduceLE, Int.reduceBEq, Int.reduceBNe, false_and, and_false, false_or, or_false, true_and, and_true, true_or, or_true, not_true_eq_false, not_false_eq_true, cond_true, cond_false, Int.toNat_natCast, List.length_map, beqS_iff, beqS_no, Bool.cond_true_left, Bool.cond_false_right, Bool.or_eq_true, Bool.or_eq_false_iff, Bool.and_eq_true, Bool.and_eq_false_iff, decide_eq_true_eq, decide_eq_false_iff_not, Bool.not_eq_true', Bool.not_eq_false', beq_iff_eq, bne_iff_ne, beq_eq_false_iff_ne, bne_eq_false_iff_eq, Int.ofNat_lt, Int.ofNat_le, Int.not_lt, Int.not_le, ge_iff_le, gt_iff_lt, ne_eq] at hs)))
      | (refine .inl ?_))
    | refine cTrue (by with_reducible first | rfl | assumption) ?_
    | refine cFalse (by with_reducible first | rfl | assumption) ?_
    | refine gY (by with_reducible first | rfl | assumption) ?_
    | refine gTF (by with_reducible first | rfl | assumption) ?_
    | refine gFT (by with_reducible first | rfl | assumption) ?_
    | ((first | refine gsT (fun h => ?_) (fun h => ?_) | refine gsF (fun h => ?_) (fun h => ?_) | refine ⟨fun h => ?_, fun h => ?_⟩) <;> (have hs := h; try simp only [reduceCtorEq, emptyLit, emptyLit2, Int.reduceEq, Int.reduceNe, Int.reduceLT, Int.reduceLE, Int.reduceBEq, Int.reduceBNe, false_and, and_false, false_or, or_false, true_and, and_true, true_or, or_true, not_true_eq_false, not_false_eq_true, cond_true, cond_false, Int.toNat_natCast, List.length_map, beqS_iff, beqS_no, Bool.cond_true_left, Bool.cond_false_right, Bool.or_eq_true, Bool.or_eq_false_iff, Bool.and_eq_true, Bool.and_eq_false_iff, decide_eq_true_eq, decide_eq_false_iff_not, Bool.not_eq_true', Bool.not_eq_false', beq_iff_eq, bne_iff_ne, beq_eq_false_iff_ne, bne_eq_false_iff_eq, Int.ofNat_lt, Int.ofNat_le, Int.not_lt, Int.not_le, ge_iff_le, gt_iff_lt, ne_eq] at hs))
    | ((with_reducible show _ ∧ _ ∧ Weak _ _ _); refine ⟨?_, ?_, Weak.go⟩; (omega))
    | ((with_reducible show (_ ∧ _ ∧ _) ∧ _); refine ⟨⟨by kernel_rfl, by kernel_rfl, by rfl⟩, ?_⟩)
    | ((with_reducible show AV.pf _ = true ∧ _); refine ⟨pf_of1 rfl, ?_⟩)
    | (refine ⟨rfl, ?_, ?_, ?_⟩; (first | exact fun h => h | exact fun _ => rfl | exact notF | exact andL | exact andR | exact fun h' => andI h h' | exact fun h' => andN h h'); (first | exact fun h => h | exact fun _ => rfl | exact notF | exact andL | exact andR | exact fun h' => andI h h' | exact fun h' => andN h h'))
    | ((with_reducible show (_ ∨ _) ∧ _ ∧ retA _ _ _ _ _); refine ⟨?_, rfl, ?_⟩; (first | exact .inr rfl | exact .inl rfl))
    | ((with_reducible show _ = _ ∧ _ = false ∧ _ = _); refine ⟨?_, rfl, rfl⟩; try (first | rfl | (conv => lhs; whnf)))
    | ((with_reducible show LeqD _ _); try (first | (repeat' (first | exact LeqD.refl _ | exact LeqDL.refl _ | assumption | exact LeqD.nil (by decide) | refine LeqDL.cons ?_ ?_ | refine LeqD.agg ?_ | refine LeqD.tup ?_ | refine LeqD.sl ?_); done) | (first | rfl | (conv => lhs; whnf))); done)
    | ((with_reducible show _ = _ ∧ (_ → _)); refine ⟨?_, ?_⟩; try (first | rfl | (conv => lhs; whnf)))
    | exact fun h => h
    | exact fun _ => rfl
    | refine ⟨rfl, ?_⟩
    | (refine ⟨Nat.le_of_ble_eq_true rfl, ?_⟩)
    | (refine ⟨?_, ?_, ?_⟩; (first | (refine sizeOk rfl ?_; simp only [List.length_map, List.length_append, List.length_take, List.length_drop, List.length_cons, List.length_nil]; omega) | omega | (simp only [List.length_map, List.length_append, List.length_take, List.length_drop, List.length_cons, List.length_nil]; omega)); (first | (refine sizeOk rfl ?_; simp only [List.length_map, List.length_append, List.length_take, List.length_drop, List.length_cons, List.length_nil]; omega) | omega | (simp only [List.length_map, List.length_append, List.length_take, List.length_drop, List.length_cons, List.length_nil]; omega)))
    | (refine ⟨?_, ?_⟩; (first | (refine sizeOk rfl ?_; simp only [List.length_map, List.length_append, List.length_take, List.length_drop, List.length_cons, List.length_nil]; omega) | omega | (simp only [List.length_map, List.length_append, List.length_take, List.length_drop, List.length_cons, List.length_nil]; omega)))
    | rw [wrapId (by omega) (by omega)]
    | fail)
  · have e : sameFs l m = false := by unfold sameFs; rw [decide_eq_false (by omega), Bool.false_and]
    rw [e]
  · have e : sameFs l m = sameGo l m := by unfold sameFs; rw [decide_eq_true (by omega), Bool.true_and]
    refine XW.countL l.length [0, 1, 12] (fun i => [(13, i64 i)]) (fun _ => []) (fun _ => []) (fun i => sameFs l m = sameGo (l.drop i) (m.drop i)) Weak.go e ?_
    intro i hi hA
    refine codeS ?_
    repeat' ((conv => whnf); (fail_if_success (with_reducible show ∃ _, _ ∧ _ ∧ Weak _ _ _)); first
      | ((with_reducible show guardA _ _ _ _ _ _ ∨ _); first
        | (refine .inr ?_; (conv => whnf); refine ⟨_, ?_, fun h => rfl, rfl, ?_⟩; ((conv => whnf); first | exact trivial | (refine ⟨?_, trivial⟩; (first | exact fun h => h | exact fun _ => rfl | exact notF | exact andL | exact andR | exact fun h' => andI h h' | exact fun h' => andN h h'))))
        | (refine .inr ?_; (conv => whnf); refine ⟨_, trivial, fun h => ⟨?_, ?_, ?_, rfl⟩, rfl, ?_⟩; (first | exact h | rfl); (first | exact fun h => h | exact fun _ => rfl | exact notF | exact andL | exact andR | exact fun h' => andI h h' | exact fun h' => andN h h'); (first | exact fun h => h | exact fun _ => rfl | exact notF | exact andL | exact andR | exact fun h' => andI h h' | exact fun h' => andN h h'))
        | (refine .inl ?_; (conv => whnf); first | refine gY (by with_reducible first | rfl | assumption) ?_ | refine gTF (by with_reducible first | rfl | assumption) ?_ | refine gFT (by with_reducible first | rfl | assumption) ?_ | ((first | refine gsT (fun h => ?_) (fun h => ?_) | refine gsF (fun h => ?_) (fun h => ?_)) <;> (have hs := h; try simp only [reduceCtorEq, emptyLit, emptyLit2, Int.reduceEq, Int.reduceNe, Int.reduceLT, Int.reduceLE, Int.reduceBEq, Int.reduceBNe, false_and, and_false, false_or, or_false, true_and, and_true, true_or, or_true, not_true_eq_false, not_false_eq_true, cond_true, cond_false, Int.toNat_natCast, List.length_map, beqS_iff, beqS_no, Bool.cond_true_left, Bool.cond_false_right, Bool.or_eq_true, Bool.or_eq_false_iff, Bool.and_eq_true, Bool.and_eq_false_iff, decide_eq_true_eq, decide_eq_false_iff_not, Bool.not_eq_true', Bool.not_eq_false', beq_iff_eq, bne_iff_ne, beq_eq_false_iff_ne, bne_eq_false_iff_eq, Int.ofNat_lt, Int.ofNat_le, Int.not_lt, Int.not_le, ge_iff_le, gt_iff_lt, ne_eq] at hs)))
        | (refine .inl ?_))
      | refine cTrue (by with_reducible first | rfl | assumption) ?_
      | refine cFalse (by with_reducible first | rfl | assumption) ?_
      | refine gY (by with_reducible first | rfl | assumption) ?_
      | refine gTF (by with_reducible first | rfl | assumption) ?_
      | refine gFT (by with_reducible first | rfl | assumption) ?_
      | ((first | refine gsT (fun h => ?_) (fun h => ?_) | refine gsF (fun h => ?_) (fun h => ?_) | refine ⟨fun h => ?_, fun h => ?_⟩) <;> (have hs := h; try simp only [reduceCtorEq, emptyLit, emptyLit2, Int.reduceEq, Int.reduceNe, Int.reduceLT, Int.reduceLE, Int.reduceBEq, Int.reduceBNe, false_and, and_false, false_or, or_false, true_and, and_true, true_or, or_true, not_true_eq_false, not_false_eq_true, cond_true, cond_false, Int.toNat_natCast, List.length_map, beqS_iff, beqS_no, Bool.cond_true_left, Bool.cond_false_right, Bool.or_eq_true, Bool.or_eq_false_iff, Bool.and_eq_true, Bool.and_eq_false_iff, decide_eq_true_eq, decide_eq_false_iff_not, Bool.not_eq_true', Bool.not_eq_false', beq_iff_eq, bne_iff_ne, beq_eq_false_iff_ne, bne_eq_false_iff_eq, Int.ofNat_lt, Int.ofNat_le, Int.not_lt, Int.not_le, ge_iff_le, gt_iff_lt, ne_eq] at hs))
      | ((with_reducible show _ ∧ _ ∧ Weak _ _ _); refine ⟨?_, ?_, Weak.go⟩; (omega))
      | refine XW.draw (m := 9) (by kernel_rfl) (by kernel_rfl) (by rfl) ?_
      | ((with_reducible show (_ ∧ _ ∧ _) ∧ _); refine ⟨⟨by kernel_rfl, by kernel_rfl, by rfl⟩, ?_⟩)
      | ((with_reducible show AV.pf _ = true ∧ _); refine ⟨pf_of1 rfl, ?_⟩)
      | (refine ⟨rfl, ?_, ?_, ?_⟩; (first | exact fun h => h | exact fun _ => rfl | exact notF | exact andL | exact andR | exact fun h' => andI h h' | exact fun h' => andN h h'); (first | exact fun h => h | exact fun _ => rfl | exact notF | exact andL | exact andR | exact fun h' => andI h h' | exact fun h' => andN h h'))
      | ((with_reducible show (_ ∨ _) ∧ _ ∧ retA _ _ _ _ _); refine ⟨?_, rfl, ?_⟩; (first | exact .inr rfl | exact .inl rfl))
      | ((with_reducible show _ = _ ∧ _ = false ∧ _ = _); refine ⟨?_, rfl, rfl⟩; try (first | rfl | (conv => lhs; whnf)))
      | ((with_reducible show LeqD _ _); try (first | (repeat' (first | exact LeqD.refl _ | exact LeqDL.refl _ | assumption | exact LeqD.nil (by decide) | refine LeqDL.cons ?_ ?_ | refine LeqD.agg ?_ | refine LeqD.tup ?_ | refine LeqD.sl ?_); done) | (first | rfl | (conv => lhs; whnf))); done)
      | ((with_reducible show _ = _ ∧ (_ → _)); refine ⟨?_, ?_⟩; try (first | rfl | (conv => lhs; whnf)))
      | exact fun h => h
      | exact fun _ => rfl
      | refine ⟨rfl, ?_⟩
      | (refine ⟨Nat.le_of_ble_eq_true rfl, ?_⟩)
      | (refine ⟨?_, ?_, ?_⟩; (first | (refine sizeOk rfl ?_; simp only [List.length_map, List.length_append, List.length_take, List.length_drop, List.length_cons, List.length_nil]; omega) | omega | (simp only [List.length_map, List.length_append, List.length_take, List.length_drop, List.length_cons, List.length_nil]; omega)); (first | (refine sizeOk rfl ?_; simp only [List.length_map, List.length_append, List.length_take, List.length_drop, List.length_cons, List.length_nil]; omega) | omega | (simp only [List.length_map, List.length_append, List.length_take, List.length_drop, List.length_cons, List.length_nil]; omega)))
      | (refine ⟨?_, ?_⟩; (first | (refine sizeOk rfl ?_; simp only [List.length_map, List.length_append, List.length_take, List.length_drop, List.length_cons, List.length_nil]; omega) | omega | (simp only [List.length_map, List.length_append, List.length_take, List.length_drop, List.length_cons, List.length_nil]; omega)))
      | rw [getD_mapI (File.none) (by omega)]
      | rw [getD_map (File.none) (by omega)]
      | rw [wrapId (by omega) (by omega)]
      | fail)
    · have e2 : sameF (l.getD i File.none) (m.getD i File.none) = false := by
        rw [← Bool.not_eq_true]; simp only [sameF, Bool.and_eq_true, beqS_iff, beq_iff_eq]; grind
      rw [hA, sameGo_step ‹_› (by omega), e2]; rfl
    · have e2 : sameF (l.getD i File.none) (m.getD i File.none) = true := by
        simp only [sameF, Bool.and_eq_true, beqS_iff, beq_iff_eq]; grind
      rw [hA, sameGo_step ‹_› (by omega), e2, Bool.true_and]
    · rw [hA, sameGo_end hs]
theorem c_plain_Disk {a b : Int} {l m : List File} (hl : l.length ≤ 1000000000) (hm : m.length ≤ 1000000000) : XPure Tryz.prog 12 [eD a l, eD b m] (bln ((a == b) && sameFs l m)) false := by
  refine XPure.body ⟨_, Tryz.func12, rfl, by kernel_rfl⟩ Tryz.func12 rfl (Nat.le_of_ble_eq_true (by rfl)) (pf_of1 rfl) fun env => ?_
  repeat' ((conv => whnf); (fail_if_success (with_reducible show ∃ _, _ ∧ _ ∧ Weak _ _ _)); first
    | ((with_reducible show guardA _ _ _ _ _ _ ∨ _); first
      | (refine .inr ?_; (conv => whnf); refine ⟨_, ?_, fun h => rfl, rfl, ?_⟩; ((conv => whnf); first | exact trivial | (refine ⟨?_, trivial⟩; (first | exact fun h => h | exact fun _ => rfl | exact notF | exact andL | exact andR | exact fun h' => andI h h' | exact fun h' => andN h h'))))
      | (refine .inr ?_; (conv => whnf); refine ⟨_, trivial, fun h => ⟨?_, ?_, ?_, rfl⟩, rfl, ?_⟩; (first | exact h | rfl); (first | exact fun h => h | exact fun _ => rfl | exact notF | exact andL | exact andR | exact fun h' => andI h h' | exact fun h' => andN h h'); (first | exact fun h => h | exact fun _ => rfl | exact notF | exact andL | exact andR | exact fun h' => andI h h' | exact fun h' => andN h h'))
      | (refine .inl ?_; (conv => whnf); first | refine gY (by with_reducible first | rfl | assumption) ?_ | refine gTF (by with_reducible first | rfl | assumption) ?_ | refine gFT (by with_reducible first | rfl | assumption) ?_ | ((first | refine gsT (fun h => ?_) (fun h => ?_) | refine gsF (fun h => ?_) (fun h => ?_)) <;> (have hs := h; try simp only [reduceCtorEq, emptyLit, emptyLit2, Int.reduceEq, Int.reduceNe, Int.reduceLT, Int.reduceLE, Int.reduceBEq, Int.reduceBNe, false_and, and_false, false_or, or_false, true_and, and_true, true_or, or_true, not_true_eq_false, not_false_eq_true, cond_true, cond_false, Int.toNat_natCast, List.length_map, beqS_iff, beqS_no, Bool.cond_true_left, Bool.cond_false_right, Bool.or_eq_true, Bool.or_eq_false_iff, Bool.and_eq_true, Bool.and_eq_false_iff, decide_eq_true_eq, decide_eq_false_iff_not, Bool.not_eq_true', Bool.not_eq_false', beq_iff_eq, bne_iff_ne, beq_eq_false_iff_ne, bne_eq_false_iff_eq, Int.ofNat_lt, Int.ofNat_le, Int.not_lt, Int.not_le, ge_iff_le, gt_iff_lt, ne_eq] at hs)))
      | (refine .inl ?_))
    | refine cTrue (by with_reducible first | rfl | assumption) ?_
    | refine cFalse (by with_reducible first | rfl | assumption) ?_
    | refine gY (by with_reducible first | rfl | assumption) ?_
    | refine gTF (by with_reducible first | rfl | assumption) ?_
    | refine gFT (by with_reducible first | rfl | assumption) ?_
    | ((first | refine gsT (fun h => ?_) (fun h => ?_) | refine gsF (fun h => ?_) (fun h => ?_) | refine ⟨fun h => ?_, fun h => ?_⟩) <;> (have hs := h; try simp only [reduceCtorEq, emptyLit, emptyLit2, Int.reduceEq, Int.reduceNe, Int.reduceLT, Int.reduceLE, Int.reduceBEq, Int.reduceBNe, false_and, and_false, false_or, or_false, true_and, and_true, true_or, or_true, not_true_eq_false, not_false_eq_true, cond_true, cond_false, Int.toNat_natCast, List.length_map, beqS_iff, beqS_no, Bool.cond_true_left, Bool.cond_false_right, Bool.or_eq_true, Bool.or_eq_false_iff, Bool.and_eq_true, Bool.and_eq_false_iff, decide_eq_true_eq, decide_eq_false_iff_not, Bool.not_eq_true', Bool.not_eq_false', beq_iff_eq, bne_iff_ne, beq_eq_false_iff_ne, bne_eq_false_iff_eq, Int.ofNat_lt, Int.ofNat_le, Int.not_lt, Int.not_le, ge_iff_le, gt_iff_lt, ne_eq] at hs))
    | (refine .inl ⟨_, _, c_plain_Files hl hm, ?_⟩)
    | ((with_reducible show _ ∧ _ ∧ Weak _ _ _); refine ⟨?_, ?_, Weak.go⟩; (omega))
    | ((with_reducible show (_ ∧ _ ∧ _) ∧ _); refine ⟨⟨by kernel_rfl, by kernel_rfl, by rfl⟩, ?_⟩)
    | ((with_reducible show AV.pf _ = true ∧ _); refine ⟨pf_of1 rfl, ?_⟩)
    | (refine ⟨rfl, ?_, ?_, ?_⟩; (first | exact fun h => h | exact fun _ => rfl | exact notF | exact andL | exact andR | exact fun h' => andI h h' | exact fun h' => andN h h'); (first | exact fun h => h | exact fun _ => rfl | exact notF | exact andL | exact andR | exact fun h' => andI h h' | exact fun h' => andN h h'))
    | ((with_reducible show (_ ∨ _) ∧ _ ∧ retA _ _ _ _ _); refine ⟨?_, rfl, ?_⟩; (first | exact .inr rfl | exact .inl rfl))
    | ((with_reducible show _ = _ ∧ _ = false ∧ _ = _); refine ⟨?_, rfl, rfl⟩; try (first | rfl | (conv => lhs; whnf)))
    | ((with_reducible show LeqD _ _); try (first | (repeat' (first | exact LeqD.refl _ | exact LeqDL.refl _ | assumption | exact LeqD.nil (by decide) | refine LeqDL.cons ?_ ?_ | refine LeqD.agg ?_ | refine LeqD.tup ?_ | refine LeqD.sl ?_); done) | (first | rfl | (conv => lhs; whnf))); done)
    | ((with_reducible show _ = _ ∧ (_ → _)); refine ⟨?_, ?_⟩; try (first | rfl | (conv => lhs; whnf)))
    | exact fun h => h
    | exact fun _ => rfl
    | refine ⟨rfl, ?_⟩
    | (refine ⟨Nat.le_of_ble_eq_true rfl, ?_⟩)
    | (refine ⟨?_, ?_, ?_⟩; (first | (refine sizeOk rfl ?_; simp only [List.length_map, List.length_append, List.length_take, List.length_drop, List.length_cons, List.length_nil]; omega) | omega | (simp only [List.length_map, List.length_append, List.length_take, List.length_drop, List.length_cons, List.length_nil]; omega)); (first | (refine sizeOk rfl ?_; simp only [List.length_map, List.length_append, List.length_take, List.length_drop, List.length_cons, List.length_nil]; omega) | omega | (simp only [List.length_map, List.length_append, List.length_take, List.length_drop, List.length_cons, List.length_nil]; omega)))
    | (refine ⟨?_, ?_⟩; (first | (refine sizeOk rfl ?_; simp only [List.length_map, List.length_append, List.length_take, List.length_drop, List.length_cons, List.length_nil]; omega) | omega | (simp only [List.length_map, List.length_append, List.length_take, List.length_drop, List.length_cons, List.length_nil]; omega)))
    | rw [wrapId (by omega) (by omega)]
    | fail)
  · exact congrArg (fun b => bln b) (Bool.cond_false_right ..)
  · exact congrArg (fun b => bln b) (by rw [h, Bool.false_and])
structure Done where
  clock : Int
  files : List File
  said : ByteArray
  wrote : Bool
  status : Int
  code : Int
abbrev eDone (x : Done) : AV := .agg [i64 x.clock, eFs x.files, str x.said, bln x.wrote, i64 x.status, i64 x.code]
end Go.Proofs.YtepdiooaoegpfaaGreatDoor.Fx
end
section
/- Names, nodes and plans. Conditions: those in each statement. -/
namespace Go.Proofs.YtepdiooaoegpfaaGreatDoor.Fx
open Go Go.Proofs Go.Ev Go.RowKit
set_option maxRecDepth 100000
set_option maxHeartbeats 1600000
set_option linter.unusedSimpArgs false
set_option linter.unusedVariables false
end Go.Proofs.YtepdiooaoegpfaaGreatDoor.Fx
end
section
/- A target by itself. Conditions: those in each statement. -/
namespace Go.Proofs.YtepdiooaoegpfaaGreatDoor.Fx
open Go Go.Proofs Go.Ev Go.RowKit
set_option maxRecDepth 100000
set_option maxHeartbeats 1600000
set_option linter.unusedSimpArgs false
set_option linter.unusedVariables false
/-- A node of which the target alone is said. -/
abbrev sN (x : ByteArray) : AV := .agg [str x, nilv, nilv, bln false, str .empty, str .empty, bln false, bln false, bln false, bln false]
def bare (x : ByteArray) : Node := { (default : Node) with target := x, needs := [], recipe := [], has := false, source := .empty, stem := .empty, phony := false, precious := false, ignore := false, silent := false }
theorem sN_bare (x : ByteArray) : LeqD (sN x) (eN (bare x)) := by
  repeat' (first | exact LeqD.refl _ | exact LeqDL.refl _ | exact LeqD.nil (by decide) | refine LeqDL.cons ?_ ?_ | refine LeqD.agg ?_)
def aloneOk (n : Node) : Bool := planOk (n.needs.map bare ++ [n]) [n.target]
theorem c_alone {n : Node} (hz : SzN n) : XPure Tryz.prog 25 [eN n] (i64 (errIf (aloneOk n) 7)) false := by
  have hn1 := hz.needs.1
  have hzn : ∀ (i : Nat), ∀ m ∈ (n.needs.take i).map bare ++ [n], SzN m := by
    intro i m hm
    rcases List.mem_append.1 hm with hm | hm
    · obtain ⟨x, hx, rfl⟩ := List.mem_map.1 hm
      exact ⟨hz.needs.2 x (List.mem_of_mem_take hx), ⟨Nat.zero_le _, fun y hy => absurd hy List.not_mem_nil⟩, ⟨Nat.zero_le _, fun y hy => absurd hy List.not_mem_nil⟩⟩
    · obtain rfl := List.mem_singleton.1 hm; exact hz
  have hC : ∀ i : Nat, XPure Tryz.prog 42 [.agg [.sl 10 ((n.needs.take i).map sN ++ [eN n]), .sl 1 [str n.target]]] (i64 (errIf (planOk ((n.needs.take i).map bare ++ [n]) [n.target]) 7)) false := fun i =>
    (c_resolve_Check (goals := [n.target]) (hzn i)).nils (by
      refine LeqDL.cons (LeqD.agg (LeqDL.cons (LeqD.sl ?_) (LeqDL.refl _))) (LeqDL.refl _)
      · rw [List.map_append, List.map_map]
        exact (LeqDL.map sN_bare _).append (LeqDL.refl _))
  refine XPure.body ⟨_, Tryz.func25, rfl, by kernel_rfl⟩ Tryz.func25 rfl (Nat.le_of_ble_eq_true (by rfl)) (pf_of1 rfl) fun env => ?_
  repeat' ((conv => whnf); (fail_if_success (with_reducible show ∃ _, _ ∧ _ ∧ Weak _ _ _)); first
    | ((with_reducible show guardA _ _ _ _ _ _ ∨ _); first
      | (refine .inr ?_; (conv => whnf); refine ⟨_, ?_, fun h => rfl, rfl, ?_⟩; ((conv => whnf); first | exact trivial | (refine ⟨?_, trivial⟩; (first | exact fun h => h | exact fun _ => rfl | exact notF | exact andL | exact andR | exact fun h' => andI h h' | exact fun h' => andN h h'))))
      | (refine .inr ?_; (conv => whnf); refine ⟨_, trivial, fun h => ⟨?_, ?_, ?_, rfl⟩, rfl, ?_⟩; (first | exact h | rfl); (first | exact fun h => h | exact fun _ => rfl | exact notF | exact andL | exact andR | exact fun h' => andI h h' | exact fun h' => andN h h'); (first | exact fun h => h | exact fun _ => rfl | exact notF | exact andL | exact andR | exact fun h' => andI h h' | exact fun h' => andN h h'))
      | (refine .inl ?_; (conv => whnf); first | refine gY (by with_reducible first | rfl | assumption) ?_ | refine gTF (by with_reducible first | rfl | assumption) ?_ | refine gFT (by with_reducible first | rfl | assumption) ?_ | ((first | refine gsT (fun h => ?_) (fun h => ?_) | refine gsF (fun h => ?_) (fun h => ?_)) <;> (have hs := h; try simp only [reduceCtorEq, emptyLit, emptyLit2, Int.reduceEq, Int.reduceNe, Int.reduceLT, Int.reduceLE, Int.reduceBEq, Int.reduceBNe, false_and, and_false, false_or, or_false, true_and, and_true, true_or, or_true, not_true_eq_false, not_false_eq_true, cond_true, cond_false, Int.toNat_natCast, List.length_map, beqS_iff, beqS_no, Bool.cond_true_left, Bool.cond_false_right, Bool.or_eq_true, Bool.or_eq_false_iff, Bool.and_eq_true, Bool.and_eq_false_iff, decide_eq_true_eq, decide_eq_false_iff_not, Bool.not_eq_true', Bool.not_eq_false', beq_iff_eq, bne_iff_ne, beq_eq_false_iff_ne, bne_eq_false_iff_eq, Int.ofNat_lt, Int.ofNat_le, Int.not_lt, Int.not_le, ge_iff_le, gt_iff_lt, ne_eq] at hs)))
      | (refine .inl ?_))
    | refine cTrue (by with_reducible first | rfl | assumption) ?_
    | refine cFalse (by with_reducible first | rfl | assumption) ?_
    | refine gY (by with_reducible first | rfl | assumption) ?_
    | refine gTF (by with_reducible first | rfl | assumption) ?_
    | refine gFT (by with_reducible first | rfl | assumption) ?_
    | ((first | refine gsT (fun h => ?_) (fun h => ?_) | refine gsF (fun h => ?_) (fun h => ?_) | refine ⟨fun h => ?_, fun h => ?_⟩) <;> (have hs := h; try simp only [reduceCtorEq, emptyLit, emptyLit2, Int.reduceEq, Int.reduceNe, Int.reduceLT, Int.reduceLE, Int.reduceBEq, Int.reduceBNe, false_and, and_false, false_or, or_false, true_and, and_true, true_or, or_true, not_true_eq_false, not_false_eq_true, cond_true, cond_false, Int.toNat_natCast, List.length_map, beqS_iff, beqS_no, Bool.cond_true_left, Bool.cond_false_right, Bool.or_eq_true, Bool.or_eq_false_iff, Bool.and_eq_true, Bool.and_eq_false_iff, decide_eq_true_eq, decide_eq_false_iff_not, Bool.not_eq_true', Bool.not_eq_false', beq_iff_eq, bne_iff_ne, beq_eq_false_iff_ne, bne_eq_false_iff_eq, Int.ofNat_lt, Int.ofNat_le, Int.not_lt, Int.not_le, ge_iff_le, gt_iff_lt, ne_eq] at hs))
    | ((with_reducible show _ ∧ _ ∧ Weak _ _ _); refine ⟨?_, ?_, Weak.go⟩; (omega))
    | ((with_reducible show (_ ∧ _ ∧ _) ∧ _); refine ⟨⟨by kernel_rfl, by kernel_rfl, by rfl⟩, ?_⟩)
    | ((with_reducible show AV.pf _ = true ∧ _); refine ⟨pf_of1 rfl, ?_⟩)
    | (refine ⟨rfl, ?_, ?_, ?_⟩; (first | exact fun h => h | exact fun _ => rfl | exact notF | exact andL | exact andR | exact fun h' => andI h h' | exact fun h' => andN h h'); (first | exact fun h => h | exact fun _ => rfl | exact notF | exact andL | exact andR | exact fun h' => andI h h' | exact fun h' => andN h h'))
    | ((with_reducible show (_ ∨ _) ∧ _ ∧ retA _ _ _ _ _); refine ⟨?_, rfl, ?_⟩; (first | exact .inr rfl | exact .inl rfl))
    | ((with_reducible show _ = _ ∧ _ = false ∧ _ = _); refine ⟨?_, rfl, rfl⟩; try (first | rfl | (conv => lhs; whnf)))
    | ((with_reducible show LeqD _ _); try (first | (repeat' (first | exact LeqD.refl _ | exact LeqDL.refl _ | assumption | exact LeqD.nil (by decide) | refine LeqDL.cons ?_ ?_ | refine LeqD.agg ?_ | refine LeqD.tup ?_ | refine LeqD.sl ?_); done) | (first | rfl | (conv => lhs; whnf))); done)
    | ((with_reducible show _ = _ ∧ (_ → _)); refine ⟨?_, ?_⟩; try (first | rfl | (conv => lhs; whnf)))
    | exact fun h => h
    | exact fun _ => rfl
    | refine ⟨rfl, ?_⟩
    | (refine ⟨Nat.le_of_ble_eq_true rfl, ?_⟩)
    | (refine ⟨?_, ?_, ?_⟩; (first | (refine sizeOk rfl ?_; simp only [List.length_map, List.length_append, List.length_take, List.length_drop, List.length_cons, List.length_nil]; omega) | omega | (simp only [List.length_map, List.length_append, List.length_take, List.length_drop, List.length_cons, List.length_nil]; omega)); (first | (refine sizeOk rfl ?_; simp only [List.length_map, List.length_append, List.length_take, List.length_drop, List.length_cons, List.length_nil]; omega) | omega | (simp only [List.length_map, List.length_append, List.length_take, List.length_drop, List.length_cons, List.length_nil]; omega)))
    | (refine ⟨?_, ?_⟩; (first | (refine sizeOk rfl ?_; simp only [List.length_map, List.length_append, List.length_take, List.length_drop, List.length_cons, List.length_nil]; omega) | omega | (simp only [List.length_map, List.length_append, List.length_take, List.length_drop, List.length_cons, List.length_nil]; omega)))
    | rw [wrapId (by omega) (by omega)]
    | fail)
  refine XW.countL n.needs.length [1, 2, 3, 11, 12] (fun i => [(13, i64 i)]) (fun _ => []) (fun i => [.cells (eN n).leaves [], .cells [.sl 10 ((n.needs.take i).map sN), eS [n.target]] [0]]) (fun i => True) Weak.go trivial ?_
  intro i hi hA
  refine codeS ?_
  repeat' ((conv => whnf); first
    | ((with_reducible show _ ∧ _ ∧ Weak _ _ _); have hM := app_next sN ByteArray.empty ‹i < n.needs.length›; refine ⟨?_, ?_, Weak.go⟩; omega)
    | ((with_reducible show guardA _ _ _ _ _ _ ∨ _); first
      | (refine .inr ?_; (conv => whnf); refine ⟨_, ?_, fun h => rfl, rfl, ?_⟩; ((conv => whnf); first | exact trivial | (refine ⟨?_, trivial⟩; (first | exact fun h => h | exact fun _ => rfl | exact notF | exact andL | exact andR | exact fun h' => andI h h' | exact fun h' => andN h h'))))
      | (refine .inr ?_; (conv => whnf); refine ⟨_, trivial, fun h => ⟨?_, ?_, ?_, rfl⟩, rfl, ?_⟩; (first | exact h | rfl); (first | exact fun h => h | exact fun _ => rfl | exact notF | exact andL | exact andR | exact fun h' => andI h h' | exact fun h' => andN h h'); (first | exact fun h => h | exact fun _ => rfl | exact notF | exact andL | exact andR | exact fun h' => andI h h' | exact fun h' => andN h h'))
      | (refine .inl ?_; (conv => whnf); first | refine gY (by with_reducible first | rfl | assumption) ?_ | refine gTF (by with_reducible first | rfl | assumption) ?_ | refine gFT (by with_reducible first | rfl | assumption) ?_ | ((first | refine gsT (fun h => ?_) (fun h => ?_) | refine gsF (fun h => ?_) (fun h => ?_)) <;> (have hs := h; try simp only [reduceCtorEq, emptyLit, emptyLit2, Int.reduceEq, Int.reduceNe, Int.reduceLT, Int.reduceLE, Int.reduceBEq, Int.reduceBNe, false_and, and_false, false_or, or_false, true_and, and_true, true_or, or_true, not_true_eq_false, not_false_eq_true, cond_true, cond_false, Int.toNat_natCast, List.length_map, beqS_iff, beqS_no, Bool.cond_true_left, Bool.cond_false_right, Bool.or_eq_true, Bool.or_eq_false_iff, Bool.and_eq_true, Bool.and_eq_false_iff, decide_eq_true_eq, decide_eq_false_iff_not, Bool.not_eq_true', Bool.not_eq_false', beq_iff_eq, bne_iff_ne, beq_eq_false_iff_ne, bne_eq_false_iff_eq, Int.ofNat_lt, Int.ofNat_le, Int.not_lt, Int.not_le, ge_iff_le, gt_iff_lt, ne_eq] at hs)))
      | (refine .inl ?_))
    | refine cTrue (by with_reducible first | rfl | assumption) ?_
    | refine cFalse (by with_reducible first | rfl | assumption) ?_
    | refine gY (by with_reducible first | rfl | assumption) ?_
    | refine gTF (by with_reducible first | rfl | assumption) ?_
    | refine gFT (by with_reducible first | rfl | assumption) ?_
    | ((first | refine gsT (fun h => ?_) (fun h => ?_) | refine gsF (fun h => ?_) (fun h => ?_) | refine ⟨fun h => ?_, fun h => ?_⟩) <;> (have hs := h; try simp only [reduceCtorEq, emptyLit, emptyLit2, Int.reduceEq, Int.reduceNe, Int.reduceLT, Int.reduceLE, Int.reduceBEq, Int.reduceBNe, false_and, and_false, false_or, or_false, true_and, and_true, true_or, or_true, not_true_eq_false, not_false_eq_true, cond_true, cond_false, Int.toNat_natCast, List.length_map, beqS_iff, beqS_no, Bool.cond_true_left, Bool.cond_false_right, Bool.or_eq_true, Bool.or_eq_false_iff, Bool.and_eq_true, Bool.and_eq_false_iff, decide_eq_true_eq, decide_eq_false_iff_not, Bool.not_eq_true', Bool.not_eq_false', beq_iff_eq, bne_iff_ne, beq_eq_false_iff_ne, bne_eq_false_iff_eq, Int.ofNat_lt, Int.ofNat_le, Int.not_lt, Int.not_le, ge_iff_le, gt_iff_lt, ne_eq] at hs))
    | (refine .inl ⟨_, _, hC _, ?_⟩)
    | ((with_reducible show _ ∧ _ ∧ Weak _ _ _); refine ⟨?_, ?_, Weak.go⟩; (omega))
    | ((with_reducible show (_ ∧ _ ∧ _) ∧ _); refine ⟨⟨by kernel_rfl, by kernel_rfl, by rfl⟩, ?_⟩)
    | ((with_reducible show AV.pf _ = true ∧ _); refine ⟨pf_of1 rfl, ?_⟩)
    | (refine ⟨rfl, ?_, ?_, ?_⟩; (first | exact fun h => h | exact fun _ => rfl | exact notF | exact andL | exact andR | exact fun h' => andI h h' | exact fun h' => andN h h'); (first | exact fun h => h | exact fun _ => rfl | exact notF | exact andL | exact andR | exact fun h' => andI h h' | exact fun h' => andN h h'))
    | ((with_reducible show (_ ∨ _) ∧ _ ∧ retA _ _ _ _ _); refine ⟨?_, rfl, ?_⟩; (first | exact .inr rfl | exact .inl rfl))
    | ((with_reducible show _ = _ ∧ _ = false ∧ _ = _); refine ⟨?_, rfl, rfl⟩; try (first | rfl | (conv => lhs; whnf)))
    | ((with_reducible show LeqD _ _); try (first | (repeat' (first | exact LeqD.refl _ | exact LeqDL.refl _ | assumption | exact LeqD.nil (by decide) | refine LeqDL.cons ?_ ?_ | refine LeqD.agg ?_ | refine LeqD.tup ?_ | refine LeqD.sl ?_); done) | (first | rfl | (conv => lhs; whnf))); done)
    | ((with_reducible show _ = _ ∧ (_ → _)); refine ⟨?_, ?_⟩; try (first | rfl | (conv => lhs; whnf)))
    | exact fun h => h
    | exact fun _ => rfl
    | refine ⟨rfl, ?_⟩
    | (refine ⟨Nat.le_of_ble_eq_true rfl, ?_⟩)
    | (refine ⟨?_, ?_, ?_⟩; (first | (refine sizeOk rfl ?_; simp only [List.length_map, List.length_append, List.length_take, List.length_drop, List.length_cons, List.length_nil]; omega) | omega | (simp only [List.length_map, List.length_append, List.length_take, List.length_drop, List.length_cons, List.length_nil]; omega)); (first | (refine sizeOk rfl ?_; simp only [List.length_map, List.length_append, List.length_take, List.length_drop, List.length_cons, List.length_nil]; omega) | omega | (simp only [List.length_map, List.length_append, List.length_take, List.length_drop, List.length_cons, List.length_nil]; omega)))
    | (refine ⟨?_, ?_⟩; (first | (refine sizeOk rfl ?_; simp only [List.length_map, List.length_append, List.length_take, List.length_drop, List.length_cons, List.length_nil]; omega) | omega | (simp only [List.length_map, List.length_append, List.length_take, List.length_drop, List.length_cons, List.length_nil]; omega)))
    | rw [getD_mapI (ByteArray.empty) (by omega)]
    | rw [getD_map (ByteArray.empty) (by omega)]
    | rw [wrapId (by omega) (by omega)]
    | fail)
  · trivial
  · rw [List.take_of_length_le (by omega)]; rfl
end Go.Proofs.YtepdiooaoegpfaaGreatDoor.Fx
end
section
/- A target by itself, both ways the same. Conditions: those in each statement. -/
namespace Go.Proofs.YtepdiooaoegpfaaGreatDoor.Fx
open Go Go.Proofs Go.Ev Go.RowKit
set_option linter.unusedSimpArgs false
set_option linter.unusedVariables false
end Go.Proofs.YtepdiooaoegpfaaGreatDoor.Fx
end
section
/- What a copying command does. Conditions: those in each statement. -/
namespace Go.Proofs.YtepdiooaoegpfaaGreatDoor.Fx
open Go Go.Proofs Go.Ev Go.RowKit
set_option maxRecDepth 100000
set_option maxHeartbeats 6400000
set_option linter.unusedSimpArgs false
set_option linter.unusedVariables false
attribute [local irreducible] readE readT
@[irreducible] def doneE (clock : Int) (l : List File) (a b : ByteArray) : Int := if readE clock l [a] = 0 then wrE clock l b (readT clock l [a]) else readE clock l [a]
@[irreducible] def doneC (clock : Int) (l : List File) (a b : ByteArray) : Int := if readE clock l [a] = 0 then wrC clock l b (readT clock l [a]) else clock
@[irreducible] def doneL (clock : Int) (l : List File) (a b : ByteArray) : List File := if readE clock l [a] = 0 then wrL' clock l b (readT clock l [a]) else l
theorem tup4 {c c' e e' : Int} {L L' : List File} (h1 : c = c') (h2 : L = L') (h3 : e = e') : AV.tup [eD c L, str .empty, i64 0, i64 e] = AV.tup [eD c' L', str .empty, i64 0, i64 e'] := by subst h1 h2 h3; rfl
theorem c_done_copy {clock : Int} {l : List File} {a b : ByteArray} : XPure Tryz.prog 30 [eC 1 b [a] [] 0, eD clock l] (.tup [eD (doneC clock l a b) (doneL clock l a b), str .empty, i64 0, i64 (doneE clock l a b)]) false := by
  refine XPure.body ⟨_, Tryz.func30, rfl, by kernel_rfl⟩ Tryz.func30 rfl (Nat.le_of_ble_eq_true (by rfl)) (pf_of1 rfl) fun env => ?_
  repeat' ((conv => whnf); (fail_if_success (with_reducible show ∃ _, _ ∧ _ ∧ Weak _ _ _)); first
    | ((with_reducible show guardA _ _ _ _ _ _ ∨ _); first
      | (refine .inr ?_; (conv => whnf); refine ⟨_, ?_, fun h => rfl, rfl, ?_⟩; ((conv => whnf); first | exact trivial | (refine ⟨?_, trivial⟩; (first | exact fun h => h | exact fun _ => rfl | exact notF | exact andL | exact andR | exact fun h' => andI h h' | exact fun h' => andN h h'))))
      | (refine .inr ?_; (conv => whnf); refine ⟨_, trivial, fun h => ⟨?_, ?_, ?_, rfl⟩, rfl, ?_⟩; (first | exact h | rfl); (first | exact fun h => h | exact fun _ => rfl | exact notF | exact andL | exact andR | exact fun h' => andI h h' | exact fun h' => andN h h'); (first | exact fun h => h | exact fun _ => rfl | exact notF | exact andL | exact andR | exact fun h' => andI h h' | exact fun h' => andN h h'))
      | (refine .inl ?_; (conv => whnf); first | refine gY (by first | (with_reducible first | rfl | assumption) | decide) ?_ | refine gTF (by first | (with_reducible first | rfl | assumption) | decide) ?_ | refine gFT (by first | (with_reducible first | rfl | assumption) | decide) ?_ | ((first | refine gsT (fun h => ?_) (fun h => ?_) | refine gsF (fun h => ?_) (fun h => ?_)) <;> (have hs := h; try simp only [reduceCtorEq, emptyLit, emptyLit2, Int.reduceEq, Int.reduceNe, Int.reduceLT, Int.reduceLE, Int.reduceBEq, Int.reduceBNe, false_and, and_false, false_or, or_false, true_and, and_true, true_or, or_true, not_true_eq_false, not_false_eq_true, cond_true, cond_false, Int.toNat_natCast, List.length_map, beqS_iff, beqS_no, Bool.cond_true_left, Bool.cond_false_right, Bool.or_eq_true, Bool.or_eq_false_iff, Bool.and_eq_true, Bool.and_eq_false_iff, decide_eq_true_eq, decide_eq_false_iff_not, Bool.not_eq_true', Bool.not_eq_false', beq_iff_eq, bne_iff_ne, beq_eq_false_iff_ne, bne_eq_false_iff_eq, Int.ofNat_lt, Int.ofNat_le, Int.not_lt, Int.not_le, ge_iff_le, gt_iff_lt, ne_eq] at hs)))
      | (refine .inl ?_))
    | refine cTrue (by first | (with_reducible first | rfl | assumption) | decide) ?_
    | refine cFalse (by first | (with_reducible first | rfl | assumption) | decide) ?_
    | refine gY (by first | (with_reducible first | rfl | assumption) | decide) ?_
    | refine gTF (by first | (with_reducible first | rfl | assumption) | decide) ?_
    | refine gFT (by first | (with_reducible first | rfl | assumption) | decide) ?_
    | ((first | refine gsT (fun h => ?_) (fun h => ?_) | refine gsF (fun h => ?_) (fun h => ?_) | refine ⟨fun h => ?_, fun h => ?_⟩) <;> (have hs := h; try simp only [reduceCtorEq, emptyLit, emptyLit2, Int.reduceEq, Int.reduceNe, Int.reduceLT, Int.reduceLE, Int.reduceBEq, Int.reduceBNe, false_and, and_false, false_or, or_false, true_and, and_true, true_or, or_true, not_true_eq_false, not_false_eq_true, cond_true, cond_false, Int.toNat_natCast, List.length_map, beqS_iff, beqS_no, Bool.cond_true_left, Bool.cond_false_right, Bool.or_eq_true, Bool.or_eq_false_iff, Bool.and_eq_true, Bool.and_eq_false_iff, decide_eq_true_eq, decide_eq_false_iff_not, Bool.not_eq_true', Bool.not_eq_false', beq_iff_eq, bne_iff_ne, beq_eq_false_iff_ne, bne_eq_false_iff_eq, Int.ofNat_lt, Int.ofNat_le, Int.not_lt, Int.not_le, ge_iff_le, gt_iff_lt, ne_eq] at hs))
    | (refine .inl ⟨_, _, c_exec_read (Nat.le_of_ble_eq_true rfl), ?_⟩)
    | (refine .inl ⟨_, _, c_disk_Write, ?_⟩)
    | ((with_reducible show _ ∧ _ ∧ Weak _ _ _); refine ⟨?_, ?_, Weak.go⟩; (omega))
    | ((with_reducible show (_ ∧ _ ∧ _) ∧ _); refine ⟨⟨by kernel_rfl, by kernel_rfl, by rfl⟩, ?_⟩)
    | ((with_reducible show AV.pf _ = true ∧ _); refine ⟨pf_of1 rfl, ?_⟩)
    | (refine ⟨rfl, ?_, ?_, ?_⟩; (first | exact fun h => h | exact fun _ => rfl | exact notF | exact andL | exact andR | exact fun h' => andI h h' | exact fun h' => andN h h'); (first | exact fun h => h | exact fun _ => rfl | exact notF | exact andL | exact andR | exact fun h' => andI h h' | exact fun h' => andN h h'))
    | ((with_reducible show (_ ∨ _) ∧ _ ∧ retA _ _ _ _ _); refine ⟨?_, rfl, ?_⟩; (first | exact .inr rfl | exact .inl rfl))
    | ((with_reducible show _ = _ ∧ _ = false ∧ _ = _); refine ⟨?_, rfl, rfl⟩; try (first | rfl | (conv => lhs; whnf)))
    | ((with_reducible show LeqD _ _); try (first | (repeat' (first | exact LeqD.refl _ | exact LeqDL.refl _ | assumption | exact LeqD.nil (by decide) | refine LeqDL.cons ?_ ?_ | refine LeqD.agg ?_ | refine LeqD.tup ?_ | refine LeqD.sl ?_); done) | (first | rfl | (conv => lhs; whnf))); done)
    | ((with_reducible show _ = _ ∧ (_ → _)); refine ⟨?_, ?_⟩; try (first | rfl | (conv => lhs; whnf)))
    | exact fun h => h
    | exact fun _ => rfl
    | refine ⟨rfl, ?_⟩
    | (refine ⟨Nat.le_of_ble_eq_true rfl, ?_⟩)
    | (refine ⟨?_, ?_, ?_⟩; (first | (refine sizeOk rfl ?_; simp only [List.length_map, List.length_append, List.length_take, List.length_drop, List.length_cons, List.length_nil]; omega) | omega | (simp only [List.length_map, List.length_append, List.length_take, List.length_drop, List.length_cons, List.length_nil]; omega)); (first | (refine sizeOk rfl ?_; simp only [List.length_map, List.length_append, List.length_take, List.length_drop, List.length_cons, List.length_nil]; omega) | omega | (simp only [List.length_map, List.length_append, List.length_take, List.length_drop, List.length_cons, List.length_nil]; omega)))
    | (refine ⟨?_, ?_⟩; (first | (refine sizeOk rfl ?_; simp only [List.length_map, List.length_append, List.length_take, List.length_drop, List.length_cons, List.length_nil]; omega) | omega | (simp only [List.length_map, List.length_append, List.length_take, List.length_drop, List.length_cons, List.length_nil]; omega)))
    | rw [wrapId (by omega) (by omega)]
    | fail)
  · exact tup4 (by unfold doneC; rw [if_neg hs]) (by unfold doneL; rw [if_neg hs]) (by unfold doneE; rw [if_neg hs])
  · exact tup4 (by unfold doneC; rw [if_pos hs]) (by unfold doneL; rw [if_pos hs]) (by unfold doneE; rw [if_pos hs])
@[irreducible] def statusOf (e : Int) : Int := if e = 0 then 0 else if e = 171 then 1 else if e = 150 ∨ e = 9 ∨ e = 160 ∨ e = 3 then 2 else if e = 170 then 3 else if e = 21 then 4 else if e = 20 then 5 else if e = 22 then 6 else if e = 23 then 7 else 8
theorem c_Status' {e : Int} : XPure Tryz.prog 21 [i64 e] (i64 (statusOf e)) false := by unfold statusOf; exact c_exec_Status
theorem cellOwn_xp {c : Cfg} {p : Operand} {i off : Nat} {l : List AV} (h1 : evA c p = .xp i off) (h2 : c.env[i]? = some (.cells l [])) : cellOwn c p = none := by
  unfold cellOwn
  rw [h1]
  simp only [h2]
  split
  · rfl
  · rfl
theorem tupD {c e st st' : Int} {l : List File} (h : st = st') : AV.tup [eDone ⟨c, l, .empty, false, st, e⟩, i64 0] = AV.tup [eDone ⟨c, l, .empty, false, st', e⟩, i64 0] := by subst h; rfl
theorem c_Do1 {q : Nat} {clock e st : Int} {l : List File} {env : List Bx} (hq : env[q]? = some (.cells [i64 clock, eFs l] [])) :
    XCalls Tryz.prog 28 [i64 e, i64 st, .xp q 0] env fun r ow env' => r = .tup [eDone ⟨clock, l, .empty, false, if st = 0 then statusOf e else st, e⟩, i64 0] ∧ ow = false ∧ env' = env := by
  have hkk : q < env.length := (List.getElem?_eq_some_iff.1 hq).1
  refine XCalls.body Tryz.func28 rfl (Nat.le_of_ble_eq_true (by rfl)) ?_
  repeat' ((conv => whnf); (fail_if_success (with_reducible show ∃ _, _ ∧ _ ∧ Weak _ _ _)); first
    | ((with_reducible show guardA _ _ _ _ _ _ ∨ _); first
      | (refine .inr ?_; (conv => whnf); refine ⟨_, ?_, fun h => rfl, rfl, ?_⟩; ((conv => whnf); first | exact trivial | (refine ⟨?_, trivial⟩; (first | exact fun h => h | exact fun _ => rfl | exact notF | exact andL | exact andR | exact fun h' => andI h h' | exact fun h' => andN h h'))))
      | (refine .inr ?_; (conv => whnf); refine ⟨_, trivial, fun h => ⟨?_, ?_, ?_, rfl⟩, rfl, ?_⟩; (first | exact h | rfl); (first | exact fun h => h | exact fun _ => rfl | exact notF | exact andL | exact andR | exact fun h' => andI h h' | exact fun h' => andN h h'); (first | exact fun h => h | exact fun _ => rfl | exact notF | exact andL | exact andR | exact fun h' => andI h h' | exact fun h' => andN h h'))
      | (refine .inl ?_; (conv => whnf); first | refine gY (by with_reducible first | rfl | assumption) ?_ | refine gTF (by with_reducible first | rfl | assumption) ?_ | refine gFT (by with_reducible first | rfl | assumption) ?_ | ((first | refine gsT (fun h => ?_) (fun h => ?_) | refine gsF (fun h => ?_) (fun h => ?_)) <;> (have hs := h; try simp only [reduceCtorEq, emptyLit, emptyLit2, Int.reduceEq, Int.reduceNe, Int.reduceLT, Int.reduceLE, Int.reduceBEq, Int.reduceBNe, false_and, and_false, false_or, or_false, true_and, and_true, true_or, or_true, not_true_eq_false, not_false_eq_true, cond_true, cond_false, Int.toNat_natCast, List.length_map, beqS_iff, beqS_no, Bool.cond_true_left, Bool.cond_false_right, Bool.or_eq_true, Bool.or_eq_false_iff, Bool.and_eq_true, Bool.and_eq_false_iff, decide_eq_true_eq, decide_eq_false_iff_not, Bool.not_eq_true', Bool.not_eq_false', beq_iff_eq, bne_iff_ne, beq_eq_false_iff_ne, bne_eq_false_iff_eq, Int.ofNat_lt, Int.ofNat_le, Int.not_lt, Int.not_le, ge_iff_le, gt_iff_lt, ne_eq] at hs)))
      | (refine .inl ?_))
    | refine cTrue (by with_reducible first | rfl | assumption) ?_
    | refine cFalse (by with_reducible first | rfl | assumption) ?_
    | refine gY (by with_reducible first | rfl | assumption) ?_
    | refine gTF (by with_reducible first | rfl | assumption) ?_
    | refine gFT (by with_reducible first | rfl | assumption) ?_
    | ((first | refine gsT (fun h => ?_) (fun h => ?_) | refine gsF (fun h => ?_) (fun h => ?_) | refine ⟨fun h => ?_, fun h => ?_⟩) <;> (have hs := h; try simp only [reduceCtorEq, emptyLit, emptyLit2, Int.reduceEq, Int.reduceNe, Int.reduceLT, Int.reduceLE, Int.reduceBEq, Int.reduceBNe, false_and, and_false, false_or, or_false, true_and, and_true, true_or, or_true, not_true_eq_false, not_false_eq_true, cond_true, cond_false, Int.toNat_natCast, List.length_map, beqS_iff, beqS_no, Bool.cond_true_left, Bool.cond_false_right, Bool.or_eq_true, Bool.or_eq_false_iff, Bool.and_eq_true, Bool.and_eq_false_iff, decide_eq_true_eq, decide_eq_false_iff_not, Bool.not_eq_true', Bool.not_eq_false', beq_iff_eq, bne_iff_ne, beq_eq_false_iff_ne, bne_eq_false_iff_eq, Int.ofNat_lt, Int.ofNat_le, Int.not_lt, Int.not_le, ge_iff_le, gt_iff_lt, ne_eq] at hs))
    | (refine .inl ⟨_, _, c_Status', ?_⟩)
    | ((with_reducible show _ ∧ _ ∧ Weak _ _ _); refine ⟨?_, ?_, Weak.go⟩; (omega))
    | (first | rw [cellOwn_xp (i := q) (off := 0) rfl hq] | (refine ⟨_, _, hq, ?_⟩))
    | ((with_reducible show (_ ∧ _ ∧ _) ∧ _); refine ⟨⟨by kernel_rfl, by kernel_rfl, by rfl⟩, ?_⟩)
    | ((with_reducible show AV.pf _ = true ∧ _); refine ⟨pf_of1 rfl, ?_⟩)
    | (refine ⟨rfl, ?_, ?_, ?_⟩; (first | exact fun h => h | exact fun _ => rfl | exact notF | exact andL | exact andR | exact fun h' => andI h h' | exact fun h' => andN h h'); (first | exact fun h => h | exact fun _ => rfl | exact notF | exact andL | exact andR | exact fun h' => andI h h' | exact fun h' => andN h h'))
    | ((with_reducible show (_ ∨ _) ∧ _ ∧ retA _ _ _ _ _); refine ⟨?_, rfl, ?_⟩; (first | exact .inr rfl | exact .inl rfl))
    | ((with_reducible show _ = _ ∧ _ = false ∧ _ = _); refine ⟨?_, rfl, rfl⟩; try (first | rfl | (conv => lhs; whnf)))
    | ((with_reducible show LeqD _ _); try (first | (repeat' (first | exact LeqD.refl _ | exact LeqDL.refl _ | assumption | exact LeqD.nil (by decide) | refine LeqDL.cons ?_ ?_ | refine LeqD.agg ?_ | refine LeqD.tup ?_ | refine LeqD.sl ?_); done) | (first | rfl | (conv => lhs; whnf))); done)
    | ((with_reducible show _ = _ ∧ (_ → _)); refine ⟨?_, ?_⟩; try (first | rfl | (conv => lhs; whnf)))
    | exact fun h => h
    | exact fun _ => rfl
    | refine ⟨rfl, ?_⟩
    | (refine ⟨Nat.le_of_ble_eq_true rfl, ?_⟩)
    | (refine ⟨?_, ?_, ?_⟩; (first | (refine sizeOk rfl ?_; simp only [List.length_map, List.length_append, List.length_take, List.length_drop, List.length_cons, List.length_nil]; omega) | omega | (simp only [List.length_map, List.length_append, List.length_take, List.length_drop, List.length_cons, List.length_nil]; omega)); (first | (refine sizeOk rfl ?_; simp only [List.length_map, List.length_append, List.length_take, List.length_drop, List.length_cons, List.length_nil]; omega) | omega | (simp only [List.length_map, List.length_append, List.length_take, List.length_drop, List.length_cons, List.length_nil]; omega)))
    | (refine ⟨?_, ?_⟩; (first | (refine sizeOk rfl ?_; simp only [List.length_map, List.length_append, List.length_take, List.length_drop, List.length_cons, List.length_nil]; omega) | omega | (simp only [List.length_map, List.length_append, List.length_take, List.length_drop, List.length_cons, List.length_nil]; omega)))
    | fail)
  · exact tupD (by rw [if_pos hs])
  · exact tupD (by rw [if_neg hs])
/-- What a copying command comes to. -/
@[irreducible] def doCopy (n : Node) (clock : Int) (l : List File) (a b : ByteArray) : Done :=
  if mayE n a b = 0 then if doneE clock l a b = 0 then ⟨doneC clock l a b, doneL clock l a b, .empty, true, 0, 0⟩ else ⟨clock, l, .empty, false, statusOf (doneE clock l a b), doneE clock l a b⟩ else ⟨clock, l, .empty, false, statusOf (mayE n a b), mayE n a b⟩
end Go.Proofs.YtepdiooaoegpfaaGreatDoor.Fx
end
section
/- A copying command is done. Conditions: those in each statement. -/
namespace Go.Proofs.YtepdiooaoegpfaaGreatDoor.Fx
open Go Go.Proofs Go.Ev Go.RowKit
set_option maxRecDepth 100000
set_option maxHeartbeats 6400000
set_option linter.unusedSimpArgs false
set_option linter.unusedVariables false
attribute [local irreducible] mayE
theorem doneEq {x y : Done} (h : x = y) : AV.tup [eDone x, i64 0] = AV.tup [eDone y, i64 0] := by rw [h]
theorem callG_args {P : Program} {c : Cfg} {args args' : List AV} {f : FuncId} {dst : Option Tmp} {K : Cfg → Prop} (h : args = args') (hg : callG P c args' f dst K) : callG P c args f dst K := h ▸ hg
theorem callG_do1 {c : Cfg} {dst : Option Tmp} {K : Cfg → Prop} {clock e st : Int} {l : List File} (hbox : c.own[1]? = some (.cells [i64 clock, eFs l] []))
    (h : K (c.after dst (.tup [eDone ⟨clock, l, .empty, false, if st = 0 then statusOf e else st, e⟩, i64 0]) false)) : callG Tryz.prog c [i64 e, i64 st, .bp 1 0] 28 dst K :=
  callG_same ⟨_, Tryz.func28, rfl, by kernel_rfl⟩ rfl (c_Do1 (q := c.base + 1) (clock := clock) (l := l) (boxUp rfl hbox)) h
theorem c_Do_copy {n : Node} {t a b : ByteArray} {clock : Int} {l : List File} (hz : SzN n) (hn : aloneOk n = true) (ht : t.size ≤ 65536) (hd : okD clock l = true) (hl : l.length ≤ 256) (hV : wordsV t = [copyW, a, b]) (hE : wordsE t = 0) (ha : isName a = true) (hb : isName b = true) :
    XPure Tryz.prog 9 [eN n, str t, eD clock l, i64 0] (.tup [eDone (doCopy n clock l a b), i64 0]) false := by
  have hA : XPure Tryz.prog 25 [eN n] (i64 0) false := by
    have h := c_alone hz
    rwa [hn, show errIf true 7 = 0 from rfl] at h
  have hD : XPure Tryz.prog 26 [eD clock l] (i64 0) false := by
    have h := c_disk_Check (clock := clock) (l := l)
    rwa [hd, show errIf true 4 = 0 from rfl] at h
  refine XPure.body ⟨_, Tryz.func9, rfl, by kernel_rfl⟩ Tryz.func9 rfl (Nat.le_of_ble_eq_true (by rfl)) (pf_of1 rfl) fun env => ?_
  iterate 16 any_goals try ((conv => whnf); (fail_if_success (with_reducible show ∃ _, _ ∧ _ ∧ Weak _ _ _)); first
    | ((with_reducible show guardA _ _ _ _ _ _ ∨ _); first
      | (refine .inr ?_; (conv => whnf); refine ⟨_, ?_, fun h => rfl, rfl, ?_⟩; ((conv => whnf); first | exact trivial | (refine ⟨?_, trivial⟩; (first | exact fun h => h | exact fun _ => rfl | exact notF | exact andL | exact andR | exact fun h' => andI h h' | exact fun h' => andN h h'))))
      | (refine .inr ?_; (conv => whnf); refine ⟨_, trivial, fun h => ⟨?_, ?_, ?_, rfl⟩, rfl, ?_⟩; (first | exact h | rfl); (first | exact fun h => h | exact fun _ => rfl | exact notF | exact andL | exact andR | exact fun h' => andI h h' | exact fun h' => andN h h'); (first | exact fun h => h | exact fun _ => rfl | exact notF | exact andL | exact andR | exact fun h' => andI h h' | exact fun h' => andN h h'))
      | (refine .inl ?_; (conv => whnf); first | refine gY (by first | (with_reducible first | rfl | assumption) | decide) ?_ | refine gTF (by first | (with_reducible first | rfl | assumption) | decide) ?_ | refine gFT (by first | (with_reducible first | rfl | assumption) | decide) ?_ | ((first | refine gsT (fun h => ?_) (fun h => ?_) | refine gsF (fun h => ?_) (fun h => ?_)) <;> (have hs := h; try simp only [reduceCtorEq, emptyLit, emptyLit2, Int.reduceEq, Int.reduceNe, Int.reduceLT, Int.reduceLE, Int.reduceBEq, Int.reduceBNe, false_and, and_false, false_or, or_false, true_and, and_true, true_or, or_true, not_true_eq_false, not_false_eq_true, cond_true, cond_false, Int.toNat_natCast, List.length_map, beqS_iff, beqS_no, Bool.cond_true_left, Bool.cond_false_right, Bool.or_eq_true, Bool.or_eq_false_iff, Bool.and_eq_true, Bool.and_eq_false_iff, decide_eq_true_eq, decide_eq_false_iff_not, Bool.not_eq_true', Bool.not_eq_false', beq_iff_eq, bne_iff_ne, beq_eq_false_iff_ne, bne_eq_false_iff_eq, Int.ofNat_lt, Int.ofNat_le, Int.not_lt, Int.not_le, ge_iff_le, gt_iff_lt, ne_eq] at hs)))
      | (refine .inl ?_))
    | refine cTrue (by first | (with_reducible first | rfl | assumption) | decide) ?_
    | refine cFalse (by first | (with_reducible first | rfl | assumption) | decide) ?_
    | refine gY (by first | (with_reducible first | rfl | assumption) | decide) ?_
    | refine gTF (by first | (with_reducible first | rfl | assumption) | decide) ?_
    | refine gFT (by first | (with_reducible first | rfl | assumption) | decide) ?_
    | ((first | refine gsT (fun h => ?_) (fun h => ?_) | refine gsF (fun h => ?_) (fun h => ?_) | refine ⟨fun h => ?_, fun h => ?_⟩) <;> (have hs := h; try simp only [reduceCtorEq, emptyLit, emptyLit2, Int.reduceEq, Int.reduceNe, Int.reduceLT, Int.reduceLE, Int.reduceBEq, Int.reduceBNe, false_and, and_false, false_or, or_false, true_and, and_true, true_or, or_true, not_true_eq_false, not_false_eq_true, cond_true, cond_false, Int.toNat_natCast, List.length_map, beqS_iff, beqS_no, Bool.cond_true_left, Bool.cond_false_right, Bool.or_eq_true, Bool.or_eq_false_iff, Bool.and_eq_true, Bool.and_eq_false_iff, decide_eq_true_eq, decide_eq_false_iff_not, Bool.not_eq_true', Bool.not_eq_false', beq_iff_eq, bne_iff_ne, beq_eq_false_iff_ne, bne_eq_false_iff_eq, Int.ofNat_lt, Int.ofNat_le, Int.not_lt, Int.not_le, ge_iff_le, gt_iff_lt, ne_eq] at hs))
    | (refine .inl ⟨_, _, hA, ?_⟩)
    | (refine .inl ⟨_, _, hD, ?_⟩)
    | (refine .inl ⟨_, _, c_CloneF (by omega), ?_⟩)
    | (refine .inl ⟨_, _, c_may_copy hz.needs.1 hV hE ha hb, ?_⟩)
    | ((with_reducible show _ ∧ _ ∧ Weak _ _ _); refine ⟨?_, ?_, Weak.go⟩; (omega))
    | ((with_reducible show (_ ∧ _ ∧ _) ∧ _); refine ⟨⟨by kernel_rfl, by kernel_rfl, by rfl⟩, ?_⟩)
    | ((with_reducible show AV.pf _ = true ∧ _); refine ⟨pf_of1 rfl, ?_⟩)
    | (refine ⟨rfl, ?_, ?_, ?_⟩; (first | exact fun h => h | exact fun _ => rfl | exact notF | exact andL | exact andR | exact fun h' => andI h h' | exact fun h' => andN h h'); (first | exact fun h => h | exact fun _ => rfl | exact notF | exact andL | exact andR | exact fun h' => andI h h' | exact fun h' => andN h h'))
    | ((with_reducible show (_ ∨ _) ∧ _ ∧ retA _ _ _ _ _); refine ⟨?_, rfl, ?_⟩; (first | exact .inr rfl | exact .inl rfl))
    | ((with_reducible show _ = _ ∧ _ = false ∧ _ = _); refine ⟨?_, rfl, rfl⟩; try (first | rfl | (conv => lhs; whnf)))
    | ((with_reducible show LeqD _ _); try (first | (repeat' (first | exact LeqD.refl _ | exact LeqDL.refl _ | assumption | exact LeqD.nil (by decide) | refine LeqDL.cons ?_ ?_ | refine LeqD.agg ?_ | refine LeqD.tup ?_ | refine LeqD.sl ?_); done) | (first | rfl | (conv => lhs; whnf))); done)
    | ((with_reducible show _ = _ ∧ (_ → _)); refine ⟨?_, ?_⟩; try (first | rfl | (conv => lhs; whnf)))
    | exact fun h => h
    | exact fun _ => rfl
    | refine ⟨rfl, ?_⟩
    | (refine ⟨Nat.le_of_ble_eq_true rfl, ?_⟩)
    | (refine ⟨?_, ?_, ?_⟩; (first | (refine sizeOk rfl ?_; simp only [List.length_map, List.length_append, List.length_take, List.length_drop, List.length_cons, List.length_nil]; omega) | omega | (simp only [List.length_map, List.length_append, List.length_take, List.length_drop, List.length_cons, List.length_nil]; omega)); (first | (refine sizeOk rfl ?_; simp only [List.length_map, List.length_append, List.length_take, List.length_drop, List.length_cons, List.length_nil]; omega) | omega | (simp only [List.length_map, List.length_append, List.length_take, List.length_drop, List.length_cons, List.length_nil]; omega)))
    | (refine ⟨?_, ?_⟩; (first | (refine sizeOk rfl ?_; simp only [List.length_map, List.length_append, List.length_take, List.length_drop, List.length_cons, List.length_nil]; omega) | omega | (simp only [List.length_map, List.length_append, List.length_take, List.length_drop, List.length_cons, List.length_nil]; omega)))
    | fail)
  · omega
  · repeat' ((conv => whnf); (fail_if_success (with_reducible show ∃ _, _ ∧ _ ∧ Weak _ _ _)); first
      | ((with_reducible show guardA _ _ _ _ _ _ ∨ _); first
        | (refine .inr ?_; (conv => whnf); refine ⟨_, ?_, fun h => rfl, rfl, ?_⟩; ((conv => whnf); first | exact trivial | (refine ⟨?_, trivial⟩; (first | exact fun h => h | exact fun _ => rfl | exact notF | exact andL | exact andR | exact fun h' => andI h h' | exact fun h' => andN h h'))))
        | (refine .inr ?_; (conv => whnf); refine ⟨_, trivial, fun h => ⟨?_, ?_, ?_, rfl⟩, rfl, ?_⟩; (first | exact h | rfl); (first | exact fun h => h | exact fun _ => rfl | exact notF | exact andL | exact andR | exact fun h' => andI h h' | exact fun h' => andN h h'); (first | exact fun h => h | exact fun _ => rfl | exact notF | exact andL | exact andR | exact fun h' => andI h h' | exact fun h' => andN h h'))
        | (refine .inl ?_; (conv => whnf); first | refine gY (by first | (with_reducible first | rfl | assumption) | decide) ?_ | refine gTF (by first | (with_reducible first | rfl | assumption) | decide) ?_ | refine gFT (by first | (with_reducible first | rfl | assumption) | decide) ?_ | ((first | refine gsT (fun h => ?_) (fun h => ?_) | refine gsF (fun h => ?_) (fun h => ?_)) <;> (have hs := h; try simp only [reduceCtorEq, emptyLit, emptyLit2, Int.reduceEq, Int.reduceNe, Int.reduceLT, Int.reduceLE, Int.reduceBEq, Int.reduceBNe, false_and, and_false, false_or, or_false, true_and, and_true, true_or, or_true, not_true_eq_false, not_false_eq_true, cond_true, cond_false, Int.toNat_natCast, List.length_map, beqS_iff, beqS_no, Bool.cond_true_left, Bool.cond_false_right, Bool.or_eq_true, Bool.or_eq_false_iff, Bool.and_eq_true, Bool.and_eq_false_iff, decide_eq_true_eq, decide_eq_false_iff_not, Bool.not_eq_true', Bool.not_eq_false', beq_iff_eq, bne_iff_ne, beq_eq_false_iff_ne, bne_eq_false_iff_eq, Int.ofNat_lt, Int.ofNat_le, Int.not_lt, Int.not_le, ge_iff_le, gt_iff_lt, ne_eq] at hs)))
        | (refine .inl ?_))
      | refine cTrue (by first | (with_reducible first | rfl | assumption) | decide) ?_
      | refine cFalse (by first | (with_reducible first | rfl | assumption) | decide) ?_
      | refine gY (by first | (with_reducible first | rfl | assumption) | decide) ?_
      | refine gTF (by first | (with_reducible first | rfl | assumption) | decide) ?_
      | refine gFT (by first | (with_reducible first | rfl | assumption) | decide) ?_
      | ((first | refine gsT (fun h => ?_) (fun h => ?_) | refine gsF (fun h => ?_) (fun h => ?_) | refine ⟨fun h => ?_, fun h => ?_⟩) <;> (have hs := h; try simp only [reduceCtorEq, emptyLit, emptyLit2, Int.reduceEq, Int.reduceNe, Int.reduceLT, Int.reduceLE, Int.reduceBEq, Int.reduceBNe, false_and, and_false, false_or, or_false, true_and, and_true, true_or, or_true, not_true_eq_false, not_false_eq_true, cond_true, cond_false, Int.toNat_natCast, List.length_map, beqS_iff, beqS_no, Bool.cond_true_left, Bool.cond_false_right, Bool.or_eq_true, Bool.or_eq_false_iff, Bool.and_eq_true, Bool.and_eq_false_iff, decide_eq_true_eq, decide_eq_false_iff_not, Bool.not_eq_true', Bool.not_eq_false', beq_iff_eq, bne_iff_ne, beq_eq_false_iff_ne, bne_eq_false_iff_eq, Int.ofNat_lt, Int.ofNat_le, Int.not_lt, Int.not_le, ge_iff_le, gt_iff_lt, ne_eq] at hs))
      | (refine .inl ⟨_, _, c_done_copy, ?_⟩)
      | ((with_reducible show _ ∧ _ ∧ Weak _ _ _); refine ⟨?_, ?_, Weak.go⟩; (omega))
      | ((with_reducible show (_ ∧ _ ∧ _) ∧ _); refine ⟨⟨by kernel_rfl, by kernel_rfl, by rfl⟩, ?_⟩)
      | ((with_reducible show AV.pf _ = true ∧ _); refine ⟨pf_of1 rfl, ?_⟩)
      | (refine ⟨rfl, ?_, ?_, ?_⟩; (first | exact fun h => h | exact fun _ => rfl | exact notF | exact andL | exact andR | exact fun h' => andI h h' | exact fun h' => andN h h'); (first | exact fun h => h | exact fun _ => rfl | exact notF | exact andL | exact andR | exact fun h' => andI h h' | exact fun h' => andN h h'))
      | ((with_reducible show (_ ∨ _) ∧ _ ∧ retA _ _ _ _ _); refine ⟨?_, rfl, ?_⟩; (first | exact .inr rfl | exact .inl rfl))
      | ((with_reducible show _ = _ ∧ _ = false ∧ _ = _); refine ⟨?_, rfl, rfl⟩; try (skip))
      | ((with_reducible show LeqD _ _); try (first | (repeat' (first | exact LeqD.refl _ | exact LeqDL.refl _ | assumption | exact LeqD.nil (by decide) | refine LeqDL.cons ?_ ?_ | refine LeqD.agg ?_ | refine LeqD.tup ?_ | refine LeqD.sl ?_); done) | (skip)); done)
      | ((with_reducible show _ = _ ∧ (_ → _)); refine ⟨?_, ?_⟩; try (skip))
      | exact fun h => h
      | exact fun _ => rfl
      | refine ⟨rfl, ?_⟩
      | (refine ⟨Nat.le_of_ble_eq_true rfl, ?_⟩)
      | (refine ⟨?_, ?_, ?_⟩; (first | (refine sizeOk rfl ?_; simp only [List.length_map, List.length_append, List.length_take, List.length_drop, List.length_cons, List.length_nil]; omega) | omega | (simp only [List.length_map, List.length_append, List.length_take, List.length_drop, List.length_cons, List.length_nil]; omega)); (first | (refine sizeOk rfl ?_; simp only [List.length_map, List.length_append, List.length_take, List.length_drop, List.length_cons, List.length_nil]; omega) | omega | (simp only [List.length_map, List.length_append, List.length_take, List.length_drop, List.length_cons, List.length_nil]; omega)))
      | (refine ⟨?_, ?_⟩; (first | (refine sizeOk rfl ?_; simp only [List.length_map, List.length_append, List.length_take, List.length_drop, List.length_cons, List.length_nil]; omega) | omega | (simp only [List.length_map, List.length_append, List.length_take, List.length_drop, List.length_cons, List.length_nil]; omega)))
      | fail)
    refine callG_args (args' := [i64 (mayE n a b), i64 0, .bp 1 0]) (by kernel_rfl) ?_
    refine callG_do1 (clock := clock) (l := l) (by kernel_rfl) ?_
    repeat' ((conv => whnf); (fail_if_success (with_reducible show ∃ _, _ ∧ _ ∧ Weak _ _ _)); first
      | ((with_reducible show guardA _ _ _ _ _ _ ∨ _); first
        | (refine .inr ?_; (conv => whnf); refine ⟨_, ?_, fun h => rfl, rfl, ?_⟩; ((conv => whnf); first | exact trivial | (refine ⟨?_, trivial⟩; (first | exact fun h => h | exact fun _ => rfl | exact notF | exact andL | exact andR | exact fun h' => andI h h' | exact fun h' => andN h h'))))
        | (refine .inr ?_; (conv => whnf); refine ⟨_, trivial, fun h => ⟨?_, ?_, ?_, rfl⟩, rfl, ?_⟩; (first | exact h | rfl); (first | exact fun h => h | exact fun _ => rfl | exact notF | exact andL | exact andR | exact fun h' => andI h h' | exact fun h' => andN h h'); (first | exact fun h => h | exact fun _ => rfl | exact notF | exact andL | exact andR | exact fun h' => andI h h' | exact fun h' => andN h h'))
        | (refine .inl ?_; (conv => whnf); first | refine gY (by first | (with_reducible first | rfl | assumption) | decide) ?_ | refine gTF (by first | (with_reducible first | rfl | assumption) | decide) ?_ | refine gFT (by first | (with_reducible first | rfl | assumption) | decide) ?_ | ((first | refine gsT (fun h => ?_) (fun h => ?_) | refine gsF (fun h => ?_) (fun h => ?_)) <;> (have hs := h; try simp only [reduceCtorEq, emptyLit, emptyLit2, Int.reduceEq, Int.reduceNe, Int.reduceLT, Int.reduceLE, Int.reduceBEq, Int.reduceBNe, false_and, and_false, false_or, or_false, true_and, and_true, true_or, or_true, not_true_eq_false, not_false_eq_true, cond_true, cond_false, Int.toNat_natCast, List.length_map, beqS_iff, beqS_no, Bool.cond_true_left, Bool.cond_false_right, Bool.or_eq_true, Bool.or_eq_false_iff, Bool.and_eq_true, Bool.and_eq_false_iff, decide_eq_true_eq, decide_eq_false_iff_not, Bool.not_eq_true', Bool.not_eq_false', beq_iff_eq, bne_iff_ne, beq_eq_false_iff_ne, bne_eq_false_iff_eq, Int.ofNat_lt, Int.ofNat_le, Int.not_lt, Int.not_le, ge_iff_le, gt_iff_lt, ne_eq] at hs)))
        | (refine .inl ?_))
      | refine cTrue (by first | (with_reducible first | rfl | assumption) | decide) ?_
      | refine cFalse (by first | (with_reducible first | rfl | assumption) | decide) ?_
      | refine gY (by first | (with_reducible first | rfl | assumption) | decide) ?_
      | refine gTF (by first | (with_reducible first | rfl | assumption) | decide) ?_
      | refine gFT (by first | (with_reducible first | rfl | assumption) | decide) ?_
      | ((first | refine gsT (fun h => ?_) (fun h => ?_) | refine gsF (fun h => ?_) (fun h => ?_) | refine ⟨fun h => ?_, fun h => ?_⟩) <;> (have hs := h; try simp only [reduceCtorEq, emptyLit, emptyLit2, Int.reduceEq, Int.reduceNe, Int.reduceLT, Int.reduceLE, Int.reduceBEq, Int.reduceBNe, false_and, and_false, false_or, or_false, true_and, and_true, true_or, or_true, not_true_eq_false, not_false_eq_true, cond_true, cond_false, Int.toNat_natCast, List.length_map, beqS_iff, beqS_no, Bool.cond_true_left, Bool.cond_false_right, Bool.or_eq_true, Bool.or_eq_false_iff, Bool.and_eq_true, Bool.and_eq_false_iff, decide_eq_true_eq, decide_eq_false_iff_not, Bool.not_eq_true', Bool.not_eq_false', beq_iff_eq, bne_iff_ne, beq_eq_false_iff_ne, bne_eq_false_iff_eq, Int.ofNat_lt, Int.ofNat_le, Int.not_lt, Int.not_le, ge_iff_le, gt_iff_lt, ne_eq] at hs))
      | ((with_reducible show _ ∧ _ ∧ Weak _ _ _); refine ⟨?_, ?_, Weak.go⟩; (omega))
      | ((with_reducible show (_ ∧ _ ∧ _) ∧ _); refine ⟨⟨by kernel_rfl, by kernel_rfl, by rfl⟩, ?_⟩)
      | ((with_reducible show AV.pf _ = true ∧ _); refine ⟨pf_of1 rfl, ?_⟩)
      | (refine ⟨rfl, ?_, ?_, ?_⟩; (first | exact fun h => h | exact fun _ => rfl | exact notF | exact andL | exact andR | exact fun h' => andI h h' | exact fun h' => andN h h'); (first | exact fun h => h | exact fun _ => rfl | exact notF | exact andL | exact andR | exact fun h' => andI h h' | exact fun h' => andN h h'))
      | ((with_reducible show (_ ∨ _) ∧ _ ∧ retA _ _ _ _ _); refine ⟨?_, rfl, ?_⟩; (first | exact .inr rfl | exact .inl rfl))
      | ((with_reducible show _ = _ ∧ _ = false ∧ _ = _); refine ⟨?_, rfl, rfl⟩; try (skip))
      | ((with_reducible show LeqD _ _); try (first | (repeat' (first | exact LeqD.refl _ | exact LeqDL.refl _ | assumption | exact LeqD.nil (by decide) | refine LeqDL.cons ?_ ?_ | refine LeqD.agg ?_ | refine LeqD.tup ?_ | refine LeqD.sl ?_); done) | (skip)); done)
      | ((with_reducible show _ = _ ∧ (_ → _)); refine ⟨?_, ?_⟩; try (skip))
      | exact fun h => h
      | exact fun _ => rfl
      | refine ⟨rfl, ?_⟩
      | (refine ⟨Nat.le_of_ble_eq_true rfl, ?_⟩)
      | (refine ⟨?_, ?_, ?_⟩; (first | (refine sizeOk rfl ?_; simp only [List.length_map, List.length_append, List.length_take, List.length_drop, List.length_cons, List.length_nil]; omega) | omega | (simp only [List.length_map, List.length_append, List.length_take, List.length_drop, List.length_cons, List.length_nil]; omega)); (first | (refine sizeOk rfl ?_; simp only [List.length_map, List.length_append, List.length_take, List.length_drop, List.length_cons, List.length_nil]; omega) | omega | (simp only [List.length_map, List.length_append, List.length_take, List.length_drop, List.length_cons, List.length_nil]; omega)))
      | (refine ⟨?_, ?_⟩; (first | (refine sizeOk rfl ?_; simp only [List.length_map, List.length_append, List.length_take, List.length_drop, List.length_cons, List.length_nil]; omega) | omega | (simp only [List.length_map, List.length_append, List.length_take, List.length_drop, List.length_cons, List.length_nil]; omega)))
      | fail)
    refine Eq.trans (b := AV.tup [eDone ⟨clock, l, .empty, false, if (0 : Int) = 0 then statusOf (mayE n a b) else 0, mayE n a b⟩, i64 0]) (by kernel_rfl) ?_
    exact doneEq (by unfold doCopy; rw [if_neg hs]; rfl)
  · repeat' ((conv => whnf); (fail_if_success (with_reducible show ∃ _, _ ∧ _ ∧ Weak _ _ _)); first
      | ((with_reducible show guardA _ _ _ _ _ _ ∨ _); first
        | (refine .inr ?_; (conv => whnf); refine ⟨_, ?_, fun h => rfl, rfl, ?_⟩; ((conv => whnf); first | exact trivial | (refine ⟨?_, trivial⟩; (first | exact fun h => h | exact fun _ => rfl | exact notF | exact andL | exact andR | exact fun h' => andI h h' | exact fun h' => andN h h'))))
        | (refine .inr ?_; (conv => whnf); refine ⟨_, trivial, fun h => ⟨?_, ?_, ?_, rfl⟩, rfl, ?_⟩; (first | exact h | rfl); (first | exact fun h => h | exact fun _ => rfl | exact notF | exact andL | exact andR | exact fun h' => andI h h' | exact fun h' => andN h h'); (first | exact fun h => h | exact fun _ => rfl | exact notF | exact andL | exact andR | exact fun h' => andI h h' | exact fun h' => andN h h'))
        | (refine .inl ?_; (conv => whnf); first | refine gY (by first | (with_reducible first | rfl | assumption) | decide) ?_ | refine gTF (by first | (with_reducible first | rfl | assumption) | decide) ?_ | refine gFT (by first | (with_reducible first | rfl | assumption) | decide) ?_ | ((first | refine gsT (fun h => ?_) (fun h => ?_) | refine gsF (fun h => ?_) (fun h => ?_)) <;> (have hs := h; try simp only [reduceCtorEq, emptyLit, emptyLit2, Int.reduceEq, Int.reduceNe, Int.reduceLT, Int.reduceLE, Int.reduceBEq, Int.reduceBNe, false_and, and_false, false_or, or_false, true_and, and_true, true_or, or_true, not_true_eq_false, not_false_eq_true, cond_true, cond_false, Int.toNat_natCast, List.length_map, beqS_iff, beqS_no, Bool.cond_true_left, Bool.cond_false_right, Bool.or_eq_true, Bool.or_eq_false_iff, Bool.and_eq_true, Bool.and_eq_false_iff, decide_eq_true_eq, decide_eq_false_iff_not, Bool.not_eq_true', Bool.not_eq_false', beq_iff_eq, bne_iff_ne, beq_eq_false_iff_ne, bne_eq_false_iff_eq, Int.ofNat_lt, Int.ofNat_le, Int.not_lt, Int.not_le, ge_iff_le, gt_iff_lt, ne_eq] at hs)))
        | (refine .inl ?_))
      | refine cTrue (by first | (with_reducible first | rfl | assumption) | decide) ?_
      | refine cFalse (by first | (with_reducible first | rfl | assumption) | decide) ?_
      | refine gY (by first | (with_reducible first | rfl | assumption) | decide) ?_
      | refine gTF (by first | (with_reducible first | rfl | assumption) | decide) ?_
      | refine gFT (by first | (with_reducible first | rfl | assumption) | decide) ?_
      | ((first | refine gsT (fun h => ?_) (fun h => ?_) | refine gsF (fun h => ?_) (fun h => ?_) | refine ⟨fun h => ?_, fun h => ?_⟩) <;> (have hs := h; try simp only [reduceCtorEq, emptyLit, emptyLit2, Int.reduceEq, Int.reduceNe, Int.reduceLT, Int.reduceLE, Int.reduceBEq, Int.reduceBNe, false_and, and_false, false_or, or_false, true_and, and_true, true_or, or_true, not_true_eq_false, not_false_eq_true, cond_true, cond_false, Int.toNat_natCast, List.length_map, beqS_iff, beqS_no, Bool.cond_true_left, Bool.cond_false_right, Bool.or_eq_true, Bool.or_eq_false_iff, Bool.and_eq_true, Bool.and_eq_false_iff, decide_eq_true_eq, decide_eq_false_iff_not, Bool.not_eq_true', Bool.not_eq_false', beq_iff_eq, bne_iff_ne, beq_eq_false_iff_ne, bne_eq_false_iff_eq, Int.ofNat_lt, Int.ofNat_le, Int.not_lt, Int.not_le, ge_iff_le, gt_iff_lt, ne_eq] at hs))
      | (refine .inl ⟨_, _, c_done_copy, ?_⟩)
      | ((with_reducible show _ ∧ _ ∧ Weak _ _ _); refine ⟨?_, ?_, Weak.go⟩; (omega))
      | ((with_reducible show (_ ∧ _ ∧ _) ∧ _); refine ⟨⟨by kernel_rfl, by kernel_rfl, by rfl⟩, ?_⟩)
      | ((with_reducible show AV.pf _ = true ∧ _); refine ⟨pf_of1 rfl, ?_⟩)
      | (refine ⟨rfl, ?_, ?_, ?_⟩; (first | exact fun h => h | exact fun _ => rfl | exact notF | exact andL | exact andR | exact fun h' => andI h h' | exact fun h' => andN h h'); (first | exact fun h => h | exact fun _ => rfl | exact notF | exact andL | exact andR | exact fun h' => andI h h' | exact fun h' => andN h h'))
      | ((with_reducible show (_ ∨ _) ∧ _ ∧ retA _ _ _ _ _); refine ⟨?_, rfl, ?_⟩; (first | exact .inr rfl | exact .inl rfl))
      | ((with_reducible show _ = _ ∧ _ = false ∧ _ = _); refine ⟨?_, rfl, rfl⟩; try (skip))
      | ((with_reducible show LeqD _ _); try (first | (repeat' (first | exact LeqD.refl _ | exact LeqDL.refl _ | assumption | exact LeqD.nil (by decide) | refine LeqDL.cons ?_ ?_ | refine LeqD.agg ?_ | refine LeqD.tup ?_ | refine LeqD.sl ?_); done) | (skip)); done)
      | ((with_reducible show _ = _ ∧ (_ → _)); refine ⟨?_, ?_⟩; try (skip))
      | exact fun h => h
      | exact fun _ => rfl
      | refine ⟨rfl, ?_⟩
      | (refine ⟨Nat.le_of_ble_eq_true rfl, ?_⟩)
      | (refine ⟨?_, ?_, ?_⟩; (first | (refine sizeOk rfl ?_; simp only [List.length_map, List.length_append, List.length_take, List.length_drop, List.length_cons, List.length_nil]; omega) | omega | (simp only [List.length_map, List.length_append, List.length_take, List.length_drop, List.length_cons, List.length_nil]; omega)); (first | (refine sizeOk rfl ?_; simp only [List.length_map, List.length_append, List.length_take, List.length_drop, List.length_cons, List.length_nil]; omega) | omega | (simp only [List.length_map, List.length_append, List.length_take, List.length_drop, List.length_cons, List.length_nil]; omega)))
      | (refine ⟨?_, ?_⟩; (first | (refine sizeOk rfl ?_; simp only [List.length_map, List.length_append, List.length_take, List.length_drop, List.length_cons, List.length_nil]; omega) | omega | (simp only [List.length_map, List.length_append, List.length_take, List.length_drop, List.length_cons, List.length_nil]; omega)))
      | fail)
    · refine callG_args (args' := [i64 (doneE clock l a b), i64 0, .bp 1 0]) (by kernel_rfl) ?_
      refine callG_do1 (clock := clock) (l := l) (by kernel_rfl) ?_
      repeat' ((conv => whnf); (fail_if_success (with_reducible show ∃ _, _ ∧ _ ∧ Weak _ _ _)); first
        | ((with_reducible show guardA _ _ _ _ _ _ ∨ _); first
          | (refine .inr ?_; (conv => whnf); refine ⟨_, ?_, fun h => rfl, rfl, ?_⟩; ((conv => whnf); first | exact trivial | (refine ⟨?_, trivial⟩; (first | exact fun h => h | exact fun _ => rfl | exact notF | exact andL | exact andR | exact fun h' => andI h h' | exact fun h' => andN h h'))))
          | (refine .inr ?_; (conv => whnf); refine ⟨_, trivial, fun h => ⟨?_, ?_, ?_, rfl⟩, rfl, ?_⟩; (first | exact h | rfl); (first | exact fun h => h | exact fun _ => rfl | exact notF | exact andL | exact andR | exact fun h' => andI h h' | exact fun h' => andN h h'); (first | exact fun h => h | exact fun _ => rfl | exact notF | exact andL | exact andR | exact fun h' => andI h h' | exact fun h' => andN h h'))
          | (refine .inl ?_; (conv => whnf); first | refine gY (by first | (with_reducible first | rfl | assumption) | decide) ?_ | refine gTF (by first | (with_reducible first | rfl | assumption) | decide) ?_ | refine gFT (by first | (with_reducible first | rfl | assumption) | decide) ?_ | ((first | refine gsT (fun h => ?_) (fun h => ?_) | refine gsF (fun h => ?_) (fun h => ?_)) <;> (have hs := h; try simp only [reduceCtorEq, emptyLit, emptyLit2, Int.reduceEq, Int.reduceNe, Int.reduceLT, Int.reduceLE, Int.reduceBEq, Int.reduceBNe, false_and, and_false, false_or, or_false, true_and, and_true, true_or, or_true, not_true_eq_false, not_false_eq_true, cond_true, cond_false, Int.toNat_natCast, List.length_map, beqS_iff, beqS_no, Bool.cond_true_left, Bool.cond_false_right, Bool.or_eq_true, Bool.or_eq_false_iff, Bool.and_eq_true, Bool.and_eq_false_iff, decide_eq_true_eq, decide_eq_false_iff_not, Bool.not_eq_true', Bool.not_eq_false', beq_iff_eq, bne_iff_ne, beq_eq_false_iff_ne, bne_eq_false_iff_eq, Int.ofNat_lt, Int.ofNat_le, Int.not_lt, Int.not_le, ge_iff_le, gt_iff_lt, ne_eq] at hs)))
          | (refine .inl ?_))
        | refine cTrue (by first | (with_reducible first | rfl | assumption) | decide) ?_
        | refine cFalse (by first | (with_reducible first | rfl | assumption) | decide) ?_
        | refine gY (by first | (with_reducible first | rfl | assumption) | decide) ?_
        | refine gTF (by first | (with_reducible first | rfl | assumption) | decide) ?_
        | refine gFT (by first | (with_reducible first | rfl | assumption) | decide) ?_
        | ((first | refine gsT (fun h => ?_) (fun h => ?_) | refine gsF (fun h => ?_) (fun h => ?_) | refine ⟨fun h => ?_, fun h => ?_⟩) <;> (have hs := h; try simp only [reduceCtorEq, emptyLit, emptyLit2, Int.reduceEq, Int.reduceNe, Int.reduceLT, Int.reduceLE, Int.reduceBEq, Int.reduceBNe, false_and, and_false, false_or, or_false, true_and, and_true, true_or, or_true, not_true_eq_false, not_false_eq_true, cond_true, cond_false, Int.toNat_natCast, List.length_map, beqS_iff, beqS_no, Bool.cond_true_left, Bool.cond_false_right, Bool.or_eq_true, Bool.or_eq_false_iff, Bool.and_eq_true, Bool.and_eq_false_iff, decide_eq_true_eq, decide_eq_false_iff_not, Bool.not_eq_true', Bool.not_eq_false', beq_iff_eq, bne_iff_ne, beq_eq_false_iff_ne, bne_eq_false_iff_eq, Int.ofNat_lt, Int.ofNat_le, Int.not_lt, Int.not_le, ge_iff_le, gt_iff_lt, ne_eq] at hs))
        | ((with_reducible show _ ∧ _ ∧ Weak _ _ _); refine ⟨?_, ?_, Weak.go⟩; (omega))
        | ((with_reducible show (_ ∧ _ ∧ _) ∧ _); refine ⟨⟨by kernel_rfl, by kernel_rfl, by rfl⟩, ?_⟩)
        | ((with_reducible show AV.pf _ = true ∧ _); refine ⟨pf_of1 rfl, ?_⟩)
        | (refine ⟨rfl, ?_, ?_, ?_⟩; (first | exact fun h => h | exact fun _ => rfl | exact notF | exact andL | exact andR | exact fun h' => andI h h' | exact fun h' => andN h h'); (first | exact fun h => h | exact fun _ => rfl | exact notF | exact andL | exact andR | exact fun h' => andI h h' | exact fun h' => andN h h'))
        | ((with_reducible show (_ ∨ _) ∧ _ ∧ retA _ _ _ _ _); refine ⟨?_, rfl, ?_⟩; (first | exact .inr rfl | exact .inl rfl))
        | ((with_reducible show _ = _ ∧ _ = false ∧ _ = _); refine ⟨?_, rfl, rfl⟩; try (skip))
        | ((with_reducible show LeqD _ _); try (first | (repeat' (first | exact LeqD.refl _ | exact LeqDL.refl _ | assumption | exact LeqD.nil (by decide) | refine LeqDL.cons ?_ ?_ | refine LeqD.agg ?_ | refine LeqD.tup ?_ | refine LeqD.sl ?_); done) | (skip)); done)
        | ((with_reducible show _ = _ ∧ (_ → _)); refine ⟨?_, ?_⟩; try (skip))
        | exact fun h => h
        | exact fun _ => rfl
        | refine ⟨rfl, ?_⟩
        | (refine ⟨Nat.le_of_ble_eq_true rfl, ?_⟩)
        | (refine ⟨?_, ?_, ?_⟩; (first | (refine sizeOk rfl ?_; simp only [List.length_map, List.length_append, List.length_take, List.length_drop, List.length_cons, List.length_nil]; omega) | omega | (simp only [List.length_map, List.length_append, List.length_take, List.length_drop, List.length_cons, List.length_nil]; omega)); (first | (refine sizeOk rfl ?_; simp only [List.length_map, List.length_append, List.length_take, List.length_drop, List.length_cons, List.length_nil]; omega) | omega | (simp only [List.length_map, List.length_append, List.length_take, List.length_drop, List.length_cons, List.length_nil]; omega)))
        | (refine ⟨?_, ?_⟩; (first | (refine sizeOk rfl ?_; simp only [List.length_map, List.length_append, List.length_take, List.length_drop, List.length_cons, List.length_nil]; omega) | omega | (simp only [List.length_map, List.length_append, List.length_take, List.length_drop, List.length_cons, List.length_nil]; omega)))
        | fail)
      refine Eq.trans (b := AV.tup [eDone ⟨clock, l, .empty, false, if (0 : Int) = 0 then statusOf (doneE clock l a b) else 0, doneE clock l a b⟩, i64 0]) (by kernel_rfl) ?_
      have hm : mayE n a b = 0 := by assumption
      exact doneEq (by unfold doCopy; rw [if_pos hm, if_neg hs]; rfl)
    · repeat' ((conv => whnf); (fail_if_success (with_reducible show ∃ _, _ ∧ _ ∧ Weak _ _ _)); first
        | ((with_reducible show guardA _ _ _ _ _ _ ∨ _); first
          | (refine .inr ?_; (conv => whnf); refine ⟨_, ?_, fun h => rfl, rfl, ?_⟩; ((conv => whnf); first | exact trivial | (refine ⟨?_, trivial⟩; (first | exact fun h => h | exact fun _ => rfl | exact notF | exact andL | exact andR | exact fun h' => andI h h' | exact fun h' => andN h h'))))
          | (refine .inr ?_; (conv => whnf); refine ⟨_, trivial, fun h => ⟨?_, ?_, ?_, rfl⟩, rfl, ?_⟩; (first | exact h | rfl); (first | exact fun h => h | exact fun _ => rfl | exact notF | exact andL | exact andR | exact fun h' => andI h h' | exact fun h' => andN h h'); (first | exact fun h => h | exact fun _ => rfl | exact notF | exact andL | exact andR | exact fun h' => andI h h' | exact fun h' => andN h h'))
          | (refine .inl ?_; (conv => whnf); first | refine gY (by first | (with_reducible first | rfl | assumption) | decide) ?_ | refine gTF (by first | (with_reducible first | rfl | assumption) | decide) ?_ | refine gFT (by first | (with_reducible first | rfl | assumption) | decide) ?_ | ((first | refine gsT (fun h => ?_) (fun h => ?_) | refine gsF (fun h => ?_) (fun h => ?_)) <;> (have hs := h; try simp only [reduceCtorEq, emptyLit, emptyLit2, Int.reduceEq, Int.reduceNe, Int.reduceLT, Int.reduceLE, Int.reduceBEq, Int.reduceBNe, false_and, and_false, false_or, or_false, true_and, and_true, true_or, or_true, not_true_eq_false, not_false_eq_true, cond_true, cond_false, Int.toNat_natCast, List.length_map, beqS_iff, beqS_no, Bool.cond_true_left, Bool.cond_false_right, Bool.or_eq_true, Bool.or_eq_false_iff, Bool.and_eq_true, Bool.and_eq_false_iff, decide_eq_true_eq, decide_eq_false_iff_not, Bool.not_eq_true', Bool.not_eq_false', beq_iff_eq, bne_iff_ne, beq_eq_false_iff_ne, bne_eq_false_iff_eq, Int.ofNat_lt, Int.ofNat_le, Int.not_lt, Int.not_le, ge_iff_le, gt_iff_lt, ne_eq] at hs)))
          | (refine .inl ?_))
        | refine cTrue (by first | (with_reducible first | rfl | assumption) | decide) ?_
        | refine cFalse (by first | (with_reducible first | rfl | assumption) | decide) ?_
        | refine gY (by first | (with_reducible first | rfl | assumption) | decide) ?_
        | refine gTF (by first | (with_reducible first | rfl | assumption) | decide) ?_
        | refine gFT (by first | (with_reducible first | rfl | assumption) | decide) ?_
        | ((first | refine gsT (fun h => ?_) (fun h => ?_) | refine gsF (fun h => ?_) (fun h => ?_) | refine ⟨fun h => ?_, fun h => ?_⟩) <;> (have hs := h; try simp only [reduceCtorEq, emptyLit, emptyLit2, Int.reduceEq, Int.reduceNe, Int.reduceLT, Int.reduceLE, Int.reduceBEq, Int.reduceBNe, false_and, and_false, false_or, or_false, true_and, and_true, true_or, or_true, not_true_eq_false, not_false_eq_true, cond_true, cond_false, Int.toNat_natCast, List.length_map, beqS_iff, beqS_no, Bool.cond_true_left, Bool.cond_false_right, Bool.or_eq_true, Bool.or_eq_false_iff, Bool.and_eq_true, Bool.and_eq_false_iff, decide_eq_true_eq, decide_eq_false_iff_not, Bool.not_eq_true', Bool.not_eq_false', beq_iff_eq, bne_iff_ne, beq_eq_false_iff_ne, bne_eq_false_iff_eq, Int.ofNat_lt, Int.ofNat_le, Int.not_lt, Int.not_le, ge_iff_le, gt_iff_lt, ne_eq] at hs))
        | (refine .inl ⟨_, _, c_Writes_copy ha hb, ?_⟩)
        | ((with_reducible show _ ∧ _ ∧ Weak _ _ _); refine ⟨?_, ?_, Weak.go⟩; (omega))
        | ((with_reducible show (_ ∧ _ ∧ _) ∧ _); refine ⟨⟨by kernel_rfl, by kernel_rfl, by rfl⟩, ?_⟩)
        | ((with_reducible show AV.pf _ = true ∧ _); refine ⟨pf_of1 rfl, ?_⟩)
        | (refine ⟨rfl, ?_, ?_, ?_⟩; (first | exact fun h => h | exact fun _ => rfl | exact notF | exact andL | exact andR | exact fun h' => andI h h' | exact fun h' => andN h h'); (first | exact fun h => h | exact fun _ => rfl | exact notF | exact andL | exact andR | exact fun h' => andI h h' | exact fun h' => andN h h'))
        | ((with_reducible show (_ ∨ _) ∧ _ ∧ retA _ _ _ _ _); refine ⟨?_, rfl, ?_⟩; (first | exact .inr rfl | exact .inl rfl))
        | ((with_reducible show _ = _ ∧ _ = false ∧ _ = _); refine ⟨?_, rfl, rfl⟩; try (skip))
        | ((with_reducible show LeqD _ _); try (first | (repeat' (first | exact LeqD.refl _ | exact LeqDL.refl _ | assumption | exact LeqD.nil (by decide) | refine LeqDL.cons ?_ ?_ | refine LeqD.agg ?_ | refine LeqD.tup ?_ | refine LeqD.sl ?_); done) | (skip)); done)
        | ((with_reducible show _ = _ ∧ (_ → _)); refine ⟨?_, ?_⟩; try (skip))
        | exact fun h => h
        | exact fun _ => rfl
        | refine ⟨rfl, ?_⟩
        | (refine ⟨Nat.le_of_ble_eq_true rfl, ?_⟩)
        | (refine ⟨?_, ?_, ?_⟩; (first | (refine sizeOk rfl ?_; simp only [List.length_map, List.length_append, List.length_take, List.length_drop, List.length_cons, List.length_nil]; omega) | omega | (simp only [List.length_map, List.length_append, List.length_take, List.length_drop, List.length_cons, List.length_nil]; omega)); (first | (refine sizeOk rfl ?_; simp only [List.length_map, List.length_append, List.length_take, List.length_drop, List.length_cons, List.length_nil]; omega) | omega | (simp only [List.length_map, List.length_append, List.length_take, List.length_drop, List.length_cons, List.length_nil]; omega)))
        | (refine ⟨?_, ?_⟩; (first | (refine sizeOk rfl ?_; simp only [List.length_map, List.length_append, List.length_take, List.length_drop, List.length_cons, List.length_nil]; omega) | omega | (simp only [List.length_map, List.length_append, List.length_take, List.length_drop, List.length_cons, List.length_nil]; omega)))
        | fail)
      refine Eq.trans (b := AV.tup [eDone ⟨doneC clock l a b, doneL clock l a b, .empty, true, 0, 0⟩, i64 0]) (by kernel_rfl) ?_
      have hm : mayE n a b = 0 := by assumption
      exact doneEq (by unfold doCopy; rw [if_pos hm, if_pos hs])
end Go.Proofs.YtepdiooaoegpfaaGreatDoor.Fx
end
section
/- The little program of the laws of commands that are done. Conditions: none. -/
namespace Go.Proofs.YtepdiooaoegpfaaGreatDoor.Fx
open Go Go.Proofs Go.Ev Go.RowKit
set_option maxRecDepth 100000
set_option maxHeartbeats 6400000
set_option linter.unusedSimpArgs false
set_option linter.unusedVariables false
abbrev aW : ByteArray := ⟨#[97]⟩
abbrev bW : ByteArray := ⟨#[98]⟩
abbrev tW : ByteArray := ⟨#[116]⟩
abbrev xW : ByteArray := ⟨#[120]⟩
abbrev line1 : ByteArray := ⟨#[99, 111, 112, 121, 32, 97, 32, 116]⟩
abbrev line2 : ByteArray := ⟨#[99, 111, 112, 121, 32, 98, 32, 116]⟩
abbrev fs0 : List File := [⟨aW, xW, 2⟩, ⟨bW, .empty, 1⟩]
abbrev n0 : Node := { target := tW, needs := [aW], recipe := [], has := false, source := .empty, stem := .empty, phony := false, precious := false, ignore := false, silent := false }
theorem v1 : wordsV line1 = [copyW, aW, tW] := by kernel_rfl
theorem v2 : wordsV line2 = [copyW, bW, tW] := by kernel_rfl
theorem e1 : wordsE line1 = 0 := by kernel_rfl
theorem e2 : wordsE line2 = 0 := by kernel_rfl
theorem na : isName aW = true := by kernel_rfl
theorem nb : isName bW = true := by kernel_rfl
theorem nt : isName tW = true := by kernel_rfl
theorem ok0 : okD 4 fs0 = true := by kernel_rfl
theorem alone0 : aloneOk n0 = true := by kernel_rfl
theorem do1 : doCopy n0 4 fs0 aW tW = ⟨5, [⟨aW, xW, 2⟩, ⟨bW, .empty, 1⟩, ⟨tW, xW, 5⟩], .empty, true, 0, 0⟩ := by kernel_rfl
theorem do2 : doCopy n0 4 fs0 bW tW = ⟨4, fs0, .empty, false, 3, 170⟩ := by kernel_rfl
theorem sz0 : SzN n0 := ⟨Nat.le_of_ble_eq_true rfl, ⟨Nat.le_of_ble_eq_true rfl, by intro x hx; rw [List.mem_singleton] at hx; subst hx; exact Nat.le_of_ble_eq_true rfl⟩, ⟨Nat.zero_le _, by intro x hx; cases hx⟩⟩
abbrev vN0 : AV := .agg [str tW, eS [aW], nilv, bln false, str .empty, str .empty, bln false, bln false, bln false, bln false]
theorem leqN0 {t : ByteArray} : LeqDL [vN0, str t, eD 4 fs0, i64 0] [eN n0, str t, eD 4 fs0, i64 0] := by
  refine LeqDL.cons (LeqD.agg ?_) (LeqDL.refl _)
  repeat' (first | exact LeqD.nil (by decide) | exact LeqD.refl _ | exact LeqDL.refl _ | refine LeqDL.cons ?_ ?_)
theorem c_Do1' : XPure Tryz.prog 9 [vN0, str line1, eD 4 fs0, i64 0] (.tup [eDone ⟨5, [⟨aW, xW, 2⟩, ⟨bW, .empty, 1⟩, ⟨tW, xW, 5⟩], .empty, true, 0, 0⟩, i64 0]) false := by
  have h := (c_Do_copy (t := line1) sz0 alone0 (Nat.le_of_ble_eq_true rfl) ok0 (Nat.le_of_ble_eq_true rfl) v1 e1 na nt).nils leqN0
  rwa [do1] at h
theorem c_Do2' : XPure Tryz.prog 9 [vN0, str line2, eD 4 fs0, i64 0] (.tup [eDone ⟨4, fs0, .empty, false, 3, 170⟩, i64 0]) false := by
  have h := (c_Do_copy (t := line2) sz0 alone0 (Nat.le_of_ble_eq_true rfl) ok0 (Nat.le_of_ble_eq_true rfl) v2 e2 nb nt).nils leqN0
  rwa [do2] at h
end Go.Proofs.YtepdiooaoegpfaaGreatDoor.Fx
end
section
/- The little program of the laws of commands that are done. Conditions: none. -/
namespace Go.Proofs.YtepdiooaoegpfaaGreatDoor.Fx
open Go Go.Proofs Go.Ev Go.RowKit
set_option maxRecDepth 100000
set_option maxHeartbeats 6400000
set_option linter.unusedSimpArgs false
set_option linter.unusedVariables false
theorem absF {b : Bool} (h1 : b = false) (h2 : b = true) : False := by rw [h2] at h1; cases h1
theorem xargs {P : Program} {f : FuncId} {args args' : List AV} {r : AV} {ow : Bool} (h : args = args') (hx : XPure P f args' r ow) : XPure P f args r ow := h ▸ hx
theorem c_small : XPure Tryz.prog 13 [] (bln true) false := by
  refine XPure.body ⟨_, Tryz.func13, rfl, by kernel_rfl⟩ Tryz.func13 rfl (Nat.le_of_ble_eq_true (by rfl)) (pf_of1 rfl) fun env => ?_
  repeat' ((conv => whnf); (fail_if_success (with_reducible show ∃ _, _ ∧ _ ∧ Weak _ _ _)); first
    | ((with_reducible show guardA _ _ _ _ _ _ ∨ _); first
      | (refine .inr ?_; (conv => whnf); refine ⟨_, ?_, fun h => rfl, rfl, ?_⟩; ((conv => whnf); first | exact trivial | (refine ⟨?_, trivial⟩; (first | exact fun h => h | exact fun _ => rfl | exact notF | exact andL | exact andR | exact fun h' => andI h h' | exact fun h' => andN h h'))))
      | (refine .inr ?_; (conv => whnf); refine ⟨_, trivial, fun h => ⟨?_, ?_, ?_, rfl⟩, rfl, ?_⟩; (first | exact h | rfl); (first | exact fun h => h | exact fun _ => rfl | exact notF | exact andL | exact andR | exact fun h' => andI h h' | exact fun h' => andN h h'); (first | exact fun h => h | exact fun _ => rfl | exact notF | exact andL | exact andR | exact fun h' => andI h h' | exact fun h' => andN h h'))
      | (refine .inl ?_; (conv => whnf); first | refine gY (by with_reducible first | rfl | assumption) ?_ | refine gTF (by with_reducible first | rfl | assumption) ?_ | refine gFT (by with_reducible first | rfl | assumption) ?_ | ((first | refine gsT (fun h => ?_) (fun h => ?_) | refine gsF (fun h => ?_) (fun h => ?_)) <;> (have hs := h; try simp only [reduceCtorEq, emptyLit, emptyLit2, Int.reduceEq, Int.reduceNe, Int.reduceLT, Int.reduceLE, Int.reduceBEq, Int.reduceBNe, false_and, and_false, false_or, or_false, true_and, and_true, true_or, or_true, not_true_eq_false, not_false_eq_true, cond_true, cond_false, Int.toNat_natCast, List.length_map, beqS_iff, beqS_no, Bool.cond_true_left, Bool.cond_false_right, Bool.or_eq_true, Bool.or_eq_false_iff, Bool.and_eq_true, Bool.and_eq_false_iff, decide_eq_true_eq, decide_eq_false_iff_not, Bool.not_eq_true', Bool.not_eq_false', beq_iff_eq, bne_iff_ne, beq_eq_false_iff_ne, bne_eq_false_iff_eq, Int.ofNat_lt, Int.ofNat_le, Int.not_lt, Int.not_le, ge_iff_le, gt_iff_lt, ne_eq] at hs)))
      | (refine .inl ?_))
    | refine cTrue (by with_reducible first | rfl | assumption) ?_
    | refine cFalse (by with_reducible first | rfl | assumption) ?_
    | refine gY (by with_reducible first | rfl | assumption) ?_
    | refine gTF (by with_reducible first | rfl | assumption) ?_
    | refine gFT (by with_reducible first | rfl | assumption) ?_
    | ((first | refine gsT (fun h => ?_) (fun h => ?_) | refine gsF (fun h => ?_) (fun h => ?_) | refine ⟨fun h => ?_, fun h => ?_⟩) <;> (have hs := h; try simp only [reduceCtorEq, emptyLit, emptyLit2, Int.reduceEq, Int.reduceNe, Int.reduceLT, Int.reduceLE, Int.reduceBEq, Int.reduceBNe, false_and, and_false, false_or, or_false, true_and, and_true, true_or, or_true, not_true_eq_false, not_false_eq_true, cond_true, cond_false, Int.toNat_natCast, List.length_map, beqS_iff, beqS_no, Bool.cond_true_left, Bool.cond_false_right, Bool.or_eq_true, Bool.or_eq_false_iff, Bool.and_eq_true, Bool.and_eq_false_iff, decide_eq_true_eq, decide_eq_false_iff_not, Bool.not_eq_true', Bool.not_eq_false', beq_iff_eq, bne_iff_ne, beq_eq_false_iff_ne, bne_eq_false_iff_eq, Int.ofNat_lt, Int.ofNat_le, Int.not_lt, Int.not_le, ge_iff_le, gt_iff_lt, ne_eq] at hs))
    | ((with_reducible show _ ∧ _ ∧ Weak _ _ _); refine ⟨?_, ?_, Weak.go⟩; (omega))
    | ((with_reducible show (_ ∧ _ ∧ _) ∧ _); refine ⟨⟨by kernel_rfl, by kernel_rfl, by rfl⟩, ?_⟩)
    | ((with_reducible show AV.pf _ = true ∧ _); refine ⟨pf_of1 rfl, ?_⟩)
    | (refine ⟨rfl, ?_, ?_, ?_⟩; (first | exact fun h => h | exact fun _ => rfl | exact notF | exact andL | exact andR | exact fun h' => andI h h' | exact fun h' => andN h h'); (first | exact fun h => h | exact fun _ => rfl | exact notF | exact andL | exact andR | exact fun h' => andI h h' | exact fun h' => andN h h'))
    | ((with_reducible show (_ ∨ _) ∧ _ ∧ retA _ _ _ _ _); refine ⟨?_, rfl, ?_⟩; (first | exact .inr rfl | exact .inl rfl))
    | ((with_reducible show _ = _ ∧ _ = false ∧ _ = _); refine ⟨?_, rfl, rfl⟩; try (skip))
    | ((with_reducible show LeqD _ _); try (first | (repeat' (first | exact LeqD.refl _ | exact LeqDL.refl _ | assumption | exact LeqD.nil (by decide) | refine LeqDL.cons ?_ ?_ | refine LeqD.agg ?_ | refine LeqD.tup ?_ | refine LeqD.sl ?_); done) | (skip)); done)
    | ((with_reducible show _ = _ ∧ (_ → _)); refine ⟨?_, ?_⟩; try (skip))
    | exact fun h => h
    | exact fun _ => rfl
    | refine ⟨rfl, ?_⟩
    | (refine ⟨Nat.le_of_ble_eq_true rfl, ?_⟩)
    | (refine ⟨?_, ?_, ?_⟩; (first | (refine sizeOk rfl ?_; simp only [List.length_map, List.length_append, List.length_take, List.length_drop, List.length_cons, List.length_nil]; omega) | omega | (simp only [List.length_map, List.length_append, List.length_take, List.length_drop, List.length_cons, List.length_nil]; omega)); (first | (refine sizeOk rfl ?_; simp only [List.length_map, List.length_append, List.length_take, List.length_drop, List.length_cons, List.length_nil]; omega) | omega | (simp only [List.length_map, List.length_append, List.length_take, List.length_drop, List.length_cons, List.length_nil]; omega)))
    | (refine ⟨?_, ?_⟩; (first | (refine sizeOk rfl ?_; simp only [List.length_map, List.length_append, List.length_take, List.length_drop, List.length_cons, List.length_nil]; omega) | omega | (simp only [List.length_map, List.length_append, List.length_take, List.length_drop, List.length_cons, List.length_nil]; omega)))
    | fail)
  refine .inl ⟨_, _, xargs (args' := [vN0, str line1, eD 4 fs0, i64 0]) (by kernel_rfl) c_Do1', ?_⟩
  iterate 10 any_goals try ((conv => whnf); (fail_if_success (with_reducible show ∃ _, _ ∧ _ ∧ Weak _ _ _)); first
    | ((with_reducible show guardA _ _ _ _ _ _ ∨ _); first
      | (refine .inr ?_; (conv => whnf); refine ⟨_, ?_, fun h => rfl, rfl, ?_⟩; ((conv => whnf); first | exact trivial | (refine ⟨?_, trivial⟩; (first | exact fun h => h | exact fun _ => rfl | exact notF | exact andL | exact andR | exact fun h' => andI h h' | exact fun h' => andN h h'))))
      | (refine .inr ?_; (conv => whnf); refine ⟨_, trivial, fun h => ⟨?_, ?_, ?_, rfl⟩, rfl, ?_⟩; (first | exact h | rfl); (first | exact fun h => h | exact fun _ => rfl | exact notF | exact andL | exact andR | exact fun h' => andI h h' | exact fun h' => andN h h'); (first | exact fun h => h | exact fun _ => rfl | exact notF | exact andL | exact andR | exact fun h' => andI h h' | exact fun h' => andN h h'))
      | (refine .inl ?_; (conv => whnf); first | refine gY (by with_reducible first | rfl | assumption) ?_ | refine gTF (by with_reducible first | rfl | assumption) ?_ | refine gFT (by with_reducible first | rfl | assumption) ?_ | ((first | refine gsT (fun h => ?_) (fun h => ?_) | refine gsF (fun h => ?_) (fun h => ?_)) <;> (have hs := h; try simp only [reduceCtorEq, emptyLit, emptyLit2, Int.reduceEq, Int.reduceNe, Int.reduceLT, Int.reduceLE, Int.reduceBEq, Int.reduceBNe, false_and, and_false, false_or, or_false, true_and, and_true, true_or, or_true, not_true_eq_false, not_false_eq_true, cond_true, cond_false, Int.toNat_natCast, List.length_map, beqS_iff, beqS_no, Bool.cond_true_left, Bool.cond_false_right, Bool.or_eq_true, Bool.or_eq_false_iff, Bool.and_eq_true, Bool.and_eq_false_iff, decide_eq_true_eq, decide_eq_false_iff_not, Bool.not_eq_true', Bool.not_eq_false', beq_iff_eq, bne_iff_ne, beq_eq_false_iff_ne, bne_eq_false_iff_eq, Int.ofNat_lt, Int.ofNat_le, Int.not_lt, Int.not_le, ge_iff_le, gt_iff_lt, ne_eq] at hs)))
      | (refine .inl ?_))
    | refine cTrue (by with_reducible first | rfl | assumption) ?_
    | refine cFalse (by with_reducible first | rfl | assumption) ?_
    | refine gY (by with_reducible first | rfl | assumption) ?_
    | refine gTF (by with_reducible first | rfl | assumption) ?_
    | refine gFT (by with_reducible first | rfl | assumption) ?_
    | ((first | refine gsT (fun h => ?_) (fun h => ?_) | refine gsF (fun h => ?_) (fun h => ?_) | refine ⟨fun h => ?_, fun h => ?_⟩) <;> (have hs := h; try simp only [reduceCtorEq, emptyLit, emptyLit2, Int.reduceEq, Int.reduceNe, Int.reduceLT, Int.reduceLE, Int.reduceBEq, Int.reduceBNe, false_and, and_false, false_or, or_false, true_and, and_true, true_or, or_true, not_true_eq_false, not_false_eq_true, cond_true, cond_false, Int.toNat_natCast, List.length_map, beqS_iff, beqS_no, Bool.cond_true_left, Bool.cond_false_right, Bool.or_eq_true, Bool.or_eq_false_iff, Bool.and_eq_true, Bool.and_eq_false_iff, decide_eq_true_eq, decide_eq_false_iff_not, Bool.not_eq_true', Bool.not_eq_false', beq_iff_eq, bne_iff_ne, beq_eq_false_iff_ne, bne_eq_false_iff_eq, Int.ofNat_lt, Int.ofNat_le, Int.not_lt, Int.not_le, ge_iff_le, gt_iff_lt, ne_eq] at hs))
    | ((with_reducible show _ ∧ _ ∧ Weak _ _ _); refine ⟨?_, ?_, Weak.go⟩; (omega))
    | ((with_reducible show (_ ∧ _ ∧ _) ∧ _); refine ⟨⟨by kernel_rfl, by kernel_rfl, by rfl⟩, ?_⟩)
    | ((with_reducible show AV.pf _ = true ∧ _); refine ⟨pf_of1 rfl, ?_⟩)
    | (refine ⟨rfl, ?_, ?_, ?_⟩; (first | exact fun h => h | exact fun _ => rfl | exact notF | exact andL | exact andR | exact fun h' => andI h h' | exact fun h' => andN h h'); (first | exact fun h => h | exact fun _ => rfl | exact notF | exact andL | exact andR | exact fun h' => andI h h' | exact fun h' => andN h h'))
    | ((with_reducible show (_ ∨ _) ∧ _ ∧ retA _ _ _ _ _); refine ⟨?_, rfl, ?_⟩; (first | exact .inr rfl | exact .inl rfl))
    | ((with_reducible show _ = _ ∧ _ = false ∧ _ = _); refine ⟨?_, rfl, rfl⟩; try (skip))
    | ((with_reducible show LeqD _ _); try (first | (repeat' (first | exact LeqD.refl _ | exact LeqDL.refl _ | assumption | exact LeqD.nil (by decide) | refine LeqDL.cons ?_ ?_ | refine LeqD.agg ?_ | refine LeqD.tup ?_ | refine LeqD.sl ?_); done) | (skip)); done)
    | ((with_reducible show _ = _ ∧ (_ → _)); refine ⟨?_, ?_⟩; try (skip))
    | exact fun h => h
    | exact fun _ => rfl
    | refine ⟨rfl, ?_⟩
    | (refine ⟨Nat.le_of_ble_eq_true rfl, ?_⟩)
    | (refine ⟨?_, ?_, ?_⟩; (first | (refine sizeOk rfl ?_; simp only [List.length_map, List.length_append, List.length_take, List.length_drop, List.length_cons, List.length_nil]; omega) | omega | (simp only [List.length_map, List.length_append, List.length_take, List.length_drop, List.length_cons, List.length_nil]; omega)); (first | (refine sizeOk rfl ?_; simp only [List.length_map, List.length_append, List.length_take, List.length_drop, List.length_cons, List.length_nil]; omega) | omega | (simp only [List.length_map, List.length_append, List.length_take, List.length_drop, List.length_cons, List.length_nil]; omega)))
    | (refine ⟨?_, ?_⟩; (first | (refine sizeOk rfl ?_; simp only [List.length_map, List.length_append, List.length_take, List.length_drop, List.length_cons, List.length_nil]; omega) | omega | (simp only [List.length_map, List.length_append, List.length_take, List.length_drop, List.length_cons, List.length_nil]; omega)))
    | fail)
  refine .inl ⟨_, _, xargs (args' := [vN0, str line2, eD 4 fs0, i64 0]) (by kernel_rfl) c_Do2', ?_⟩
  repeat' ((conv => whnf); (fail_if_success (with_reducible show ∃ _, _ ∧ _ ∧ Weak _ _ _)); first
    | ((with_reducible show guardA _ _ _ _ _ _ ∨ _); first
      | (refine .inl ?_; (conv => whnf); first | refine gY (by first | (with_reducible first | rfl | assumption) | decide) ?_ | refine gTF (by first | (with_reducible first | rfl | assumption) | decide) ?_ | refine gFT (by first | (with_reducible first | rfl | assumption) | decide) ?_ | ((first | refine gsT (fun h => ?_) (fun h => ?_) | refine gsF (fun h => ?_) (fun h => ?_)) <;> (have hs := h; try simp only [reduceCtorEq, emptyLit, emptyLit2, Int.reduceEq, Int.reduceNe, Int.reduceLT, Int.reduceLE, Int.reduceBEq, Int.reduceBNe, false_and, and_false, false_or, or_false, true_and, and_true, true_or, or_true, not_true_eq_false, not_false_eq_true, cond_true, cond_false, Int.toNat_natCast, List.length_map, beqS_iff, beqS_no, Bool.cond_true_left, Bool.cond_false_right, Bool.or_eq_true, Bool.or_eq_false_iff, Bool.and_eq_true, Bool.and_eq_false_iff, decide_eq_true_eq, decide_eq_false_iff_not, Bool.not_eq_true', Bool.not_eq_false', beq_iff_eq, bne_iff_ne, beq_eq_false_iff_ne, bne_eq_false_iff_eq, Int.ofNat_lt, Int.ofNat_le, Int.not_lt, Int.not_le, ge_iff_le, gt_iff_lt, ne_eq] at hs)))
      | (refine .inl ?_))
    | refine cTrue (by first | (with_reducible first | rfl | assumption) | decide) ?_
    | refine cFalse (by first | (with_reducible first | rfl | assumption) | decide) ?_
    | refine gY (by first | (with_reducible first | rfl | assumption) | decide) ?_
    | refine gTF (by first | (with_reducible first | rfl | assumption) | decide) ?_
    | refine gFT (by first | (with_reducible first | rfl | assumption) | decide) ?_
    | ((first | refine gsT (fun h => ?_) (fun h => ?_) | refine gsF (fun h => ?_) (fun h => ?_) | refine ⟨fun h => ?_, fun h => ?_⟩) <;> (have hs := h; try simp only [reduceCtorEq, emptyLit, emptyLit2, Int.reduceEq, Int.reduceNe, Int.reduceLT, Int.reduceLE, Int.reduceBEq, Int.reduceBNe, false_and, and_false, false_or, or_false, true_and, and_true, true_or, or_true, not_true_eq_false, not_false_eq_true, cond_true, cond_false, Int.toNat_natCast, List.length_map, beqS_iff, beqS_no, Bool.cond_true_left, Bool.cond_false_right, Bool.or_eq_true, Bool.or_eq_false_iff, Bool.and_eq_true, Bool.and_eq_false_iff, decide_eq_true_eq, decide_eq_false_iff_not, Bool.not_eq_true', Bool.not_eq_false', beq_iff_eq, bne_iff_ne, beq_eq_false_iff_ne, bne_eq_false_iff_eq, Int.ofNat_lt, Int.ofNat_le, Int.not_lt, Int.not_le, ge_iff_le, gt_iff_lt, ne_eq] at hs))
    | ((with_reducible show _ ∧ _ ∧ Weak _ _ _); refine ⟨?_, ?_, Weak.go⟩; (omega))
    | ((with_reducible show (_ ∧ _ ∧ _) ∧ _); refine ⟨⟨by kernel_rfl, by kernel_rfl, by rfl⟩, ?_⟩)
    | ((with_reducible show AV.pf _ = true ∧ _); refine ⟨pf_of1 rfl, ?_⟩)
    | (refine ⟨rfl, ?_, ?_, ?_⟩; (first | exact fun h => h | exact fun _ => rfl | exact notF | exact andL | exact andR | exact fun h' => andI h h' | exact fun h' => andN h h'); (first | exact fun h => h | exact fun _ => rfl | exact notF | exact andL | exact andR | exact fun h' => andI h h' | exact fun h' => andN h h'))
    | ((with_reducible show (_ ∨ _) ∧ _ ∧ retA _ _ _ _ _); refine ⟨?_, rfl, ?_⟩; (first | exact .inr rfl | exact .inl rfl))
    | ((with_reducible show _ = _ ∧ _ = false ∧ _ = _); refine ⟨?_, rfl, rfl⟩; try (skip))
    | ((with_reducible show LeqD _ _); try (first | (repeat' (first | exact LeqD.refl _ | exact LeqDL.refl _ | assumption | exact LeqD.nil (by decide) | refine LeqDL.cons ?_ ?_ | refine LeqD.agg ?_ | refine LeqD.tup ?_ | refine LeqD.sl ?_); done) | (skip)); done)
    | ((with_reducible show _ = _ ∧ (_ → _)); refine ⟨?_, ?_⟩; try (skip))
    | exact fun h => h
    | exact fun _ => rfl
    | refine ⟨rfl, ?_⟩
    | (refine ⟨Nat.le_of_ble_eq_true rfl, ?_⟩)
    | (refine ⟨?_, ?_, ?_⟩; (first | (refine sizeOk rfl ?_; simp only [List.length_map, List.length_append, List.length_take, List.length_drop, List.length_cons, List.length_nil]; omega) | omega | (simp only [List.length_map, List.length_append, List.length_take, List.length_drop, List.length_cons, List.length_nil]; omega)); (first | (refine sizeOk rfl ?_; simp only [List.length_map, List.length_append, List.length_take, List.length_drop, List.length_cons, List.length_nil]; omega) | omega | (simp only [List.length_map, List.length_append, List.length_take, List.length_drop, List.length_cons, List.length_nil]; omega)))
    | (refine ⟨?_, ?_⟩; (first | (refine sizeOk rfl ?_; simp only [List.length_map, List.length_append, List.length_take, List.length_drop, List.length_cons, List.length_nil]; omega) | omega | (simp only [List.length_map, List.length_append, List.length_take, List.length_drop, List.length_cons, List.length_nil]; omega)))
    | fail)
  all_goals try exact (absF h (by kernel_rfl)).elim
  · conv => whnf
    refine .inl ⟨_, _, xargs (args' := [eD 4 fs0, eD 4 fs0]) (by kernel_rfl) (c_plain_Disk (l := fs0) (m := fs0) (Nat.le_of_ble_eq_true rfl) (Nat.le_of_ble_eq_true rfl)), ?_⟩
    repeat' ((conv => whnf); (fail_if_success (with_reducible show ∃ _, _ ∧ _ ∧ Weak _ _ _)); first
      | ((with_reducible show guardA _ _ _ _ _ _ ∨ _); first
        | (refine .inl ?_; (conv => whnf); first | refine gY (by first | (with_reducible first | rfl | assumption) | decide) ?_ | refine gTF (by first | (with_reducible first | rfl | assumption) | decide) ?_ | refine gFT (by first | (with_reducible first | rfl | assumption) | decide) ?_ | ((first | refine gsT (fun h => ?_) (fun h => ?_) | refine gsF (fun h => ?_) (fun h => ?_)) <;> (have hs := h; try simp only [reduceCtorEq, emptyLit, emptyLit2, Int.reduceEq, Int.reduceNe, Int.reduceLT, Int.reduceLE, Int.reduceBEq, Int.reduceBNe, false_and, and_false, false_or, or_false, true_and, and_true, true_or, or_true, not_true_eq_false, not_false_eq_true, cond_true, cond_false, Int.toNat_natCast, List.length_map, beqS_iff, beqS_no, Bool.cond_true_left, Bool.cond_false_right, Bool.or_eq_true, Bool.or_eq_false_iff, Bool.and_eq_true, Bool.and_eq_false_iff, decide_eq_true_eq, decide_eq_false_iff_not, Bool.not_eq_true', Bool.not_eq_false', beq_iff_eq, bne_iff_ne, beq_eq_false_iff_ne, bne_eq_false_iff_eq, Int.ofNat_lt, Int.ofNat_le, Int.not_lt, Int.not_le, ge_iff_le, gt_iff_lt, ne_eq] at hs)))
        | (refine .inl ?_))
      | refine cTrue (by first | (with_reducible first | rfl | assumption) | decide) ?_
      | refine cFalse (by first | (with_reducible first | rfl | assumption) | decide) ?_
      | refine gY (by first | (with_reducible first | rfl | assumption) | decide) ?_
      | refine gTF (by first | (with_reducible first | rfl | assumption) | decide) ?_
      | refine gFT (by first | (with_reducible first | rfl | assumption) | decide) ?_
      | ((first | refine gsT (fun h => ?_) (fun h => ?_) | refine gsF (fun h => ?_) (fun h => ?_) | refine ⟨fun h => ?_, fun h => ?_⟩) <;> (have hs := h; try simp only [reduceCtorEq, emptyLit, emptyLit2, Int.reduceEq, Int.reduceNe, Int.reduceLT, Int.reduceLE, Int.reduceBEq, Int.reduceBNe, false_and, and_false, false_or, or_false, true_and, and_true, true_or, or_true, not_true_eq_false, not_false_eq_true, cond_true, cond_false, Int.toNat_natCast, List.length_map, beqS_iff, beqS_no, Bool.cond_true_left, Bool.cond_false_right, Bool.or_eq_true, Bool.or_eq_false_iff, Bool.and_eq_true, Bool.and_eq_false_iff, decide_eq_true_eq, decide_eq_false_iff_not, Bool.not_eq_true', Bool.not_eq_false', beq_iff_eq, bne_iff_ne, beq_eq_false_iff_ne, bne_eq_false_iff_eq, Int.ofNat_lt, Int.ofNat_le, Int.not_lt, Int.not_le, ge_iff_le, gt_iff_lt, ne_eq] at hs))
      | ((with_reducible show _ ∧ _ ∧ Weak _ _ _); refine ⟨?_, ?_, Weak.go⟩; (omega))
      | ((with_reducible show (_ ∧ _ ∧ _) ∧ _); refine ⟨⟨by kernel_rfl, by kernel_rfl, by rfl⟩, ?_⟩)
      | ((with_reducible show AV.pf _ = true ∧ _); refine ⟨pf_of1 rfl, ?_⟩)
      | (refine ⟨rfl, ?_, ?_, ?_⟩; (first | exact fun h => h | exact fun _ => rfl | exact notF | exact andL | exact andR | exact fun h' => andI h h' | exact fun h' => andN h h'); (first | exact fun h => h | exact fun _ => rfl | exact notF | exact andL | exact andR | exact fun h' => andI h h' | exact fun h' => andN h h'))
      | ((with_reducible show (_ ∨ _) ∧ _ ∧ retA _ _ _ _ _); refine ⟨?_, rfl, ?_⟩; (first | exact .inr rfl | exact .inl rfl))
      | ((with_reducible show _ = _ ∧ _ = false ∧ _ = _); refine ⟨?_, rfl, rfl⟩; try (skip))
      | ((with_reducible show LeqD _ _); try (first | (repeat' (first | exact LeqD.refl _ | exact LeqDL.refl _ | assumption | exact LeqD.nil (by decide) | refine LeqDL.cons ?_ ?_ | refine LeqD.agg ?_ | refine LeqD.tup ?_ | refine LeqD.sl ?_); done) | (skip)); done)
      | ((with_reducible show _ = _ ∧ (_ → _)); refine ⟨?_, ?_⟩; try (skip))
      | exact fun h => h
      | exact fun _ => rfl
      | refine ⟨rfl, ?_⟩
      | (refine ⟨Nat.le_of_ble_eq_true rfl, ?_⟩)
      | (refine ⟨?_, ?_, ?_⟩; (first | (refine sizeOk rfl ?_; simp only [List.length_map, List.length_append, List.length_take, List.length_drop, List.length_cons, List.length_nil]; omega) | omega | (simp only [List.length_map, List.length_append, List.length_take, List.length_drop, List.length_cons, List.length_nil]; omega)); (first | (refine sizeOk rfl ?_; simp only [List.length_map, List.length_append, List.length_take, List.length_drop, List.length_cons, List.length_nil]; omega) | omega | (simp only [List.length_map, List.length_append, List.length_take, List.length_drop, List.length_cons, List.length_nil]; omega)))
      | (refine ⟨?_, ?_⟩; (first | (refine sizeOk rfl ?_; simp only [List.length_map, List.length_append, List.length_take, List.length_drop, List.length_cons, List.length_nil]; omega) | omega | (simp only [List.length_map, List.length_append, List.length_take, List.length_drop, List.length_cons, List.length_nil]; omega)))
      | fail)
    all_goals kernel_rfl
end Go.Proofs.YtepdiooaoegpfaaGreatDoor.Fx
end
section
/- The law ExecScripted as a function: always true. Conditions: none beyond the length. -/
namespace Go.Proofs.YtepdiooaoegpfaaGreatDoor.Fx
open Go Go.Proofs Go.Ev Go.RowKit
set_option maxRecDepth 100000
set_option maxHeartbeats 6400000
set_option linter.unusedSimpArgs false
set_option linter.unusedVariables false
theorem c_law_Scripted {l : List Fail} {s : ByteArray} {n : Int} (hl : l.length ≤ 140737488351232) : XPure Tryz.prog 7 [eFails l, str s, i64 n] (bln true) false := by
  refine XPure.body ⟨_, Tryz.func7, rfl, by kernel_rfl⟩ Tryz.func7 rfl (Nat.le_of_ble_eq_true (by rfl)) (pf_of1 rfl) fun env => ?_
  repeat' ((conv => whnf); (fail_if_success (with_reducible show ∃ _, _ ∧ _ ∧ Weak _ _ _)); first
    | ((with_reducible show guardA _ _ _ _ _ _ ∨ _); first
      | (refine .inl ?_; (conv => whnf); first | refine gY (by first | (with_reducible first | rfl | assumption) | grind [beqS_self]) ?_ | refine gTF (by first | (with_reducible first | rfl | assumption) | grind [beqS_self]) ?_ | refine gFT (by first | (with_reducible first | rfl | assumption) | grind [beqS_self]) ?_ | ((first | refine gsT (fun h => ?_) (fun h => ?_) | refine gsF (fun h => ?_) (fun h => ?_)) <;> (have hs := h; try simp only [reduceCtorEq, emptyLit, emptyLit2, Int.reduceEq, Int.reduceNe, Int.reduceLT, Int.reduceLE, Int.reduceBEq, Int.reduceBNe, false_and, and_false, false_or, or_false, true_and, and_true, true_or, or_true, not_true_eq_false, not_false_eq_true, cond_true, cond_false, Int.toNat_natCast, List.length_map, beqS_iff, beqS_no, Bool.cond_true_left, Bool.cond_false_right, Bool.or_eq_true, Bool.or_eq_false_iff, Bool.and_eq_true, Bool.and_eq_false_iff, decide_eq_true_eq, decide_eq_false_iff_not, Bool.not_eq_true', Bool.not_eq_false', beq_iff_eq, bne_iff_ne, beq_eq_false_iff_ne, bne_eq_false_iff_eq, Int.ofNat_lt, Int.ofNat_le, Int.not_lt, Int.not_le, ge_iff_le, gt_iff_lt, ne_eq] at hs)))
      | (refine .inl ?_))
    | refine cTrue (by first | (with_reducible first | rfl | assumption) | grind [beqS_self]) ?_
    | refine cFalse (by first | (with_reducible first | rfl | assumption) | grind [beqS_self]) ?_
    | refine gY (by first | (with_reducible first | rfl | assumption) | grind [beqS_self]) ?_
    | refine gTF (by first | (with_reducible first | rfl | assumption) | grind [beqS_self]) ?_
    | refine gFT (by first | (with_reducible first | rfl | assumption) | grind [beqS_self]) ?_
    | ((first | refine gsT (fun h => ?_) (fun h => ?_) | refine gsF (fun h => ?_) (fun h => ?_) | refine ⟨fun h => ?_, fun h => ?_⟩) <;> (have hs := h; try simp only [reduceCtorEq, emptyLit, emptyLit2, Int.reduceEq, Int.reduceNe, Int.reduceLT, Int.reduceLE, Int.reduceBEq, Int.reduceBNe, false_and, and_false, false_or, or_false, true_and, and_true, true_or, or_true, not_true_eq_false, not_false_eq_true, cond_true, cond_false, Int.toNat_natCast, List.length_map, beqS_iff, beqS_no, Bool.cond_true_left, Bool.cond_false_right, Bool.or_eq_true, Bool.or_eq_false_iff, Bool.and_eq_true, Bool.and_eq_false_iff, decide_eq_true_eq, decide_eq_false_iff_not, Bool.not_eq_true', Bool.not_eq_false', beq_iff_eq, bne_iff_ne, beq_eq_false_iff_ne, bne_eq_false_iff_eq, Int.ofNat_lt, Int.ofNat_le, Int.not_lt, Int.not_le, ge_iff_le, gt_iff_lt, ne_eq] at hs))
    | (refine .inl ⟨_, _, c_exec_Scripted (l := l) (s := s) (n := n) hl, ?_⟩)
    | (refine .inl ⟨_, _, c_ref17_Scripted (l := l) (s := s) (n := n) hl, ?_⟩)
    | (refine .inl ⟨_, _, c_small, ?_⟩)
    | ((with_reducible show _ ∧ _ ∧ Weak _ _ _); refine ⟨?_, ?_, Weak.go⟩; (omega))
    | ((with_reducible show (_ ∧ _ ∧ _) ∧ _); refine ⟨⟨by kernel_rfl, by kernel_rfl, by rfl⟩, ?_⟩)
    | ((with_reducible show AV.pf _ = true ∧ _); refine ⟨pf_of1 rfl, ?_⟩)
    | (refine ⟨rfl, ?_, ?_, ?_⟩; (first | exact fun h => h | exact fun _ => rfl | exact notF | exact andL | exact andR | exact fun h' => andI h h' | exact fun h' => andN h h'); (first | exact fun h => h | exact fun _ => rfl | exact notF | exact andL | exact andR | exact fun h' => andI h h' | exact fun h' => andN h h'))
    | ((with_reducible show (_ ∨ _) ∧ _ ∧ retA _ _ _ _ _); refine ⟨?_, rfl, ?_⟩; (first | exact .inr rfl | exact .inl rfl))
    | ((with_reducible show _ = _ ∧ _ = false ∧ _ = _); refine ⟨?_, rfl, rfl⟩; try (skip))
    | ((with_reducible show LeqD _ _); try (first | (repeat' (first | exact LeqD.refl _ | exact LeqDL.refl _ | assumption | exact LeqD.nil (by decide) | refine LeqDL.cons ?_ ?_ | refine LeqD.agg ?_ | refine LeqD.tup ?_ | refine LeqD.sl ?_); done) | (skip)); done)
    | ((with_reducible show _ = _ ∧ (_ → _)); refine ⟨?_, ?_⟩; try (skip))
    | exact fun h => h
    | exact fun _ => rfl
    | refine ⟨rfl, ?_⟩
    | (refine ⟨Nat.le_of_ble_eq_true rfl, ?_⟩)
    | (refine ⟨?_, ?_, ?_⟩; (first | (refine sizeOk rfl ?_; simp only [List.length_map, List.length_append, List.length_take, List.length_drop, List.length_cons, List.length_nil]; omega) | omega | (simp only [List.length_map, List.length_append, List.length_take, List.length_drop, List.length_cons, List.length_nil]; omega)); (first | (refine sizeOk rfl ?_; simp only [List.length_map, List.length_append, List.length_take, List.length_drop, List.length_cons, List.length_nil]; omega) | omega | (simp only [List.length_map, List.length_append, List.length_take, List.length_drop, List.length_cons, List.length_nil]; omega)))
    | (refine ⟨?_, ?_⟩; (first | (refine sizeOk rfl ?_; simp only [List.length_map, List.length_append, List.length_take, List.length_drop, List.length_cons, List.length_nil]; omega) | omega | (simp only [List.length_map, List.length_append, List.length_take, List.length_drop, List.length_cons, List.length_nil]; omega)))
    | fail)
  all_goals (conv => lhs; whnf)
  all_goals simp [beqS_self]
end Go.Proofs.YtepdiooaoegpfaaGreatDoor.Fx
end
section
/- From the row's reading of []api.Fail, a text and a number to trees, and the law's call. Conditions: none beyond those in each statement. -/
namespace Go.Proofs.YtepdiooaoegpfaaGreatDoor.Fx
open Go Go.Proofs Go.Ev Go.RowKit
set_option maxRecDepth 100000
set_option linter.unusedSimpArgs false
set_option linter.unusedVariables false
theorem leaf1 {x : AV} (h : x.isAgg = false) : x.leaves = [x] := by cases x <;> first | rfl | cases h
theorem shape_str {P : Program} {d : Nat} {t : TypeId} {ls : List AV} (hu : P.underlying t = some .string) (h : Shape P (d + 1) t ls) : ∃ s : ByteArray, ls = [str s] ∧ s.size ≤ reachBytes := by
  unfold Shape at h; rw [hu] at h; exact h
theorem shape_int {P : Program} {d : Nat} {t : TypeId} {k : IntKind} {ls : List AV} (hu : P.underlying t = some (.int k)) (h : Shape P (d + 1) t ls) : ∃ n : Int, ls = [.v (.int k n)] ∧ (Lit.int k n).wf = true := by
  unfold Shape at h; rw [hu] at h; exact h
theorem shape_sl {P : Program} {d : Nat} {t e : TypeId} {ls : List AV} (hu : P.underlying t = some (.slice e)) (h : Shape P (d + 1) t ls) : ∃ l : List AV, ls = [.sl (P.cellsOf e) l] ∧ l.length ≤ reachBytes ∧ ∀ x ∈ l, x.isAgg = isAggT P e ∧ x.isTup = false ∧ Shape P d e x.leaves := by
  unfold Shape at h; rw [hu] at h; exact h
theorem shape_st {P : Program} {d : Nat} {t : TypeId} {fs : Array Field} {ls : List AV} (hu : P.underlying t = some (.struct fs)) (h : Shape P (d + 1) t ls) : ls.length = P.cellsOf t ∧ ∀ f ∈ fs.toList, Shape P d f.type ((ls.drop f.offset).take (P.cellsOf f.type)) := by
  unfold Shape at h; rw [hu] at h; exact h
theorem cStr : Tryz.prog.cellsOf 9 = 1 := by kernel_rfl
theorem cInt : Tryz.prog.cellsOf 3 = 1 := by kernel_rfl
theorem cFail : Tryz.prog.cellsOf 83 = 3 := by kernel_rfl
theorem one_of {x a : AV} (h : x.isAgg = false) (e : x.leaves = [a]) : x = a := by rw [leaf1 h] at e; exact (List.cons.inj e).1
theorem fail_of {d : Nat} {y : AV} (ha : y.isAgg = isAggT Tryz.prog 83) (h : Shape Tryz.prog (d + 2) 83 y.leaves) : ∃ f : Fail, y = eFail f := by
  have ha' : y.isAgg = true := ha.trans (by kernel_rfl)
  cases y with
  | agg ls =>
    obtain ⟨hl, hf⟩ := shape_st Tryz.underlying83 h
    rw [cFail] at hl
    match ls, hl with
    | [a, b, c], _ =>
      obtain ⟨f0, hf⟩ := List.forall_mem_cons.1 hf
      obtain ⟨f1, hf⟩ := List.forall_mem_cons.1 hf
      obtain ⟨f2, hf⟩ := List.forall_mem_cons.1 hf
      simp only [cStr, cInt] at f0 f1 f2
      obtain ⟨s, e0, _⟩ := shape_str Tryz.underlying9 f0
      obtain ⟨n, e1, _⟩ := shape_int Tryz.underlying3 f1
      obtain ⟨m, e2, _⟩ := shape_int Tryz.underlying3 f2
      obtain rfl := (List.cons.inj e0).1
      obtain rfl := (List.cons.inj e1).1
      obtain rfl := (List.cons.inj e2).1
      exact ⟨⟨s, n, m⟩, rfl⟩
  | _ => cases ha'
theorem fails_all {d : Nat} : ∀ {l : List AV}, (∀ x ∈ l, x.isAgg = isAggT Tryz.prog 83 ∧ x.isTup = false ∧ Shape Tryz.prog (d + 2) 83 x.leaves) → ∃ fs : List Fail, l = fs.map eFail
  | [], _ => ⟨[], rfl⟩
  | x :: l, h => by
    obtain ⟨fs, rfl⟩ := fails_all (fun y hy => h y (List.mem_cons_of_mem _ hy))
    obtain ⟨h1, _, h2⟩ := h x (by simp)
    obtain ⟨f, rfl⟩ := fail_of h1 h2
    exact ⟨f :: fs, rfl⟩
theorem shapeAll3 {P : Program} {d : Nat} {t1 t2 t3 : TypeId} : ∀ {avs : List AV}, ShapeAll P d [t1, t2, t3] avs → ∃ a b c, avs = [a, b, c] ∧ (a.isAgg = isAggT P t1 ∧ Shape P d t1 a.leaves) ∧ (b.isAgg = isAggT P t2 ∧ Shape P d t2 b.leaves) ∧ (c.isAgg = isAggT P t3 ∧ Shape P d t3 c.leaves)
  | [], h => h.elim
  | [_], h => h.2.elim
  | [_, _], h => h.2.2.elim
  | [a, b, c], h => ⟨a, b, c, rfl, h.1, h.2.1, h.2.2.1⟩
  | _ :: _ :: _ :: _ :: _, h => h.2.2.2.elim
theorem scripted_args {avs : List AV} (h : ShapeAll Tryz.prog 4 [57, 9, 3] avs) :
    ∃ (l : List Fail) (s : ByteArray) (n : Int), avs = [eFails l, str s, i64 n] ∧ l.length ≤ 140737488351232 := by
  obtain ⟨a, b, c, rfl, ⟨a1, a2⟩, ⟨b1, b2⟩, ⟨c1, c2⟩⟩ := shapeAll3 h
  · obtain ⟨l, e0, hl, hx⟩ := shape_sl Tryz.underlying57 a2
    obtain ⟨fs, rfl⟩ := fails_all hx
    obtain ⟨s, e1, _⟩ := shape_str Tryz.underlying9 b2
    obtain ⟨n, e2, _⟩ := shape_int Tryz.underlying3 c2
    obtain rfl := one_of (a1.trans (by kernel_rfl)) e0
    obtain rfl := one_of (b1.trans (by kernel_rfl)) e1
    obtain rfl := one_of (c1.trans (by kernel_rfl)) e2
    refine ⟨fs, s, n, by rw [cFail], ?_⟩
    rw [List.length_map] at hl
    exact hl
end Go.Proofs.YtepdiooaoegpfaaGreatDoor.Fx
end
