/- Written by programs of this session: laws and contracts that the law's proof stands on, merged into one text. Conditions: none beyond those in each statement. -/
import Derived.Test.YtepdiooaoegpfaaGreatDoorPkFx1
import Derived.Test.YtepdiooaoegpfaaGreatDoorPkEv3
import Derived.Test.YtepdiooaoegpfaaGreatDoorPkSp1
import Derived.Lib.ItoaNum
import Derived.Lib.AtoiAllCases
import Derived.Test.YtepdiooaoegpfaaGreatDoorPkWd1
section
/- Plans. Conditions: those in each statement. -/
namespace Go.Proofs.YtepdiooaoegpfaaGreatDoor.Fx
open Go Go.Proofs Go.Ev Go.RowKit
set_option maxRecDepth 100000
set_option maxHeartbeats 1600000
set_option linter.unusedSimpArgs false
set_option linter.unusedVariables false
theorem env_own {env own : List Bx} {b i : Nat} {l : List (ByteArray × AV)} (h : own[i]? = some (.map l)) : (env ++ own.map (Bx.up b))[env.length + i]? = some (.map l) := by
  rw [List.getElem?_append_right (by omega), Nat.add_sub_cancel_left, List.getElem?_map, h]; rfl
theorem getD_mem {α : Type} {l : List α} {i : Nat} (d : α) (h : i < l.length) : l.getD i d ∈ l := by simp [List.getD_eq_getElem?_getD, h]
theorem planOk_bad {nodes : List Node} {goals : List ByteArray} (h : 256 < nodes.length ∨ goals.length < 1 ∨ 512 < goals.length) : planOk nodes goals = false := by
  rw [← Bool.not_eq_true]; simp only [planOk, Bool.and_eq_true, decide_eq_true_eq]; omega
theorem map_next {l : List Node} {i : Nat} (h : i < l.length) (hr : rightN (targets (l.take i)) (l.getD i default) = true) : setM (mOf (targets (l.take i))) (l.getD i default).target (i64 1) = mOf (targets (l.take (i + 1))) := by
  rw [setM_mOf _ _ (rightN_target hr), ← targets_succ h]
theorem c_resolve_Check {nodes : List Node} {goals : List ByteArray} (hz : ∀ n ∈ nodes, SzN n) : XPure Tryz.prog 42 [eP nodes goals] (i64 (errIf (planOk nodes goals) 7)) false := by
  refine XPure.body ⟨_, Tryz.func42, rfl, by kernel_rfl⟩ Tryz.func42 rfl (Nat.le_of_ble_eq_true (by rfl)) (pf_of1 rfl) fun env => ?_
  repeat' ((conv => whnf); (fail_if_success (with_reducible show ∃ _, _ ∧ _ ∧ Weak _ _ _)); first | ((with_reducible show guardA _ _ _ _ _ _ ∨ _); first | (refine .inr ?_; (conv => whnf); refine ⟨_, ?_, fun h => rfl, rfl, ?_⟩; ((conv => whnf); first | exact trivial | (refine ⟨?_, trivial⟩; exact okG))) | (refine .inr ?_; (conv => whnf); refine ⟨_, trivial, fun h => ⟨?_, ?_, ?_, rfl⟩, rfl, ?_⟩; (first | exact h | rfl); exact okG; exact okG) | refine .inl ?_) | refine cY ?_ | refine cN ?_ | refine gA ?_ | refine gB ?_ | refine gC ?_ | ((first | refine gsT (fun h => ?_) (fun h => ?_) | refine gsF (fun h => ?_) (fun h => ?_) | refine ⟨fun h => ?_, fun h => ?_⟩) <;> (have hs := h; try simp only [cs, reduceCtorEq, Int.reduceEq, Int.reduceNe, Int.reduceLT, Int.reduceLE, Int.reduceBEq, Int.reduceBNe] at hs)) | ((with_reducible show _ ∧ _ ∧ Weak _ _ _); refine ⟨?_, ?_, Weak.go⟩; (omega)) | ((with_reducible show (_ ∧ _ ∧ _) ∧ _); refine ⟨⟨by kernel_rfl, by kernel_rfl, by rfl⟩, ?_⟩) | ((with_reducible show AV.pf _ = true ∧ _); refine pfA ?_) | (refine ⟨rfl, ?_, ?_, ?_⟩; exact okG; exact okG) | ((with_reducible show (_ ∨ _) ∧ _ ∧ retA _ _ _ _ _); refine ⟨?_, rfl, ?_⟩; (first | exact .inr rfl | exact .inl rfl)) | ((with_reducible show _ = _ ∧ _ = false ∧ _ = _); refine ⟨?_, rfl, rfl⟩; try (first | rfl | (conv => lhs; whnf))) | ((with_reducible show LeqD _ _); try (first | exact okN | (first | rfl | (conv => lhs; whnf))); done) | ((with_reducible show _ = _ ∧ (_ → _)); refine ⟨?_, ?_⟩; try (first | rfl | (conv => lhs; whnf))) | exact fun h => h | exact fun _ => rfl | refine ⟨rfl, ?_⟩ | (refine ⟨Nat.le_of_ble_eq_true rfl, ?_⟩) | (refine ⟨?_, ?_, ?_⟩; exact okS; exact okS) | (refine ⟨?_, ?_⟩; exact okS) | rw [wrapId (by omega) (by omega)] | fail)
  all_goals try (rw [planOk_bad (by omega)]; rfl)
  have hF : planOk nodes goals = (nodesOk [] nodes && goalsOk (targets nodes) [] goals) := by
    have : decide (nodes.length ≤ 256) = true ∧ decide (1 ≤ goals.length) = true ∧ decide (goals.length ≤ 512) = true := ⟨decide_eq_true (by omega), decide_eq_true (by omega), decide_eq_true (by omega)⟩
    simp [planOk, this]
  refine XW.countL nodes.length [1, 3, 26, 27] (fun i => [(28, i64 i)]) (fun _ => []) (fun i => [.cells (eP nodes goals).leaves [], .map (mOf (targets (nodes.take i)))]) (fun i => nodesOk [] nodes = nodesOk (targets (nodes.take i)) (nodes.drop i)) Weak.go rfl ?_
  intro i hi hA
  refine codeS ?_
  repeat' ((conv => whnf); first | ((with_reducible show _ ∧ _ ∧ Weak _ _ _); have hM := map_next ‹i < nodes.length› (by assumption); refine ⟨?_, ?_, Weak.go⟩; omega) | ((with_reducible show guardA _ _ _ _ _ _ ∨ _); first | (refine .inr ?_; (conv => whnf); refine ⟨_, ?_, fun h => rfl, rfl, ?_⟩; ((conv => whnf); first | exact trivial | (refine ⟨?_, trivial⟩; exact okG))) | (refine .inr ?_; (conv => whnf); refine ⟨_, trivial, fun h => ⟨?_, ?_, ?_, rfl⟩, rfl, ?_⟩; (first | exact h | rfl); exact okG; exact okG) | refine .inl ?_) | refine cY ?_ | refine cN ?_ | refine gA ?_ | refine gB ?_ | refine gC ?_ | ((first | refine gsT (fun h => ?_) (fun h => ?_) | refine gsF (fun h => ?_) (fun h => ?_) | refine ⟨fun h => ?_, fun h => ?_⟩) <;> (have hs := h; try simp only [cs, reduceCtorEq, Int.reduceEq, Int.reduceNe, Int.reduceLT, Int.reduceLE, Int.reduceBEq, Int.reduceBNe] at hs)) | ((with_reducible show _ ∧ _ ∧ Weak _ _ _); refine ⟨?_, ?_, Weak.go⟩; (omega)) | (refine callG_same ⟨_, Tryz.func64, rfl, by kernel_rfl⟩ (by rfl) (c_right (n := nodes.getD i default) (ahead := targets (nodes.take i)) (env_own rfl) (hz _ (getD_mem _ (by assumption)))) ?_) | ((with_reducible show (_ ∧ _ ∧ _) ∧ _); refine ⟨⟨by kernel_rfl, by kernel_rfl, by rfl⟩, ?_⟩) | ((with_reducible show AV.pf _ = true ∧ _); refine pfA ?_) | (refine ⟨rfl, ?_, ?_, ?_⟩; exact okG; exact okG) | ((with_reducible show (_ ∨ _) ∧ _ ∧ retA _ _ _ _ _); refine ⟨?_, rfl, ?_⟩; (first | exact .inr rfl | exact .inl rfl)) | ((with_reducible show _ = _ ∧ _ = false ∧ _ = _); refine ⟨?_, rfl, rfl⟩; try (first | rfl | (conv => lhs; whnf))) | ((with_reducible show LeqD _ _); try (first | exact okN | (first | rfl | (conv => lhs; whnf))); done) | ((with_reducible show _ = _ ∧ (_ → _)); refine ⟨?_, ?_⟩; try (first | rfl | (conv => lhs; whnf))) | exact fun h => h | exact fun _ => rfl | refine ⟨rfl, ?_⟩ | (refine ⟨Nat.le_of_ble_eq_true rfl, ?_⟩) | (refine ⟨?_, ?_, ?_⟩; exact okS; exact okS) | (refine ⟨?_, ?_⟩; exact okS) | rw [getD_mapI ((default : Node)) (by omega)] | rw [getD_map ((default : Node)) (by omega)] | rw [wrapId (by omega) (by omega)] | fail)
  · have e : planOk nodes goals = false := by rw [hF, hA, nodesOk_step ‹_›, hs]; rfl
    rw [e]; rfl
  · rw [hA, nodesOk_step ‹_›, hs, Bool.true_and]
  have hN : nodesOk [] nodes = true := by rw [hA, nodesOk_end hs]
  have hT : targets (nodes.take i) = targets nodes := by rw [List.take_of_length_le (by omega)]
  rw [hT]
  refine XW.countL goals.length [1, 3, 41, 42] (fun i => [(43, i64 i)]) (fun _ => []) (fun _ => [.cells (eP nodes goals).leaves [], .map (mOf (targets nodes))]) (fun i => goalsOk (targets nodes) [] goals = goalsOk (targets nodes) (goals.take i) (goals.drop i)) Weak.go rfl ?_
  intro k hk hB
  refine codeS ?_
  repeat' ((conv => whnf); first | ((with_reducible show (∀ _ : AV, _) ∧ _); refine ⟨fun x hx => ?_, fun hx => ?_⟩; (obtain ⟨rfl, hx⟩ := getM_some hx)) | ((with_reducible show guardA _ _ _ _ _ _ ∨ _); first | (refine .inr ?_; (conv => whnf); refine ⟨_, ?_, fun h => rfl, rfl, ?_⟩; ((conv => whnf); first | exact trivial | (refine ⟨?_, trivial⟩; exact okG))) | (refine .inr ?_; (conv => whnf); refine ⟨_, trivial, fun h => ⟨?_, ?_, ?_, rfl⟩, rfl, ?_⟩; (first | exact h | rfl); exact okG; exact okG) | refine .inl ?_) | refine cY ?_ | refine cN ?_ | refine gA ?_ | refine gB ?_ | refine gC ?_ | ((first | refine gsT (fun h => ?_) (fun h => ?_) | refine gsF (fun h => ?_) (fun h => ?_) | refine ⟨fun h => ?_, fun h => ?_⟩) <;> (have hs := h; try simp only [cs, reduceCtorEq, Int.reduceEq, Int.reduceNe, Int.reduceLT, Int.reduceLE, Int.reduceBEq, Int.reduceBNe] at hs)) | (refine .inl ⟨_, _, c_ContainsT (by omega), ?_⟩) | ((with_reducible show _ ∧ _ ∧ Weak _ _ _); refine ⟨?_, ?_, Weak.go⟩; (omega)) | ((refine ⟨_, rfl, ?_⟩)) | ((with_reducible show (_ ∧ _ ∧ _) ∧ _); refine ⟨⟨by kernel_rfl, by kernel_rfl, by rfl⟩, ?_⟩) | ((with_reducible show AV.pf _ = true ∧ _); refine pfA ?_) | (refine ⟨rfl, ?_, ?_, ?_⟩; exact okG; exact okG) | ((with_reducible show (_ ∨ _) ∧ _ ∧ retA _ _ _ _ _); refine ⟨?_, rfl, ?_⟩; (first | exact .inr rfl | exact .inl rfl)) | ((with_reducible show _ = _ ∧ _ = false ∧ _ = _); refine ⟨?_, rfl, rfl⟩; try (first | rfl | (conv => lhs; whnf))) | ((with_reducible show LeqD _ _); try (first | exact okN | (first | rfl | (conv => lhs; whnf))); done) | ((with_reducible show _ = _ ∧ (_ → _)); refine ⟨?_, ?_⟩; try (first | rfl | (conv => lhs; whnf))) | exact fun h => h | exact fun _ => rfl | refine ⟨rfl, ?_⟩ | (refine ⟨Nat.le_of_ble_eq_true rfl, ?_⟩) | (refine ⟨?_, ?_, ?_⟩; exact okS; exact okS) | (refine ⟨?_, ?_⟩; exact okS) | rw [getD_mapI (ByteArray.empty) (by omega)] | rw [getD_map (ByteArray.empty) (by omega)] | rw [wrapId (by omega) (by omega)] | fail)
  all_goals clear hz hA
  all_goals try (replace hx := getM_none ‹_›)
  all_goals try (have e : planOk nodes goals = true := by (rw [hF, hN, hB, goalsOk_end (by assumption)]; rfl))
  all_goals try (rw [e]; done)
  all_goals try (rw [e]; rfl)
  all_goals have hk' : k < goals.length := by assumption
  all_goals try (have e : planOk nodes goals = false := by (rw [hF, hN, hB, goalsOk_step hk']; grind))
  all_goals try (rw [e]; rfl)
  all_goals (rw [hB, goalsOk_step hk']; grind)
end Go.Proofs.YtepdiooaoegpfaaGreatDoor.Fx
end
section
/- Names without doubles; operations of words. Conditions: those in each statement. -/
namespace Go.Proofs.YtepdiooaoegpfaaGreatDoor.Fx
open Go Go.Proofs Go.Ev Go.RowKit
set_option maxRecDepth 100000
set_option maxHeartbeats 1600000
set_option linter.unusedSimpArgs false
set_option linter.unusedVariables false
theorem map_snoc {α : Type} (f : α → AV) (l : List α) (x : α) : l.map f ++ [f x] = (l ++ [x]).map f := by simp
/-- Texts without doubles, behind those that are there. -/
def uniqGo (out : List ByteArray) : List ByteArray → List ByteArray
  | [] => out
  | x :: r => if hasS out x then uniqGo out r else uniqGo (out ++ [x]) r
theorem uniqGo_step {out l : List ByteArray} {i : Nat} (h : i < l.length) : uniqGo out (l.drop i) = if hasS out (l.getD i .empty) = true then uniqGo out (l.drop (i + 1)) else uniqGo (out ++ [l.getD i .empty]) (l.drop (i + 1)) := by
  rw [drop_getD .empty h]; rfl
theorem c_Unique {l : List ByteArray} (hl : l.length ≤ 1000000000) : XPure Tryz.prog 180 [eS l] (eS (uniqGo [] l)) false := by
  refine XPure.bodyN ⟨_, Tryz.func180, rfl, by kernel_rfl⟩ Tryz.func180 rfl (Nat.le_of_ble_eq_true (by rfl)) (pf_of1 rfl) fun env => ?_
  repeat' ((conv => whnf); (fail_if_success (with_reducible show ∃ _, _ ∧ _ ∧ Weak _ _ _)); first | ((with_reducible show guardA _ _ _ _ _ _ ∨ _); first | (refine .inr ?_; (conv => whnf); refine ⟨_, ?_, fun h => rfl, rfl, ?_⟩; ((conv => whnf); first | exact trivial | (refine ⟨?_, trivial⟩; exact okG))) | (refine .inr ?_; (conv => whnf); refine ⟨_, trivial, fun h => ⟨?_, ?_, ?_, rfl⟩, rfl, ?_⟩; (first | exact h | rfl); exact okG; exact okG) | refine .inl ?_) | refine cY ?_ | refine cN ?_ | refine gA ?_ | refine gB ?_ | refine gC ?_ | ((first | refine gsT (fun h => ?_) (fun h => ?_) | refine gsF (fun h => ?_) (fun h => ?_) | refine ⟨fun h => ?_, fun h => ?_⟩) <;> (have hs := h; try simp only [cs, reduceCtorEq, Int.reduceEq, Int.reduceNe, Int.reduceLT, Int.reduceLE, Int.reduceBEq, Int.reduceBNe] at hs)) | ((with_reducible show _ ∧ _ ∧ Weak _ _ _); refine ⟨?_, ?_, Weak.go⟩; (omega)) | ((with_reducible show (_ ∧ _ ∧ _) ∧ _); refine ⟨⟨by kernel_rfl, by kernel_rfl, by rfl⟩, ?_⟩) | ((with_reducible show AV.pf _ = true ∧ _); refine pfA ?_) | (refine ⟨rfl, ?_, ?_, ?_⟩; exact okG; exact okG) | ((with_reducible show (_ ∨ _) ∧ _ ∧ retA _ _ _ _ _); refine ⟨?_, rfl, ?_⟩; (first | exact .inr rfl | exact .inl rfl)) | ((with_reducible show _ = _ ∧ _ = false ∧ _ = _); refine ⟨?_, rfl, rfl⟩; try (first | rfl | (conv => lhs; whnf))) | ((with_reducible show LeqD _ _); try (first | exact okN | (first | rfl | (conv => lhs; whnf))); done) | ((with_reducible show _ = _ ∧ (_ → _)); refine ⟨?_, ?_⟩; try (first | rfl | (conv => lhs; whnf))) | exact fun h => h | exact fun _ => rfl | refine ⟨rfl, ?_⟩ | (refine ⟨Nat.le_of_ble_eq_true rfl, ?_⟩) | (refine ⟨?_, ?_, ?_⟩; exact okS; exact okS) | (refine ⟨?_, ?_⟩; exact okS) | rw [wrapId (by omega) (by omega)] | fail)
  refine XW.overL [2, 6, 7] (fun (p : Nat × List ByteArray) => [(3, eS p.2), (8, i64 p.1)]) (fun _ => [3]) (fun _ => []) (fun p => p.1 ≤ l.length ∧ p.2.length ≤ p.1 ∧ uniqGo p.2 (l.drop p.1) = uniqGo [] l) (fun p => l.length - p.1) (0, []) Weak.go ⟨Nat.zero_le _, Nat.zero_le _, rfl⟩ ?_
  rintro ⟨i, out⟩ ⟨hi, ho, hA⟩
  dsimp only at hi ho hA ⊢
  refine codeS ?_
  have hM := map_snoc (fun x : ByteArray => AV.v (.string x)) out (l.getD i .empty)
  iterate 14 any_goals try ((conv => whnf); (fail_if_success (with_reducible show ∃ _, _ ∧ _ ∧ Weak _ _ _)); first | ((with_reducible show guardA _ _ _ _ _ _ ∨ _); first | (refine .inr ?_; (conv => whnf); refine ⟨_, ?_, fun h => rfl, rfl, ?_⟩; ((conv => whnf); first | exact trivial | (refine ⟨?_, trivial⟩; exact okG))) | (refine .inr ?_; (conv => whnf); refine ⟨_, trivial, fun h => ⟨?_, ?_, ?_, rfl⟩, rfl, ?_⟩; (first | exact h | rfl); exact okG; exact okG) | refine .inl ?_) | refine cY ?_ | refine cN ?_ | refine gA ?_ | refine gB ?_ | refine gC ?_ | ((first | refine gsT (fun h => ?_) (fun h => ?_) | refine gsF (fun h => ?_) (fun h => ?_) | refine ⟨fun h => ?_, fun h => ?_⟩) <;> (have hs := h; try simp only [cs, reduceCtorEq, Int.reduceEq, Int.reduceNe, Int.reduceLT, Int.reduceLE, Int.reduceBEq, Int.reduceBNe] at hs)) | (refine .inl ⟨_, _, c_Contains (by omega), ?_⟩) | ((with_reducible show _ ∧ _ ∧ Weak _ _ _); refine ⟨?_, ?_, Weak.go⟩; (omega)) | ((with_reducible show (_ ∧ _ ∧ _) ∧ _); refine ⟨⟨by kernel_rfl, by kernel_rfl, by rfl⟩, ?_⟩) | ((with_reducible show AV.pf _ = true ∧ _); refine pfA ?_) | (refine ⟨rfl, ?_, ?_, ?_⟩; exact okG; exact okG) | ((with_reducible show (_ ∨ _) ∧ _ ∧ retA _ _ _ _ _); refine ⟨?_, rfl, ?_⟩; (first | exact .inr rfl | exact .inl rfl)) | ((with_reducible show _ = _ ∧ _ = false ∧ _ = _); refine ⟨?_, rfl, rfl⟩; try (first | rfl | (conv => lhs; whnf))) | ((with_reducible show LeqD _ _); try (first | exact okN | (first | rfl | (conv => lhs; whnf))); done) | ((with_reducible show _ = _ ∧ (_ → _)); refine ⟨?_, ?_⟩; try (first | rfl | (conv => lhs; whnf))) | exact fun h => h | exact fun _ => rfl | refine ⟨rfl, ?_⟩ | (refine ⟨Nat.le_of_ble_eq_true rfl, ?_⟩) | (refine ⟨?_, ?_, ?_⟩; exact okS; exact okS) | (refine ⟨?_, ?_⟩; exact okS) | rw [getD_mapI (ByteArray.empty) (by omega)] | rw [getD_map (ByteArray.empty) (by omega)] | rw [wrapId (by omega) (by omega)] | fail)
  · refine ⟨(i + 1, out ++ [l.getD i .empty]), by dsimp only; omega, ⟨by dsimp only; omega, by simp only [List.length_append, List.length_cons, List.length_nil]; omega, ?_⟩, Weak.go⟩
    dsimp only
    rw [← hA, uniqGo_step (i := i) (out := out) (by assumption), if_neg (by rw [hs]; simp)]
  · refine ⟨(i + 1, out), by dsimp only; omega, ⟨by dsimp only; omega, by dsimp only; omega, ?_⟩, Weak.go⟩
    dsimp only
    rw [← hA, uniqGo_step (i := i) (out := out) (by assumption), if_pos hs]
  · have e : uniqGo [] l = out := by rw [← hA, List.drop_eq_nil_of_le (by omega)]; rfl
    rw [e]; exact LeqD.refl _
end Go.Proofs.YtepdiooaoegpfaaGreatDoor.Fx
end
section
/- The other methods of commands. Conditions: those in each statement. -/
namespace Go.Proofs.YtepdiooaoegpfaaGreatDoor.Fx
open Go Go.Proofs Go.Ev Go.RowKit
set_option maxRecDepth 100000
set_option maxHeartbeats 1600000
set_option linter.unusedSimpArgs false
set_option linter.unusedVariables false
theorem c_joining_reads {d : ByteArray} {l : List ByteArray} (hl : l.length ≤ 1000000000) : XPure Tryz.prog 175 [.agg [str d, eS l]] (eS (uniqGo [] l)) false := by
  refine XPure.body ⟨_, Tryz.func175, rfl, by kernel_rfl⟩ Tryz.func175 rfl (Nat.le_of_ble_eq_true (by rfl)) (pf_of1 rfl) fun env => ?_
  repeat' ((conv => whnf); (fail_if_success (with_reducible show ∃ _, _ ∧ _ ∧ Weak _ _ _)); first | ((with_reducible show guardA _ _ _ _ _ _ ∨ _); first | (refine .inr ?_; (conv => whnf); refine ⟨_, ?_, fun h => rfl, rfl, ?_⟩; ((conv => whnf); first | exact trivial | (refine ⟨?_, trivial⟩; exact okG))) | (refine .inr ?_; (conv => whnf); refine ⟨_, trivial, fun h => ⟨?_, ?_, ?_, rfl⟩, rfl, ?_⟩; (first | exact h | rfl); exact okG; exact okG) | refine .inl ?_) | refine cY ?_ | refine cN ?_ | refine gA ?_ | refine gB ?_ | refine gC ?_ | ((first | refine gsT (fun h => ?_) (fun h => ?_) | refine gsF (fun h => ?_) (fun h => ?_) | refine ⟨fun h => ?_, fun h => ?_⟩) <;> (have hs := h; try simp only [cs, reduceCtorEq, Int.reduceEq, Int.reduceNe, Int.reduceLT, Int.reduceLE, Int.reduceBEq, Int.reduceBNe] at hs)) | (refine .inl ⟨_, _, c_Unique hl, ?_⟩) | ((with_reducible show _ ∧ _ ∧ Weak _ _ _); refine ⟨?_, ?_, Weak.go⟩; (omega)) | ((with_reducible show (_ ∧ _ ∧ _) ∧ _); refine ⟨⟨by kernel_rfl, by kernel_rfl, by rfl⟩, ?_⟩) | ((with_reducible show AV.pf _ = true ∧ _); refine pfA ?_) | (refine ⟨rfl, ?_, ?_, ?_⟩; exact okG; exact okG) | ((with_reducible show (_ ∨ _) ∧ _ ∧ retA _ _ _ _ _); refine ⟨?_, rfl, ?_⟩; (first | exact .inr rfl | exact .inl rfl)) | ((with_reducible show _ = _ ∧ _ = false ∧ _ = _); refine ⟨?_, rfl, rfl⟩; try (first | rfl | (conv => lhs; whnf))) | ((with_reducible show LeqD _ _); try (first | exact okN | (first | rfl | (conv => lhs; whnf))); done) | ((with_reducible show _ = _ ∧ (_ → _)); refine ⟨?_, ?_⟩; try (first | rfl | (conv => lhs; whnf))) | exact fun h => h | exact fun _ => rfl | refine ⟨rfl, ?_⟩ | (refine ⟨Nat.le_of_ble_eq_true rfl, ?_⟩) | (refine ⟨?_, ?_, ?_⟩; exact okS; exact okS) | (refine ⟨?_, ?_⟩; exact okS) | rw [wrapId (by omega) (by omega)] | fail)
end Go.Proofs.YtepdiooaoegpfaaGreatDoor.Fx
end
section
/- Copies of rows. Conditions: those in each statement. -/
namespace Go.Proofs.YtepdiooaoegpfaaGreatDoor.Fx
open Go Go.Proofs Go.Ev Go.RowKit
set_option maxRecDepth 100000
set_option maxHeartbeats 1600000
set_option linter.unusedSimpArgs false
set_option linter.unusedVariables false
abbrev eStr (x : ByteArray) : AV := .v (.string x)
theorem els_F (l : List File) : Els 3 (l.map eF) := fun x hx => by
  obtain ⟨y, _, rfl⟩ := List.mem_map.1 hx
  exact ⟨rfl, rfl⟩
theorem call_CloneF : Callable Tryz.prog 27 := ⟨_, Tryz.func27, rfl, by kernel_rfl⟩
theorem c_CloneFB {l : List AV} (hl : l.length ≤ 1000000000) (hx : Els 3 l) (env : List Bx) : XCalls Tryz.prog 27 [.sl 3 l] env (NewBox env 3 l) := by
  refine XCalls.newBox hx ?_
  refine XCalls.bodyB Tryz.func27 rfl (Nat.le_of_ble_eq_true (by rfl)) ?_
  conv => whnf
  refine ⟨fun hn => ?_, ?_⟩
  · conv => whnf
    refine cTrue rfl ?_
    conv => whnf
    refine ⟨.inr rfl, rfl, ?_⟩
    conv => whnf
    exact ⟨rfl, .inl ⟨rfl, hn, List.append_nil env⟩⟩
  · conv => whnf
    refine cFalse rfl ?_
    conv => whnf
    refine .inr ?_
    conv => whnf
    refine ⟨?_, ?_, ?_, ?_, ?_, ?_⟩
    · show (0 + l.length) * 40 ≤ _; omega
    · show 0 + l.length ≤ _; omega
    · show 0 + 0 * 3 ≤ 0; omega
    · exact .inl rfl
    · intro h0
      conv => whnf
      refine ⟨.inr rfl, rfl, ?_⟩
      conv => whnf
      have : l = [] := List.eq_nil_of_length_eq_zero (by have : 0 + l.length ≤ 0 := h0; omega)
      subst this
      exact ⟨rfl, newSl_of (own := [.cells [] []]) (i := 0) (n := 0 + 0) (c := 0) (zs := []) hx rfl rfl (by decide) (by decide) rfl rfl⟩
    · intro h0 c' h1 h2
      conv => whnf
      refine ⟨.inr rfl, rfl, ?_⟩
      conv => whnf
      exact ⟨rfl, newSl_of (own := [.cells [] [], .cells (grownL [] (l.flatMap AV.leaves) (c' - (0 + l.length)) (.agg #[.string .empty, .string .empty, .int .i64 0])) []]) (i := 1) (n := 0 + l.length) (c := c')
        (zs := (List.replicate (c' - (0 + l.length)) [.v (.string .empty), .v (.string .empty), .v (.int .i64 0)]).flatten) hx (pfL_rep rfl _) (Nat.zero_add _) h1 h2 rfl (by rw [repLen]; rfl)⟩
theorem c_CloneF {l : List File} (hl : l.length ≤ 1000000000) : XPure Tryz.prog 27 [.sl 3 (l.map eF)] (.sl 3 (l.map eF)) false :=
  XPure.shut call_CloneF rfl (fun env => c_CloneFB (by simpa using hl) (els_F l) env) fun env r ow env' h => h.shut (by decide) (els_F l) (by simp; omega)
theorem els_S (l : List ByteArray) : Els 1 (l.map eStr) := fun x hx => by
  obtain ⟨y, _, rfl⟩ := List.mem_map.1 hx
  exact ⟨rfl, rfl⟩
theorem call_CloneS : Callable Tryz.prog 89 := ⟨_, Tryz.func89, rfl, by kernel_rfl⟩
theorem c_CloneSB {l : List AV} (hl : l.length ≤ 1000000000) (hx : Els 1 l) (env : List Bx) : XCalls Tryz.prog 89 [.sl 1 l] env (NewBox env 1 l) := by
  refine XCalls.newBox hx ?_
  refine XCalls.bodyB Tryz.func89 rfl (Nat.le_of_ble_eq_true (by rfl)) ?_
  conv => whnf
  refine ⟨fun hn => ?_, ?_⟩
  · conv => whnf
    refine cTrue rfl ?_
    conv => whnf
    refine ⟨.inr rfl, rfl, ?_⟩
    conv => whnf
    exact ⟨rfl, .inl ⟨rfl, hn, List.append_nil env⟩⟩
  · conv => whnf
    refine cFalse rfl ?_
    conv => whnf
    refine .inr ?_
    conv => whnf
    refine ⟨?_, ?_, ?_, ?_, ?_, ?_⟩
    · show (0 + l.length) * 16 ≤ _; omega
    · show 0 + l.length ≤ _; omega
    · show 0 + 0 * 1 ≤ 0; omega
    · exact .inl rfl
    · intro h0
      conv => whnf
      refine ⟨.inr rfl, rfl, ?_⟩
      conv => whnf
      have : l = [] := List.eq_nil_of_length_eq_zero (by have : 0 + l.length ≤ 0 := h0; omega)
      subst this
      exact ⟨rfl, newSl_of (own := [.cells [] []]) (i := 0) (n := 0 + 0) (c := 0) (zs := []) hx rfl rfl (by decide) (by decide) rfl rfl⟩
    · intro h0 c' h1 h2
      conv => whnf
      refine ⟨.inr rfl, rfl, ?_⟩
      conv => whnf
      exact ⟨rfl, newSl_of (own := [.cells [] [], .cells (grownL [] (l.flatMap AV.leaves) (c' - (0 + l.length)) (.string .empty)) []]) (i := 1) (n := 0 + l.length) (c := c')
        (zs := (List.replicate (c' - (0 + l.length)) [.v (.string .empty)]).flatten) hx (pfL_rep rfl _) (Nat.zero_add _) h1 h2 rfl (by rw [repLen]; rfl)⟩
theorem c_CloneS {l : List ByteArray} (hl : l.length ≤ 1000000000) : XPure Tryz.prog 89 [.sl 1 (l.map eStr)] (.sl 1 (l.map eStr)) false :=
  XPure.shut call_CloneS rfl (fun env => c_CloneSB (by simpa using hl) (els_S l) env) fun env r ow env' h => h.shut (by decide) (els_S l) (by simp; omega)
end Go.Proofs.YtepdiooaoegpfaaGreatDoor.Fx
end
section
/- A file is put into a row. Conditions: those in each statement. -/
namespace Go.Proofs.YtepdiooaoegpfaaGreatDoor.Fx
open Go Go.Proofs Go.Ev Go.RowKit
set_option maxRecDepth 100000
set_option maxHeartbeats 1600000
set_option linter.unusedSimpArgs false
set_option linter.unusedVariables false
/-- What a file put into a row comes to: the row's own box, or a new one. -/
@[irreducible] def InsR (q n i : Nat) (B F : List AV) (env : List Bx) (r : AV) (ow : Bool) (env' : List Bx) : Prop :=
  ow = false ∧ ∃ B' c', pfL B' = true ∧ n + 1 ≤ c' ∧ c' ≤ 9223372036854775807 ∧ B'.length = c' * 3 ∧ B'.take ((n + 1) * 3) = B.take (i * 3) ++ F ++ (B.take (n * 3)).drop (i * 3) ∧
      ((r = .xs q 0 3 (n + 1) c' ∧ env' = env.set q (.cells B' [])) ∨ ∃ new j, r = .xs (env.length + j) 0 3 (n + 1) c' ∧ env' = env ++ new ∧ new[j]? = some (.cells B' []))
theorem InsR.set {q n i cp : Nat} {B F B' : List AV} {env : List Bx} (h1 : pfL B' = true) (h2 : n + 1 ≤ cp) (h3 : cp ≤ 9223372036854775807) (h4 : B'.length = cp * 3) (h5 : B'.take ((n + 1) * 3) = B.take (i * 3) ++ F ++ (B.take (n * 3)).drop (i * 3)) :
    InsR q n i B F env (.xs q 0 3 (n + 1) cp) false (env.set q (.cells B' []) ++ []) := by
  unfold InsR
  exact ⟨rfl, B', cp, h1, h2, h3, h4, h5, .inl ⟨rfl, by simp⟩⟩
theorem InsR.new {q n i cp j base : Nat} {B F B' : List AV} {env own : List Bx} (h1 : pfL B' = true) (h2 : n + 1 ≤ cp) (h3 : cp ≤ 9223372036854775807) (h4 : B'.length = cp * 3) (h5 : B'.take ((n + 1) * 3) = B.take (i * 3) ++ F ++ (B.take (n * 3)).drop (i * 3)) (h6 : own[j]? = some (.cells B' [])) :
    InsR q n i B F env (.xs (env.length + j) 0 3 (n + 1) cp) false (env ++ own.map (Bx.up base)) := by
  unfold InsR
  exact ⟨rfl, B', cp, h1, h2, h3, h4, h5, .inr ⟨_, j, rfl, rfl, by rw [List.getElem?_map, h6]; simp only [Option.map_some, Bx.up, upL_pf _ _ h1]⟩⟩
theorem wrL_len {α : Type} {l : List α} {off : Nat} {xs : List α} (h : off + xs.length ≤ l.length) : (wrL l off xs).length = l.length := by
  unfold wrL; simp only [List.length_append, List.length_take, List.length_drop]; omega
theorem pfL_drop {l : List AV} (k : Nat) (h : pfL l = true) : pfL (l.drop k) = true := by
  induction k generalizing l with
  | zero => exact h
  | succ k ih =>
    cases l with
    | nil => exact h
    | cons x l => simp only [pfL, Bool.and_eq_true] at h; exact ih h.2
theorem pfL_wrL {l xs : List AV} {off : Nat} (h1 : pfL l = true) (h2 : pfL xs = true) : pfL (wrL l off xs) = true := pfL_append (pfL_append (pfL_take _ h1) h2) (pfL_drop _ h1)
theorem s41 : Tryz.prog.types[41].size = 3 := rfl
theorem b41 : Tryz.prog.types[41].bytes = 40 := rfl
theorem co41 : Tryz.prog.cellsOf 41 = 3 := rfl
theorem zl41 : (cst (.agg #[.string { data := #[] }, .string { data := #[] }, .int .i64 0])).leaves.length = 3 := rfl
theorem wrL_len' {α : Type} {l : List α} {off : Nat} {xs : List α} : (wrL l off xs).length = min off l.length + xs.length + (l.length - (off + xs.length)) := by
  unfold wrL; simp only [List.length_append, List.length_take, List.length_drop]
theorem toNat_i1 (i : Nat) : ((i : Int) + ((1 : Nat) : Int)).toNat = i + 1 := rfl
theorem nmin (a b : Nat) : Nat.min a b = min a b := rfl
theorem toNat_i (i : Nat) : (i : Int).toNat = i := rfl
theorem zl42 : (cst (.agg #[.string .empty, .string .empty, .int .i64 0])).leaves.length = 3 := rfl
theorem dropEnd {B : List AV} {k : Nat} : (B.take k).drop k = [] := List.drop_eq_nil_of_le (by simp only [List.length_take]; omega)
theorem takeF {F : List AV} (hF : F.length = 3) : (F.drop 0).take (1 * 3) = F := by rw [List.drop_zero, List.take_of_length_le (by omega)]
theorem insTake0 {B F Z : List AV} {i : Nat} (hF : F.length = 3) (hB : i * 3 ≤ B.length) : (B.take (i * 3) ++ F ++ Z).take ((i + 1) * 3) = B.take (i * 3) ++ F ++ (B.take (i * 3)).drop (i * 3) := by
  rw [dropEnd, List.append_nil, List.take_left' (by simp only [List.length_append, List.length_take]; omega)]
theorem insTake1 {B F G Y : List AV} {n i : Nat} (hF : F.length = 3) (hG : G.take (i * 3) = B.take (i * 3)) (hGl : (n + 1) * 3 ≤ G.length) (hBl : n * 3 ≤ B.length) (hi : i < n) (hY : Y = (B.take (n * 3)).drop (i * 3)) :
    (wrL (wrL G (i * 3) F) ((i + 1) * 3) Y).take ((n + 1) * 3) = B.take (i * 3) ++ F ++ (B.take (n * 3)).drop (i * 3) := by
  have h1 : (wrL G (i * 3) F).take ((i + 1) * 3) = B.take (i * 3) ++ F := by
    unfold wrL
    rw [hG, List.take_left' (by simp only [List.length_append, List.length_take]; omega)]
  show (List.take _ (wrL G (i * 3) F) ++ Y ++ _).take _ = _
  rw [h1, List.take_left' (by rw [hY]; simp only [List.length_append, List.length_take, List.length_drop]; omega), hY]
theorem insTake2 {B F Y : List AV} {n i : Nat} (hF : F.length = 3) (hBl : (n + 1) * 3 ≤ B.length) (hi : i < n) (hY : Y = (B.take (n * 3)).drop (i * 3)) :
    (wrL (wrL B ((i + 1) * 3) Y) (i * 3) F).take ((n + 1) * 3) = B.take (i * 3) ++ F ++ (B.take (n * 3)).drop (i * 3) := by
  have hYl : Y.length = (n - i) * 3 := by rw [hY]; simp only [List.length_take, List.length_drop]; omega
  have h1 : (wrL B ((i + 1) * 3) Y).take (i * 3) = B.take (i * 3) := by
    unfold wrL
    rw [List.append_assoc, List.take_append_of_le_length (by simp only [List.length_take]; omega), List.take_take, Nat.min_eq_left (by omega)]
  have h2 : (wrL B ((i + 1) * 3) Y).drop (i * 3 + F.length) = Y ++ B.drop ((i + 1) * 3 + Y.length) := by
    unfold wrL
    rw [List.append_assoc, List.drop_left' (by simp only [List.length_take]; omega)]
  show (List.take _ (wrL B ((i + 1) * 3) Y) ++ F ++ List.drop _ (wrL B ((i + 1) * 3) Y)).take _ = _
  rw [h1, h2, ← List.append_assoc, List.take_left' (by simp only [List.length_append, List.length_take, hYl]; omega), hY]
theorem c_InsertB {q q2 n cp i : Nat} {B F : List AV} {env : List Bx} (h1 : env[q]? = some (.cells B [])) (h2 : env[q2]? = some (.cells F [])) (hF : F.length = 3) (hq : q ≠ q2) (hB : B.length = cp * 3) (pB : pfL B = true) (pF : pfL F = true) (hn : n ≤ cp) (hn9 : n ≤ 1000000000) (hc : cp ≤ 9223372036854775807) (hi : i ≤ n) :
    XCalls Tryz.prog 118 [.xs q 0 3 n cp, i64 i, .xs q2 0 3 1 1] env (InsR q n i B F env) := by
  refine XCalls.bodyB Tryz.func118 rfl (Nat.le_of_ble_eq_true (by rfl)) ?_
  iterate 40 any_goals try ((conv => whnf); (fail_if_success (with_reducible show ∃ _, _ ∧ _ ∧ Weak _ _ _)); first | ((with_reducible show guardA _ _ _ _ _ _ ∨ _); first | (refine .inr ?_; (conv => whnf); refine ⟨_, ?_, fun h => rfl, rfl, ?_⟩; ((conv => whnf); first | exact trivial | (refine ⟨?_, trivial⟩; exact okG))) | (refine .inr ?_; (conv => whnf); refine ⟨_, trivial, fun h => ⟨?_, ?_, ?_, rfl⟩, rfl, ?_⟩; (first | exact h | rfl); exact okG; exact okG) | refine .inl ?_) | refine cY ?_ | refine cN ?_ | refine gA ?_ | refine gB ?_ | refine gC ?_ | ((first | refine gsT (fun h => ?_) (fun h => ?_) | refine gsF (fun h => ?_) (fun h => ?_) | refine ⟨fun h => ?_, fun h => ?_⟩) <;> (have hs := h; try simp only [cs, reduceCtorEq, Int.reduceEq, Int.reduceNe, Int.reduceLT, Int.reduceLE, Int.reduceBEq, Int.reduceBNe] at hs)) | ((with_reducible show _ ∧ _ ∧ Weak _ _ _); refine ⟨?_, ?_, Weak.go⟩; (omega)) | (first | rw [h1] | rw [h2] | (refine ⟨.inr (by first | exact pfL_take _ pF), ?_⟩)) | ((with_reducible show (_ ∧ _ ∧ _) ∧ _); refine ⟨⟨by kernel_rfl, by kernel_rfl, by rfl⟩, ?_⟩) | ((with_reducible show AV.pf _ = true ∧ _); refine pfA ?_) | (refine ⟨rfl, ?_, ?_, ?_⟩; exact okG; exact okG) | ((with_reducible show (_ ∨ _) ∧ _ ∧ retA _ _ _ _ _); refine ⟨?_, rfl, ?_⟩; (first | exact .inr rfl | exact .inl rfl)) | ((with_reducible show _ = _ ∧ _ = false ∧ _ = _); refine ⟨?_, rfl, rfl⟩; try (first | rfl | (conv => lhs; whnf))) | ((with_reducible show LeqD _ _); try (first | exact okN | (first | rfl | (conv => lhs; whnf))); done) | ((with_reducible show _ = _ ∧ (_ → _)); refine ⟨?_, ?_⟩; try (first | rfl | (conv => lhs; whnf))) | exact fun h => h | exact fun _ => rfl | refine ⟨rfl, ?_⟩ | (refine ⟨Nat.le_of_ble_eq_true rfl, ?_⟩) | (refine ⟨?_, ?_, ?_⟩; ((try dsimp only); first | omega | (simp only [List.length_append, List.length_take, List.length_drop]; omega) | exact .inr (pfL_take _ pF)); ((try dsimp only); first | omega | (simp only [List.length_append, List.length_take, List.length_drop]; omega) | exact .inr (pfL_take _ pF))) | (refine ⟨?_, ?_⟩; ((try dsimp only); first | omega | (simp only [List.length_append, List.length_take, List.length_drop]; omega) | exact .inr (pfL_take _ pF))) | rw [wrapId (by omega) (by omega)] | fail)
  · conv => whnf
    refine ⟨by show 0 + 1 * 3 ≤ F.length; omega, by show (n + 1) * 40 ≤ _; omega, by show n + 1 ≤ _; omega, by show 0 + cp * 3 ≤ B.length; omega, .inr (pfL_take _ pF), fun hle => ?_, fun hgt c' k1 k2 => ?_⟩
    · repeat' ((conv => whnf); (fail_if_success (with_reducible show ∃ _, _ ∧ _ ∧ Weak _ _ _)); first | ((with_reducible show guardA _ _ _ _ _ _ ∨ _); first | (refine .inr ?_; (conv => whnf); refine ⟨_, ?_, fun h => rfl, rfl, ?_⟩; ((conv => whnf); first | exact trivial | (refine ⟨?_, trivial⟩; exact okG))) | (refine .inr ?_; (conv => whnf); refine ⟨_, trivial, fun h => ⟨?_, ?_, ?_, rfl⟩, rfl, ?_⟩; (first | exact h | rfl); exact okG; exact okG) | refine .inl ?_) | refine cY ?_ | refine cN ?_ | refine gA ?_ | refine gB ?_ | refine gC ?_ | ((first | refine gsT (fun h => ?_) (fun h => ?_) | refine gsF (fun h => ?_) (fun h => ?_) | refine ⟨fun h => ?_, fun h => ?_⟩) <;> (have hs := h; try simp only [cs, reduceCtorEq, Int.reduceEq, Int.reduceNe, Int.reduceLT, Int.reduceLE, Int.reduceBEq, Int.reduceBNe] at hs)) | ((with_reducible show _ ∧ _ ∧ Weak _ _ _); refine ⟨?_, ?_, Weak.go⟩; (omega)) | ((with_reducible show (_ ∧ _ ∧ _) ∧ _); refine ⟨⟨by kernel_rfl, by kernel_rfl, by rfl⟩, ?_⟩) | ((with_reducible show AV.pf _ = true ∧ _); refine pfA ?_) | (refine ⟨rfl, ?_, ?_, ?_⟩; exact okG; exact okG) | ((with_reducible show (_ ∨ _) ∧ _ ∧ retA _ _ _ _ _); refine ⟨?_, rfl, ?_⟩; (first | exact .inr rfl | exact .inl rfl)) | ((with_reducible show _ = _ ∧ _ = false ∧ _ = _); refine ⟨?_, rfl, rfl⟩; try (first | rfl | (conv => lhs; whnf))) | ((with_reducible show LeqD _ _); try (first | exact okN | (first | rfl | (conv => lhs; whnf))); done) | ((with_reducible show _ = _ ∧ (_ → _)); refine ⟨?_, ?_⟩; try (first | rfl | (conv => lhs; whnf))) | exact fun h => h | exact fun _ => rfl | refine ⟨rfl, ?_⟩ | (refine ⟨Nat.le_of_ble_eq_true rfl, ?_⟩) | (refine ⟨?_, ?_, ?_⟩; exact okS; exact okS) | (refine ⟨?_, ?_⟩; exact okS) | rw [wrapId (by omega) (by omega)] | fail)
      conv => whnf
      refine ⟨.inr rfl, List.length_set, ?_⟩
      conv => whnf
      obtain rfl : i = n := by omega
      exact InsR.set (B' := wrL B (0 + i * 3) ((F.drop 0).take (1 * 3))) (pfL_wrL pB (pfL_take _ (pfL_drop _ pF))) hle hc (by rw [wrL_len (by simp; omega)]; exact hB) (by rw [takeF hF, Nat.zero_add]; exact insTake0 hF (by omega))
    · repeat' ((conv => whnf); (fail_if_success (with_reducible show ∃ _, _ ∧ _ ∧ Weak _ _ _)); first | ((with_reducible show guardA _ _ _ _ _ _ ∨ _); first | (refine .inr ?_; (conv => whnf); refine ⟨_, ?_, fun h => rfl, rfl, ?_⟩; ((conv => whnf); first | exact trivial | (refine ⟨?_, trivial⟩; exact okG))) | (refine .inr ?_; (conv => whnf); refine ⟨_, trivial, fun h => ⟨?_, ?_, ?_, rfl⟩, rfl, ?_⟩; (first | exact h | rfl); exact okG; exact okG) | refine .inl ?_) | refine cY ?_ | refine cN ?_ | refine gA ?_ | refine gB ?_ | refine gC ?_ | ((first | refine gsT (fun h => ?_) (fun h => ?_) | refine gsF (fun h => ?_) (fun h => ?_) | refine ⟨fun h => ?_, fun h => ?_⟩) <;> (have hs := h; try simp only [cs, reduceCtorEq, Int.reduceEq, Int.reduceNe, Int.reduceLT, Int.reduceLE, Int.reduceBEq, Int.reduceBNe] at hs)) | ((with_reducible show _ ∧ _ ∧ Weak _ _ _); refine ⟨?_, ?_, Weak.go⟩; (omega)) | ((with_reducible show (_ ∧ _ ∧ _) ∧ _); refine ⟨⟨by kernel_rfl, by kernel_rfl, by rfl⟩, ?_⟩) | ((with_reducible show AV.pf _ = true ∧ _); refine pfA ?_) | (refine ⟨rfl, ?_, ?_, ?_⟩; exact okG; exact okG) | ((with_reducible show (_ ∨ _) ∧ _ ∧ retA _ _ _ _ _); refine ⟨?_, rfl, ?_⟩; (first | exact .inr rfl | exact .inl rfl)) | ((with_reducible show _ = _ ∧ _ = false ∧ _ = _); refine ⟨?_, rfl, rfl⟩; try (first | rfl | (conv => lhs; whnf))) | ((with_reducible show LeqD _ _); try (first | exact okN | (first | rfl | (conv => lhs; whnf))); done) | ((with_reducible show _ = _ ∧ (_ → _)); refine ⟨?_, ?_⟩; try (first | rfl | (conv => lhs; whnf))) | exact fun h => h | exact fun _ => rfl | refine ⟨rfl, ?_⟩ | (refine ⟨Nat.le_of_ble_eq_true rfl, ?_⟩) | (refine ⟨?_, ?_, ?_⟩; exact okS; exact okS) | (refine ⟨?_, ?_⟩; exact okS) | rw [wrapId (by omega) (by omega)] | fail)
      conv => whnf
      refine ⟨.inr rfl, rfl, ?_⟩
      conv => whnf
      obtain rfl : i = n := by omega
      exact InsR.new (j := 0) (B' := grownL ((B.drop 0).take (i * 3)) ((F.drop 0).take (1 * 3)) (c' - (i + 1)) (.agg #[.string .empty, .string .empty, .int .i64 0])) (pfL_append (pfL_append (pfL_take _ (pfL_drop _ pB)) (pfL_take _ (pfL_drop _ pF))) (pfL_rep rfl _)) k1 k2 (by simp only [grownL, List.length_append, List.length_take, List.length_drop, repLen, zl42, hF, hB]; omega) (by unfold grownL; rw [takeF hF, List.drop_zero]; exact insTake0 hF (by omega)) rfl
  · have w1 : IntKind.i64.wrap ((n : Int) + (1 : Nat)) = ((n + 1 : Nat) : Int) := by rw [wrapId (by omega) (by omega)]; omega
    have w2 : IntKind.i64.wrap (((n + 1 : Nat) : Int) - (i : Int)) = ((n + 1 - i : Nat) : Int) := by rw [wrapId (by omega) (by omega)]; omega
    have hgt : cp < n + 1 := by rw [w1] at hs; omega
    have hin : i < n := by omega
    have hb0 : Nat.beq cp 0 = false := by rw [← Bool.not_eq_true]; intro h; have := Nat.eq_of_beq_eq_true h; omega
    conv => whnf
    have e1 : (i : Int).toNat - 0 + ((n + 1 - i : Nat) : Int).toNat = n + 1 := by omega
    rw [w1, w2, hb0, e1]
    refine ⟨by show (0 : Int) < ((n + 1 - i : Nat) : Int); omega, by show (n + 1) * 40 ≤ _; omega, by show n + 1 ≤ _; omega, by show (0 + 0 * 3) + (cp - 0) * 3 ≤ _; omega, by show cp - 0 < n + 1; omega, fun c' k1 k2 => ?_⟩
    have hbj : Nat.beq c' (i + 1) = false := by rw [← Bool.not_eq_true]; intro h; have := Nat.eq_of_beq_eq_true h; omega
    have hbp : Nat.beq cp i = false := by rw [← Bool.not_eq_true]; intro h; have := Nat.eq_of_beq_eq_true h; omega
    have hbi : Nat.beq c' i = false := by rw [← Bool.not_eq_true]; intro h; have := Nat.eq_of_beq_eq_true h; omega
    repeat' ((conv => whnf); (fail_if_success (with_reducible show ∃ _, _ ∧ _ ∧ Weak _ _ _)); first | ((with_reducible show guardA _ _ _ _ _ _ ∨ _); first | (refine .inr ?_; (conv => whnf); refine ⟨_, ?_, fun h => rfl, rfl, ?_⟩; ((conv => whnf); first | exact trivial | (refine ⟨?_, trivial⟩; exact okG))) | (refine .inr ?_; (conv => whnf); refine ⟨_, trivial, fun h => ⟨?_, ?_, ?_, rfl⟩, rfl, ?_⟩; (first | exact h | rfl); exact okG; exact okG) | refine .inl ?_) | refine cY ?_ | refine cN ?_ | refine gA ?_ | refine gB ?_ | refine gC ?_ | ((first | refine gsT (fun h => ?_) (fun h => ?_) | refine gsF (fun h => ?_) (fun h => ?_) | refine ⟨fun h => ?_, fun h => ?_⟩) <;> (have hs := h; try simp only [cs, reduceCtorEq, Int.reduceEq, Int.reduceNe, Int.reduceLT, Int.reduceLE, Int.reduceBEq, Int.reduceBNe] at hs)) | ((with_reducible show _ ∧ _ ∧ Weak _ _ _); refine ⟨?_, ?_, Weak.go⟩; (omega)) | refine XW.dr (m := 8) ?_ | (first | rw [h2] | rw [h1] | (refine ⟨.inl rfl, ?_⟩)) | ((with_reducible show (_ ∧ _ ∧ _) ∧ _); refine ⟨⟨by kernel_rfl, by kernel_rfl, by rfl⟩, ?_⟩) | ((with_reducible show AV.pf _ = true ∧ _); refine pfA ?_) | (refine ⟨rfl, ?_, ?_, ?_⟩; exact okG; exact okG) | ((with_reducible show (_ ∨ _) ∧ _ ∧ retA _ _ _ _ _); refine ⟨?_, rfl, ?_⟩; (first | exact .inr rfl | exact .inl rfl)) | ((with_reducible show _ = _ ∧ _ = false ∧ _ = _); refine ⟨?_, rfl, rfl⟩; try (first | rfl | (conv => lhs; whnf))) | ((with_reducible show LeqD _ _); try (first | exact okN | (first | rfl | (conv => lhs; whnf))); done) | ((with_reducible show _ = _ ∧ (_ → _)); refine ⟨?_, ?_⟩; try (first | rfl | (conv => lhs; whnf))) | exact fun h => h | exact fun _ => rfl | refine ⟨rfl, ?_⟩ | (refine ⟨Nat.le_of_ble_eq_true rfl, ?_⟩) | (refine ⟨?_, ?_, ?_⟩; ((try simp only [s41, co41, b41, zl41, hb0, Nat.sub_zero, grownL, repLen, toNat_i, toNat_i1, nmin, hbj, hbp, cond_false, hbi, wrL_len', hF, hB, List.length_append, List.length_take, List.length_drop]); omega); ((try simp only [s41, co41, b41, zl41, hb0, Nat.sub_zero, grownL, repLen, toNat_i, toNat_i1, nmin, hbj, hbp, cond_false, hbi, wrL_len', hF, hB, List.length_append, List.length_take, List.length_drop]); omega)) | (refine ⟨?_, ?_⟩; ((try simp only [s41, co41, b41, zl41, hb0, Nat.sub_zero, grownL, repLen, toNat_i, toNat_i1, nmin, hbj, hbp, cond_false, hbi, wrL_len', hF, hB, List.length_append, List.length_take, List.length_drop]); omega)) | rw [wrapId (by omega) (by omega)] | fail)
    conv => whnf
    refine ⟨.inr rfl, rfl, ?_⟩
    conv => whnf
    refine InsR.new (j := 0) ?_ k1 k2 ?_ ?_ rfl
    all_goals simp only [s41, co41, hbj, hbp, hbi, toNat_i, toNat_i1, cond_false, Nat.sub_zero, Nat.zero_add, Nat.zero_mul, List.drop_zero, nmin]
    · repeat' (first | assumption | apply pfL_wrL | apply pfL_append | apply pfL_take | apply pfL_drop | exact pfL_rep rfl _)
    · simp only [wrL_len', grownL, List.length_append, List.length_take, List.length_drop, repLen, zl41, hF, hB]; omega
    · rw [show List.take (min 1 (n + 1 - i) * 3) (List.take (1 * 3) F) = F from by rw [List.take_of_length_le (by simp only [List.length_take]; omega), List.take_of_length_le (by omega)]]
      refine insTake1 (B := B) hF ?_ ?_ (by omega) hin ?_
      · unfold grownL
        rw [List.append_assoc, List.take_append_of_le_length (by simp only [List.length_take]; omega), List.take_take, Nat.min_self]
      · simp only [grownL, List.length_append, List.length_take, repLen, zl41]; omega
      · rw [List.take_take, List.drop_take]; congr 1; omega
  · have w1 : IntKind.i64.wrap ((n : Int) + (1 : Nat)) = ((n + 1 : Nat) : Int) := by rw [wrapId (by omega) (by omega)]; omega
    have hgt : n + 1 ≤ cp := by rw [w1] at hs; omega
    have hin : i < n := by omega
    have hbj : Nat.beq cp (i + 1) = false := by rw [← Bool.not_eq_true]; intro h; have := Nat.eq_of_beq_eq_true h; omega
    have hbp := hbj
    have hbi : Nat.beq cp i = false := by rw [← Bool.not_eq_true]; intro h; have := Nat.eq_of_beq_eq_true h; omega
    have hb0 : Nat.beq cp 0 = false := by rw [← Bool.not_eq_true]; intro h; have := Nat.eq_of_beq_eq_true h; omega
    repeat' ((conv => whnf); (fail_if_success (with_reducible show ∃ _, _ ∧ _ ∧ Weak _ _ _)); first | ((with_reducible show guardA _ _ _ _ _ _ ∨ _); first | (refine .inr ?_; (conv => whnf); refine ⟨_, ?_, fun h => rfl, rfl, ?_⟩; ((conv => whnf); first | exact trivial | (refine ⟨?_, trivial⟩; exact okG))) | (refine .inr ?_; (conv => whnf); refine ⟨_, trivial, fun h => ⟨?_, ?_, ?_, rfl⟩, rfl, ?_⟩; (first | exact h | rfl); exact okG; exact okG) | refine .inl ?_) | refine cY ?_ | refine cN ?_ | refine gA ?_ | refine gB ?_ | refine gC ?_ | ((first | refine gsT (fun h => ?_) (fun h => ?_) | refine gsF (fun h => ?_) (fun h => ?_) | refine ⟨fun h => ?_, fun h => ?_⟩) <;> (have hs := h; try simp only [cs, reduceCtorEq, Int.reduceEq, Int.reduceNe, Int.reduceLT, Int.reduceLE, Int.reduceBEq, Int.reduceBNe] at hs)) | ((with_reducible show _ ∧ _ ∧ Weak _ _ _); refine ⟨?_, ?_, Weak.go⟩; (omega)) | refine XW.dr (m := 8) ?_ | (first | (refine ⟨_, ExtAt.overlaps (qx := q2) (qy := q) rfl rfl rfl rfl rfl rfl rfl rfl rfl (Ne.symm hq) (by simpa using h2) (by simpa using h1) (by intro e; rw [e] at hB; simp at hB; omega), ?_⟩) | rw [h2] | rw [h1] | rw [List.getElem?_set_self (List.getElem?_eq_some_iff.1 h1).1] | rw [List.getElem?_set_ne hq] | rw [w1] | (refine ⟨.inr (pfL_take _ (pfL_drop _ pB)), ?_⟩) | (refine ⟨.inr (pfL_take _ (pfL_drop _ pF)), ?_⟩)) | ((with_reducible show (_ ∧ _ ∧ _) ∧ _); refine ⟨⟨by kernel_rfl, by kernel_rfl, by rfl⟩, ?_⟩) | ((with_reducible show AV.pf _ = true ∧ _); refine pfA ?_) | (refine ⟨rfl, ?_, ?_, ?_⟩; exact okG; exact okG) | ((with_reducible show (_ ∨ _) ∧ _ ∧ retA _ _ _ _ _); refine ⟨?_, rfl, ?_⟩; (first | exact .inr rfl | exact .inl rfl)) | ((with_reducible show _ = _ ∧ _ = false ∧ _ = _); refine ⟨?_, rfl, rfl⟩; try (first | rfl | (conv => lhs; whnf))) | ((with_reducible show LeqD _ _); try (first | exact okN | (first | rfl | (conv => lhs; whnf))); done) | ((with_reducible show _ = _ ∧ (_ → _)); refine ⟨?_, ?_⟩; try (first | rfl | (conv => lhs; whnf))) | exact fun h => h | exact fun _ => rfl | refine ⟨rfl, ?_⟩ | (refine ⟨Nat.le_of_ble_eq_true rfl, ?_⟩) | (refine ⟨?_, ?_, ?_⟩; ((try simp only [s41, co41, b41, zl41, hb0, Nat.sub_zero, grownL, repLen, toNat_i, toNat_i1, nmin, hbj, hbp, cond_false, hbi, wrL_len', hF, hB, List.length_append, List.length_take, List.length_drop]); omega); ((try simp only [s41, co41, b41, zl41, hb0, Nat.sub_zero, grownL, repLen, toNat_i, toNat_i1, nmin, hbj, hbp, cond_false, hbi, wrL_len', hF, hB, List.length_append, List.length_take, List.length_drop]); omega)) | (refine ⟨?_, ?_⟩; ((try simp only [s41, co41, b41, zl41, hb0, Nat.sub_zero, grownL, repLen, toNat_i, toNat_i1, nmin, hbj, hbp, cond_false, hbi, wrL_len', hF, hB, List.length_append, List.length_take, List.length_drop]); omega)) | rw [wrapId (by omega) (by omega)] | fail)
    conv => whnf
    refine ⟨.inr rfl, by simp only [List.length_set], ?_⟩
    conv => whnf
    rw [hb0, List.set_set]
    refine InsR.set (B' := wrL (wrL B _ _) _ _) ?_ hgt hc ?_ ?_
    all_goals simp only [s41, co41, hb0, hbj, hbp, hbi, toNat_i, toNat_i1, cond_false, Nat.sub_zero, Nat.zero_add, List.drop_zero, nmin, Nat.zero_mul]
    · repeat' (first | assumption | apply pfL_wrL | apply pfL_append | apply pfL_take | apply pfL_drop)
    · simp only [wrL_len', List.length_append, List.length_take, List.length_drop, hF, hB]; omega
    · rw [show List.take (min 1 (n + 1 - i) * 3) (List.take (1 * 3) F) = F from by rw [List.take_of_length_le (by simp only [List.length_take]; omega), List.take_of_length_le (by omega)]]
      refine insTake2 hF (by omega) hin ?_
      rw [List.take_take, List.drop_take]; congr 1; omega
end Go.Proofs.YtepdiooaoegpfaaGreatDoor.Fx
end
section
/- A file in its place on a disk. Conditions: those in each statement. -/
namespace Go.Proofs.YtepdiooaoegpfaaGreatDoor.Fx
open Go Go.Proofs Go.Ev Go.RowKit
set_option maxRecDepth 100000
set_option maxHeartbeats 12800000
set_option linter.unusedSimpArgs false
set_option linter.unusedVariables false
@[irreducible] def InsN (F : List AV) (env : List Bx) (r : AV) (ow : Bool) (env' : List Bx) : Prop :=
  ow = false ∧ ∃ B' c' new j, pfL B' = true ∧ 1 ≤ c' ∧ c' ≤ 9223372036854775807 ∧ B'.length = c' * 3 ∧ B'.take 3 = F ∧ r = .xs (env.length + j) 0 3 1 c' ∧ env' = env ++ new ∧ new[j]? = some (.cells B' [])
theorem InsN.new {cp j base : Nat} {F B' : List AV} {env own : List Bx} (h1 : pfL B' = true) (h2 : 1 ≤ cp) (h3 : cp ≤ 9223372036854775807) (h4 : B'.length = cp * 3) (h5 : B'.take 3 = F) (h6 : own[j]? = some (.cells B' [])) :
    InsN F env (.xs (env.length + j) 0 3 1 cp) false (env ++ own.map (Bx.up base)) := by
  unfold InsN
  exact ⟨rfl, B', cp, _, j, h1, h2, h3, h4, h5, rfl, rfl, by rw [List.getElem?_map, h6]; simp only [Option.map_some, Bx.up, upL_pf _ _ h1]⟩
theorem call_Insert : Callable Tryz.prog 118 := ⟨_, Tryz.func118, rfl, by kernel_rfl⟩
theorem c_InsertN {q2 : Nat} {F : List AV} {env : List Bx} (h2 : env[q2]? = some (.cells F [])) (hF : F.length = 3) (pF : pfL F = true) :
    XCalls Tryz.prog 118 [nilv, i64 0, .xs q2 0 3 1 1] env (InsN F env) := by
  refine XCalls.bodyB Tryz.func118 rfl (Nat.le_of_ble_eq_true (by rfl)) ?_
  repeat' ((conv => whnf); (fail_if_success (with_reducible show ∃ _, _ ∧ _ ∧ Weak _ _ _)); first | ((with_reducible show guardA _ _ _ _ _ _ ∨ _); first | (refine .inr ?_; (conv => whnf); refine ⟨_, ?_, fun h => rfl, rfl, ?_⟩; ((conv => whnf); first | exact trivial | (refine ⟨?_, trivial⟩; exact okG))) | (refine .inr ?_; (conv => whnf); refine ⟨_, trivial, fun h => ⟨?_, ?_, ?_, rfl⟩, rfl, ?_⟩; (first | exact h | rfl); exact okG; exact okG) | refine .inl ?_) | refine cY ?_ | refine cN ?_ | refine gA ?_ | refine gB ?_ | refine gC ?_ | ((first | refine gsT (fun h => ?_) (fun h => ?_) | refine gsF (fun h => ?_) (fun h => ?_) | refine ⟨fun h => ?_, fun h => ?_⟩) <;> (have hs := h; try simp only [cs, reduceCtorEq, Int.reduceEq, Int.reduceNe, Int.reduceLT, Int.reduceLE, Int.reduceBEq, Int.reduceBNe] at hs)) | ((with_reducible show _ ∧ _ ∧ Weak _ _ _); refine ⟨?_, ?_, Weak.go⟩; (omega)) | (rw [h2]) | ((with_reducible show (_ ∧ _ ∧ _) ∧ _); refine ⟨⟨by kernel_rfl, by kernel_rfl, by rfl⟩, ?_⟩) | ((with_reducible show AV.pf _ = true ∧ _); refine pfA ?_) | (refine ⟨rfl, ?_, ?_, ?_⟩; exact okG; exact okG) | ((with_reducible show (_ ∨ _) ∧ _ ∧ retA _ _ _ _ _); refine ⟨?_, rfl, ?_⟩; (first | exact .inr rfl | exact .inl rfl)) | ((with_reducible show _ = _ ∧ _ = false ∧ _ = _); refine ⟨?_, rfl, rfl⟩; try (first | rfl | (conv => lhs; whnf))) | ((with_reducible show LeqD _ _); try (first | exact okN | (first | rfl | (conv => lhs; whnf))); done) | ((with_reducible show _ = _ ∧ (_ → _)); refine ⟨?_, ?_⟩; try (first | rfl | (conv => lhs; whnf))) | exact fun h => h | exact fun _ => rfl | refine ⟨rfl, ?_⟩ | (refine ⟨Nat.le_of_ble_eq_true rfl, ?_⟩) | (refine ⟨?_, ?_, ?_⟩; ((try dsimp only); first | omega | (simp only [s41, b41, List.length_append, List.length_take, List.length_drop]; omega)); ((try dsimp only); first | omega | (simp only [s41, b41, List.length_append, List.length_take, List.length_drop]; omega))) | (refine ⟨?_, ?_⟩; ((try dsimp only); first | omega | (simp only [s41, b41, List.length_append, List.length_take, List.length_drop]; omega))) | rw [wrapId (by omega) (by omega)] | fail)
  · intro c' k1 k2
    repeat' ((conv => whnf); (fail_if_success (with_reducible show ∃ _, _ ∧ _ ∧ Weak _ _ _)); first | ((with_reducible show guardA _ _ _ _ _ _ ∨ _); first | (refine .inr ?_; (conv => whnf); refine ⟨_, ?_, fun h => rfl, rfl, ?_⟩; ((conv => whnf); first | exact trivial | (refine ⟨?_, trivial⟩; exact okG))) | (refine .inr ?_; (conv => whnf); refine ⟨_, trivial, fun h => ⟨?_, ?_, ?_, rfl⟩, rfl, ?_⟩; (first | exact h | rfl); exact okG; exact okG) | refine .inl ?_) | refine cY ?_ | refine cN ?_ | refine gA ?_ | refine gB ?_ | refine gC ?_ | ((first | refine gsT (fun h => ?_) (fun h => ?_) | refine gsF (fun h => ?_) (fun h => ?_) | refine ⟨fun h => ?_, fun h => ?_⟩) <;> (have hs := h; try simp only [cs, reduceCtorEq, Int.reduceEq, Int.reduceNe, Int.reduceLT, Int.reduceLE, Int.reduceBEq, Int.reduceBNe] at hs)) | ((with_reducible show _ ∧ _ ∧ Weak _ _ _); refine ⟨?_, ?_, Weak.go⟩; (omega)) | ((with_reducible show (_ ∧ _ ∧ _) ∧ _); refine ⟨⟨by kernel_rfl, by kernel_rfl, by rfl⟩, ?_⟩) | ((with_reducible show AV.pf _ = true ∧ _); refine pfA ?_) | (refine ⟨rfl, ?_, ?_, ?_⟩; exact okG; exact okG) | ((with_reducible show (_ ∨ _) ∧ _ ∧ retA _ _ _ _ _); refine ⟨?_, rfl, ?_⟩; (first | exact .inr rfl | exact .inl rfl)) | ((with_reducible show _ = _ ∧ _ = false ∧ _ = _); refine ⟨?_, rfl, rfl⟩; try (first | rfl | (conv => lhs; whnf))) | ((with_reducible show LeqD _ _); try (first | exact okN | (first | rfl | (conv => lhs; whnf))); done) | ((with_reducible show _ = _ ∧ (_ → _)); refine ⟨?_, ?_⟩; try (first | rfl | (conv => lhs; whnf))) | exact fun h => h | exact fun _ => rfl | refine ⟨rfl, ?_⟩ | (refine ⟨Nat.le_of_ble_eq_true rfl, ?_⟩) | (refine ⟨?_, ?_, ?_⟩; exact okS; exact okS) | (refine ⟨?_, ?_⟩; exact okS) | rw [wrapId (by omega) (by omega)] | fail)
    conv => whnf
    refine ⟨.inr rfl, rfl, ?_⟩
    conv => whnf
    refine InsN.new (j := 0) (B' := grownL [] ((F.drop 0).take (1 * 3)) (c' - 1) (.agg #[.string .empty, .string .empty, .int .i64 0])) ?_ k1 k2 ?_ ?_ rfl
    all_goals rw [takeF hF]
    all_goals unfold grownL
    · exact pfL_append (pfL_append rfl pF) (pfL_rep rfl _)
    · simp only [List.length_append, repLen, zl42, hF, List.length_nil]; omega
    · exact List.take_left' (by simpa using hF)
  all_goals exact absurd (rfl : (0 : Int) = ((0 : Nat) : Int)) (by assumption)
/-- What is handed back, in boxes: the file put into the row. -/
theorem c_InsertC {q q2 n cp i : Nat} {B F : List AV} {env : List Bx} (h1 : env[q]? = some (.cells B [])) (h2 : env[q2]? = some (.cells F [])) (hF : F.length = 3) (hq : q ≠ q2) (hB : B.length = cp * 3) (pB : pfL B = true) (pF : pfL F = true) (hn : n ≤ cp) (hn9 : n ≤ 1000000000) (hc : cp ≤ 9223372036854775807) (hi : i ≤ n) :
    XCalls Tryz.prog 118 [.xs q 0 3 n cp, i64 i, .xs q2 0 3 1 1] env fun r ow env' => ow = false ∧ ∃ B' c', pfL B' = true ∧ n + 1 ≤ c' ∧ c' ≤ 9223372036854775807 ∧ B'.length = c' * 3 ∧ B'.take ((n + 1) * 3) = B.take (i * 3) ++ F ++ (B.take (n * 3)).drop (i * 3) ∧
      ((r = .xs q 0 3 (n + 1) c' ∧ env' = env.set q (.cells B' [])) ∨ (r = .xs env.length 0 3 (n + 1) c' ∧ env' = env ++ [.cells B' []])) := by
  refine (c_InsertB h1 h2 hF hq hB pB pF hn hn9 hc hi).only fun r ow env' hR => ?_
  unfold InsR at hR
  obtain ⟨ho, B', c', k1, k2, k3, k4, k5, ⟨k6, k7⟩ | ⟨new, j, k6, k7, k8⟩⟩ := hR
  · exact .inl ⟨ho, B', c', k1, k2, k3, k4, k5, .inl ⟨k6, k7⟩⟩
  · exact .inr ⟨new, j, 0, 3, n + 1, c', B', k7, k6, k8, k1, rfl, B', c', k1, k2, k3, k4, k5, .inr ⟨rfl, rfl⟩⟩
theorem boxUp {c : Cfg} {j : Nat} {B : List AV} (pB : pfL B = true) (h : c.own[j]? = some (.cells B [])) : (c.env ++ c.own.map (Bx.up c.base))[c.base + j]? = some (.cells B []) := by
  rw [List.getElem?_append_right (by simp [Cfg.base]), show c.base + j - c.env.length = j from by simp [Cfg.base], List.getElem?_map, h]
  simp only [Option.map_some, Bx.up, upL_pf _ _ pB]
theorem own_cl {base : Nat} {env own : List Bx} (h : ∀ x ∈ env ++ own, Bx.cl base own.length x) {j : Nat} {B : List AV} (pB : pfL B = true) : ∀ x ∈ env ++ own.set j (.cells B []), Bx.cl base (own.set j (.cells B [])).length x := by
  intro x hx
  rw [List.length_set]
  rcases List.mem_append.1 hx with hx | hx
  · exact h x (List.mem_append_left _ hx)
  · rcases List.mem_or_eq_of_mem_set hx with hx | hx
    · exact h x (List.mem_append_right _ hx)
    · exact (mapUp_self (base := base) pB hx).2
theorem callG_ins {c : Cfg} {dst : Option Tmp} {K : Cfg → Prop} {j j2 n cp i : Nat} {B F : List AV} (h1 : c.own[j]? = some (.cells B [])) (h2 : c.own[j2]? = some (.cells F [])) (hF : F.length = 3) (hq : j ≠ j2) (hB : B.length = cp * 3) (pB : pfL B = true) (pF : pfL F = true) (hn : n ≤ cp) (hn9 : n ≤ 1000000000) (hc : cp ≤ 9223372036854775807) (hi : i ≤ n)
    (k1 : ∀ B' c', pfL B' = true → n + 1 ≤ c' → B'.length = c' * 3 → B'.take ((n + 1) * 3) = B.take (i * 3) ++ F ++ (B.take (n * 3)).drop (i * 3) → K (({ c with own := c.own.set j (.cells B' []) } : Cfg).after dst (.bs j 0 3 (n + 1) c') false))
    (k2 : ∀ B' c', pfL B' = true → n + 1 ≤ c' → B'.length = c' * 3 → B'.take ((n + 1) * 3) = B.take (i * 3) ++ F ++ (B.take (n * 3)).drop (i * 3) → K (({ c with own := c.own ++ [.cells B' []] } : Cfg).after dst (.bs c.own.length 0 3 (n + 1) c') false)) :
    callG Tryz.prog c [.bs j 0 3 n cp, i64 i, .bs j2 0 3 1 1] 118 dst K := by
  unfold callG
  refine ⟨call_Insert, _, c_InsertC (q := c.base + j) (q2 := c.base + j2) (boxUp pB h1) (boxUp pF h2) hF (by omega) hB pB pF hn hn9 hc hi, fun hE hA r ow env' hR => ?_⟩
  obtain ⟨rfl, B', c', q1, q2, q3, q4, q5, ⟨rfl, rfl⟩ | ⟨rfl, rfl⟩⟩ := hR
  · refine ⟨.bs j 0 3 (n + 1) c', c.env, c.own.set j (.cells B' []), rfl, ?_, rfl, ?_, hE, own_cl hA q1, k1 B' c' q1 q2 q4 q5⟩
    · rw [List.set_append_right _ _ (by simp [Cfg.base]), show c.base + j - c.env.length = j from by simp [Cfg.base], List.map_set]
      simp only [Bx.up, upL_pf _ _ q1]
    · simp only [AV.cl, List.length_set]; exact (List.getElem?_eq_some_iff.1 h1).1
  · obtain ⟨m1, m2⟩ := mapUp_self (base := c.base) (m := (c.own ++ [Bx.cells B' []]).length) q1 rfl
    refine ⟨.bs c.own.length 0 3 (n + 1) c', c.env, c.own ++ [.cells B' []], ?_, ?_, rfl, ?_, hE, clAll_app hE hA (fun x hx => ?_), k2 B' c' q1 q2 q4 q5⟩
    · simp [AV.up, Cfg.base, Nat.add_comm]
    · simp only [List.map_append, List.map_cons, List.map_nil, m1, List.append_assoc]
    · simp only [AV.cl]; simp
    · rw [List.mem_singleton] at hx; subst hx; exact m2
theorem callG_insN {c : Cfg} {dst : Option Tmp} {K : Cfg → Prop} {j2 : Nat} {F : List AV} (h2 : c.own[j2]? = some (.cells F [])) (hF : F.length = 3) (pF : pfL F = true)
    (k2 : ∀ B' c', pfL B' = true → 1 ≤ c' → B'.length = c' * 3 → B'.take 3 = F → K (({ c with own := c.own ++ [.cells B' []] } : Cfg).after dst (.bs c.own.length 0 3 1 c') false)) :
    callG Tryz.prog c [nilv, i64 0, .bs j2 0 3 1 1] 118 dst K := by
  unfold callG
  have hx := (c_InsertN (q2 := c.base + j2) (boxUp pF h2) hF pF).only (R' := fun r ow env' => ow = false ∧ ∃ B' c', pfL B' = true ∧ 1 ≤ c' ∧ B'.length = c' * 3 ∧ B'.take 3 = F ∧ r = .xs (c.env ++ c.own.map (Bx.up c.base)).length 0 3 1 c' ∧ env' = (c.env ++ c.own.map (Bx.up c.base)) ++ [.cells B' []]) fun r ow env' hR => by
    unfold InsN at hR
    obtain ⟨ho, B', c', new, j, k1, k2, k3, k4, k5, k6, k7, k8⟩ := hR
    exact .inr ⟨new, j, 0, 3, 1, c', B', k7, k6, k8, k1, rfl, B', c', k1, k2, k4, k5, rfl, rfl⟩
  refine ⟨call_Insert, _, hx, fun hE hA r ow env' hR => ?_⟩
  obtain ⟨rfl, B', c', q1, q2, q4, q5, rfl, rfl⟩ := hR
  obtain ⟨m1, m2⟩ := mapUp_self (base := c.base) (m := (c.own ++ [Bx.cells B' []]).length) q1 rfl
  refine ⟨.bs c.own.length 0 3 1 c', c.env, c.own ++ [.cells B' []], ?_, ?_, rfl, ?_, hE, clAll_app hE hA (fun x hx => ?_), k2 B' c' q1 q2 q4 q5⟩
  · simp [AV.up, Cfg.base, Nat.add_comm]
  · simp only [List.map_append, List.map_cons, List.map_nil, m1, List.append_assoc]
  · simp only [AV.cl]; simp
  · rw [List.mem_singleton] at hx; subst hx; exact m2
@[irreducible] def laidE (l : List File) (f : File) : Int := if thereF l f.name = true then 0 else if l.length = 256 then 22 else 0
@[irreducible] def laidL (l : List File) (f : File) : List File := if thereF l f.name = true then l.set (posF l f.name) f else if l.length = 256 then [] else l.take (posF l f.name) ++ f :: l.drop (posF l f.name)
theorem flat_len (l : List File) : ((l.map eF).flatMap AV.leaves).length = l.length * 3 := by rw [(els_F l).len, List.length_map]
theorem flat_take : ∀ (l : List File) (i : Nat), ((l.map eF).flatMap AV.leaves).take (i * 3) = ((l.take i).map eF).flatMap AV.leaves
  | [], i => by simp
  | f :: l, 0 => by simp
  | f :: l, i + 1 => by
    rw [List.map_cons, List.flatMap_cons, List.take_succ_cons, List.map_cons, List.flatMap_cons, ← flat_take l i]
    rw [show (i + 1) * 3 = (eF f).leaves.length + i * 3 from by show (i + 1) * 3 = 3 + i * 3; omega, List.take_length_add_append]
theorem flat_drop : ∀ (l : List File) (i : Nat), ((l.map eF).flatMap AV.leaves).drop (i * 3) = ((l.drop i).map eF).flatMap AV.leaves
  | [], i => by simp
  | f :: l, 0 => by simp
  | f :: l, i + 1 => by
    rw [List.map_cons, List.flatMap_cons, List.drop_succ_cons, ← flat_drop l i]
    rw [show (i + 1) * 3 = (eF f).leaves.length + i * 3 from by show (i + 1) * 3 = 3 + i * 3; omega, List.drop_length_add_append]
theorem shutI_disk {own : List Bx} {j n c1 : Nat} {c c' e e' : Int} {B : List AV} {L l' : List File} (hc : c = c') (he : e = e') (hL : L = l') (h : own[j]? = some (.cells B [])) (hn : n = l'.length) (h9 : l'.length ≤ 1000000000) (hB : l'.length * 3 ≤ B.length) (ht : B.take (n * 3) = (l'.map eF).flatMap AV.leaves) :
    ShutI own (.tup [.agg [i64 c', .bs j 0 3 n c1], i64 e']) (.tup [eD c L, i64 e]) := by
  subst hc he hL
  unfold ShutI
  simp only [ShutQ, ShutQL]
  refine ⟨_, rfl, _, _, rfl, ⟨_, rfl, _, _, rfl, .inl rfl, _, _, rfl, ?_, rfl⟩, _, _, rfl, .inl rfl, rfl⟩
  exact ⟨B, [], L.map eF, h, rfl, by simp [hn], by omega, by omega, by rw [List.drop_zero]; exact ht, els_F L⟩
theorem shutI_none {own : List Bx} {c c' e e' : Int} {L : List File} (hc : c = c') (he : e = e') (hL : L = []) : ShutI own (.tup [.agg [i64 c', nilv], i64 e']) (.tup [eD c L, i64 e]) := by
  subst hc he hL
  unfold ShutI
  simp only [ShutQ, ShutQL]
  exact ⟨_, rfl, _, _, rfl, ⟨_, rfl, _, _, rfl, .inl rfl, _, _, rfl, .inr ⟨3, 0, by decide, rfl, rfl⟩, rfl⟩, _, _, rfl, .inl rfl, rfl⟩
theorem condT {b : Bool} {A : Prop} (hb : b = true) (h : A) : (bif b then A else False) := by rw [hb]; exact h
theorem laidE_yes {l : List File} {f : File} (h : thereF l f.name = true) : laidE l f = 0 ∧ laidL l f = l.set (posF l f.name) f := by simp [laidE, laidL, h]
theorem laidE_full {l : List File} {f : File} (h : thereF l f.name = false) (hl : l.length = 256) : laidE l f = 22 ∧ laidL l f = [] := by simp [laidE, laidL, h, hl]
theorem laidE_no {l : List File} {f : File} (h : thereF l f.name = false) (hl : ¬ l.length = 256) : laidE l f = 0 ∧ laidL l f = l.take (posF l f.name) ++ f :: l.drop (posF l f.name) := by simp [laidE, laidL, h, hl]
theorem flat_ins (l : List File) (f : File) (i : Nat) (zs : List AV) (hi : i ≤ l.length) : ((l.map eF).flatMap AV.leaves ++ zs).take (i * 3) ++ (eF f).leaves ++ (((l.map eF).flatMap AV.leaves ++ zs).take ((l.map eF).length * 3)).drop (i * 3) = ((l.take i ++ f :: l.drop i).map eF).flatMap AV.leaves := by
  have h1 : ((l.map eF).flatMap AV.leaves ++ zs).take (i * 3) = ((l.take i).map eF).flatMap AV.leaves := by
    rw [List.take_append_of_le_length (by rw [flat_len]; omega), flat_take]
  have h2 : ((l.map eF).flatMap AV.leaves ++ zs).take ((l.map eF).length * 3) = (l.map eF).flatMap AV.leaves := by
    rw [List.length_map, ← flat_len l, List.take_left]
  rw [h1, h2, flat_drop]
  simp
theorem flat_set (l : List File) (f : File) (i : Nat) (zs : List AV) (hi : i < l.length) : (wrL ((l.map eF).flatMap AV.leaves ++ zs) (i * 3) (eF f).leaves).take (l.length * 3) = ((l.set i f).map eF).flatMap AV.leaves := by
  have h1 : ((l.map eF).flatMap AV.leaves ++ zs).take (i * 3) = ((l.take i).map eF).flatMap AV.leaves := by
    rw [List.take_append_of_le_length (by rw [flat_len]; omega), flat_take]
  have h2 : ((l.map eF).flatMap AV.leaves ++ zs).drop (i * 3 + (eF f).leaves.length) = ((l.drop (i + 1)).map eF).flatMap AV.leaves ++ zs := by
    rw [show i * 3 + (eF f).leaves.length = (i + 1) * 3 from by show i * 3 + 3 = _; omega, List.drop_append_of_le_length (by rw [flat_len]; omega), flat_drop]
  unfold wrL
  rw [h1, h2, List.set_eq_take_append_cons_drop, if_pos hi]
  rw [← List.append_assoc, List.take_left']
  · simp
  · simp only [List.length_append, flat_len, List.length_take, List.length_drop]; show _ + 3 + _ = _; omega
theorem nilThere {l : List File} {s : ByteArray} (h0 : l.map eF = []) (h : thereF l s = true) : False := by
  obtain rfl : l = [] := by simpa using h0
  cases h
theorem call_laid : Callable Tryz.prog 95 := ⟨_, Tryz.func95, rfl, by kernel_rfl⟩
theorem c_disk_laid {clock : Int} {l : List File} {f : File} (hl : l.length ≤ 256) (hp : l.Pairwise fun a b => ltS a.name b.name = true) : XPure Tryz.prog 95 [eD clock l, eF f] (.tup [eD (if laidE l f = 0 then clock else 0) (laidL l f), i64 (laidE l f)]) false := by
  refine XPure.bodyS call_laid Tryz.func95 rfl (Nat.le_of_ble_eq_true (by rfl)) (pf_of1 rfl) fun env => ?_
  repeat' ((conv => whnf); (fail_if_success (with_reducible show ∃ _, _ ∧ _ ∧ Weak _ _ _)); first | ((with_reducible show guardA _ _ _ _ _ _ ∨ _); first | (refine .inr ?_; (conv => whnf); refine ⟨_, ?_, fun h => rfl, rfl, ?_⟩; ((conv => whnf); first | exact trivial | (refine ⟨?_, trivial⟩; exact okG))) | (refine .inr ?_; (conv => whnf); refine ⟨_, trivial, fun h => ⟨?_, ?_, ?_, rfl⟩, rfl, ?_⟩; (first | exact h | rfl); exact okG; exact okG) | refine .inl ?_) | refine cY ?_ | refine cN ?_ | refine gA ?_ | refine gB ?_ | refine gC ?_ | ((first | refine gsT (fun h => ?_) (fun h => ?_) | refine gsF (fun h => ?_) (fun h => ?_) | refine ⟨fun h => ?_, fun h => ?_⟩) <;> (have hs := h; try simp only [cs, reduceCtorEq, Int.reduceEq, Int.reduceNe, Int.reduceLT, Int.reduceLE, Int.reduceBEq, Int.reduceBNe] at hs)) | (refine .inl ⟨_, _, c_disk_place hl hp, ?_⟩) | ((with_reducible show _ ∧ _ ∧ Weak _ _ _); refine ⟨?_, ?_, Weak.go⟩; (omega)) | (first | (refine XW.drawW (M := 7) (p := 3) (W := [4, 5, 6]) (by kernel_rfl) (by kernel_rfl) ?_) | ((with_reducible show _ ∧ allW _ _); refine ⟨?_, ?_⟩) | exact trivial | (refine wildA_box call_CloneF rfl (els_F _) (fun env => c_CloneFB (by simp; omega) (els_F _) env) (fun h0 => ?_) (fun cp zs k1 k2 k3 k4 => ?_)) | ((with_reducible show (_ ∨ _) ∧ _ ∧ retB _ _ _ _ _); refine ⟨by first | exact .inr rfl | exact .inl rfl, rfl, ?_⟩) | (refine .inr ?_)) | ((with_reducible show (_ ∧ _ ∧ _) ∧ _); refine ⟨⟨by kernel_rfl, by kernel_rfl, by rfl⟩, ?_⟩) | ((with_reducible show AV.pf _ = true ∧ _); refine pfA ?_) | (refine ⟨rfl, ?_, ?_, ?_⟩; exact okG; exact okG) | ((with_reducible show (_ ∨ _) ∧ _ ∧ retA _ _ _ _ _); refine ⟨?_, rfl, ?_⟩; (first | exact .inr rfl | exact .inl rfl)) | ((with_reducible show _ = _ ∧ _ = false ∧ _ = _); refine ⟨?_, rfl, rfl⟩; try (first | rfl | (conv => lhs; whnf))) | ((with_reducible show LeqD _ _); try (first | exact okN | (first | rfl | (conv => lhs; whnf))); done) | ((with_reducible show _ = _ ∧ (_ → _)); refine ⟨?_, ?_⟩; try (first | rfl | (conv => lhs; whnf))) | exact fun h => h | exact fun _ => rfl | refine ⟨rfl, ?_⟩ | (refine ⟨Nat.le_of_ble_eq_true rfl, ?_⟩) | (refine ⟨?_, ?_, ?_⟩; (first | omega | (have := posF_lt (by assumption); simp only [List.length_map]; omega) | (have := posF_lt (by assumption); simp only [List.length_map, List.length_append, flat_len, k3]; omega)); (first | omega | (have := posF_lt (by assumption); simp only [List.length_map]; omega) | (have := posF_lt (by assumption); simp only [List.length_map, List.length_append, flat_len, k3]; omega))) | (refine ⟨?_, ?_⟩; (first | omega | (have := posF_lt (by assumption); simp only [List.length_map]; omega) | (have := posF_lt (by assumption); simp only [List.length_map, List.length_append, flat_len, k3]; omega))) | fail)
  iterate 6
    first
    | · exact (nilThere h0 (by assumption)).elim
      · obtain ⟨e1, e2⟩ := laidE_full (l := l) (f := f) (by assumption) (by omega)
        conv => whnf
        refine shutI_none ?_ e1 e2
        rw [e1]; rfl
      · obtain ⟨e1, e2⟩ := laidE_no (l := l) (f := f) (by assumption) (by omega)
        obtain rfl : l = [] := by simpa using h0
        conv => whnf
        refine callG_insN (F := (eF f).leaves) rfl rfl rfl (fun B2 c2 q1 q2 q3 q4 => ?_)
        repeat' ((conv => whnf); (fail_if_success (with_reducible show ∃ _, _ ∧ _ ∧ Weak _ _ _)); first | ((with_reducible show guardA _ _ _ _ _ _ ∨ _); first | (refine .inr ?_; (conv => whnf); refine ⟨_, ?_, fun h => rfl, rfl, ?_⟩; ((conv => whnf); first | exact trivial | (refine ⟨?_, trivial⟩; exact okG))) | (refine .inr ?_; (conv => whnf); refine ⟨_, trivial, fun h => ⟨?_, ?_, ?_, rfl⟩, rfl, ?_⟩; (first | exact h | rfl); exact okG; exact okG) | refine .inl ?_) | refine cY ?_ | refine cN ?_ | refine gA ?_ | refine gB ?_ | refine gC ?_ | ((first | refine gsT (fun h => ?_) (fun h => ?_) | refine gsF (fun h => ?_) (fun h => ?_) | refine ⟨fun h => ?_, fun h => ?_⟩) <;> (have hs := h; try simp only [cs, reduceCtorEq, Int.reduceEq, Int.reduceNe, Int.reduceLT, Int.reduceLE, Int.reduceBEq, Int.reduceBNe] at hs)) | ((with_reducible show _ ∧ _ ∧ Weak _ _ _); refine ⟨?_, ?_, Weak.go⟩; (omega)) | ((with_reducible show (_ ∨ _) ∧ _ ∧ retB _ _ _ _ _); refine ⟨by first | exact .inr rfl | exact .inl rfl, rfl, ?_⟩) | ((with_reducible show (_ ∧ _ ∧ _) ∧ _); refine ⟨⟨by kernel_rfl, by kernel_rfl, by rfl⟩, ?_⟩) | ((with_reducible show AV.pf _ = true ∧ _); refine pfA ?_) | (refine ⟨rfl, ?_, ?_, ?_⟩; exact okG; exact okG) | ((with_reducible show (_ ∨ _) ∧ _ ∧ retA _ _ _ _ _); refine ⟨?_, rfl, ?_⟩; (first | exact .inr rfl | exact .inl rfl)) | ((with_reducible show _ = _ ∧ _ = false ∧ _ = _); refine ⟨?_, rfl, rfl⟩; try (first | rfl | (conv => lhs; whnf))) | ((with_reducible show LeqD _ _); try (first | exact okN | (first | rfl | (conv => lhs; whnf))); done) | ((with_reducible show _ = _ ∧ (_ → _)); refine ⟨?_, ?_⟩; try (first | rfl | (conv => lhs; whnf))) | exact fun h => h | exact fun _ => rfl | refine ⟨rfl, ?_⟩ | (refine ⟨Nat.le_of_ble_eq_true rfl, ?_⟩) | (refine ⟨?_, ?_, ?_⟩; exact okS; exact okS) | (refine ⟨?_, ?_⟩; exact okS) | fail)
        conv => whnf
        refine shutI_disk (by rw [e1]; rfl) e1 e2 rfl rfl (by simp) ?_ ?_
        · show 1 * 3 ≤ _; omega
        · exact q4
    | · conv => whnf
        refine condT (Nat.ble_eq_true_of_le (show 0 + posF l f.name * 3 + 3 ≤ ((l.map eF).flatMap AV.leaves ++ zs).length from ?_)) ?_
        · have := posF_lt (l := l) (s := f.name) (by assumption)
          rw [k3]; simp only [List.length_map] at k1; omega
        · obtain ⟨e1, e2⟩ := laidE_yes (l := l) (f := f) (by assumption)
          repeat' ((conv => whnf); (fail_if_success (with_reducible show ∃ _, _ ∧ _ ∧ Weak _ _ _)); first | ((with_reducible show guardA _ _ _ _ _ _ ∨ _); first | (refine .inr ?_; (conv => whnf); refine ⟨_, ?_, fun h => rfl, rfl, ?_⟩; ((conv => whnf); first | exact trivial | (refine ⟨?_, trivial⟩; exact okG))) | (refine .inr ?_; (conv => whnf); refine ⟨_, trivial, fun h => ⟨?_, ?_, ?_, rfl⟩, rfl, ?_⟩; (first | exact h | rfl); exact okG; exact okG) | refine .inl ?_) | refine cY ?_ | refine cN ?_ | refine gA ?_ | refine gB ?_ | refine gC ?_ | ((first | refine gsT (fun h => ?_) (fun h => ?_) | refine gsF (fun h => ?_) (fun h => ?_) | refine ⟨fun h => ?_, fun h => ?_⟩) <;> (have hs := h; try simp only [cs, reduceCtorEq, Int.reduceEq, Int.reduceNe, Int.reduceLT, Int.reduceLE, Int.reduceBEq, Int.reduceBNe] at hs)) | ((with_reducible show _ ∧ _ ∧ Weak _ _ _); refine ⟨?_, ?_, Weak.go⟩; (omega)) | ((with_reducible show (_ ∨ _) ∧ _ ∧ retB _ _ _ _ _); refine ⟨by first | exact .inr rfl | exact .inl rfl, rfl, ?_⟩) | ((with_reducible show (_ ∧ _ ∧ _) ∧ _); refine ⟨⟨by kernel_rfl, by kernel_rfl, by rfl⟩, ?_⟩) | ((with_reducible show AV.pf _ = true ∧ _); refine pfA ?_) | (refine ⟨rfl, ?_, ?_, ?_⟩; exact okG; exact okG) | ((with_reducible show (_ ∨ _) ∧ _ ∧ retA _ _ _ _ _); refine ⟨?_, rfl, ?_⟩; (first | exact .inr rfl | exact .inl rfl)) | ((with_reducible show _ = _ ∧ _ = false ∧ _ = _); refine ⟨?_, rfl, rfl⟩; try (first | rfl | (conv => lhs; whnf))) | ((with_reducible show LeqD _ _); try (first | exact okN | (first | rfl | (conv => lhs; whnf))); done) | ((with_reducible show _ = _ ∧ (_ → _)); refine ⟨?_, ?_⟩; try (first | rfl | (conv => lhs; whnf))) | exact fun h => h | exact fun _ => rfl | refine ⟨rfl, ?_⟩ | (refine ⟨Nat.le_of_ble_eq_true rfl, ?_⟩) | (refine ⟨?_, ?_, ?_⟩; exact okS; exact okS) | (refine ⟨?_, ?_⟩; exact okS) | fail)
          conv => whnf
          refine shutI_disk (by rw [e1]; rfl) e1 e2 rfl (by simp) (by simp; omega) ?_ ?_
          · show (l.set (posF l f.name) f).length * 3 ≤ (wrL ((l.map eF).flatMap AV.leaves ++ zs) (0 + posF l f.name * 3) (eF f).leaves).length
            rw [wrL_len (by have := posF_lt (l := l) (s := f.name) (by assumption); rw [k3]; simp only [List.length_map] at k1; show _ + 3 ≤ _; omega), k3, List.length_set]
            simp only [List.length_map] at k1; omega
          · show (wrL ((l.map eF).flatMap AV.leaves ++ zs) (0 + posF l f.name * 3) (eF f).leaves).take ((l.map eF).length * 3) = _
            rw [Nat.zero_add, List.length_map]
            exact flat_set l f _ zs (posF_lt (by assumption))
      · obtain ⟨e1, e2⟩ := laidE_full (l := l) (f := f) (by assumption) (by omega)
        conv => whnf
        refine shutI_none ?_ e1 e2
        rw [e1]; rfl
      · obtain ⟨e1, e2⟩ := laidE_no (l := l) (f := f) (by assumption) (by omega)
        conv => whnf
        refine callG_ins (B := (l.map eF).flatMap AV.leaves ++ zs) (F := (eF f).leaves) rfl rfl rfl (Nat.ne_of_beq_eq_false rfl) k3 (pfL_append (els_F l).pf k4) rfl k1 (by simp; omega) k2 (by rw [List.length_map]; exact posF_le) (fun B2 c2 q1 q2 q3 q4 => ?_) (fun B2 c2 q1 q2 q3 q4 => ?_)
        all_goals replace q4 := q4.trans (flat_ins l f _ zs posF_le)
        · repeat' ((conv => whnf); (fail_if_success (with_reducible show ∃ _, _ ∧ _ ∧ Weak _ _ _)); first | ((with_reducible show guardA _ _ _ _ _ _ ∨ _); first | (refine .inr ?_; (conv => whnf); refine ⟨_, ?_, fun h => rfl, rfl, ?_⟩; ((conv => whnf); first | exact trivial | (refine ⟨?_, trivial⟩; exact okG))) | (refine .inr ?_; (conv => whnf); refine ⟨_, trivial, fun h => ⟨?_, ?_, ?_, rfl⟩, rfl, ?_⟩; (first | exact h | rfl); exact okG; exact okG) | refine .inl ?_) | refine cY ?_ | refine cN ?_ | refine gA ?_ | refine gB ?_ | refine gC ?_ | ((first | refine gsT (fun h => ?_) (fun h => ?_) | refine gsF (fun h => ?_) (fun h => ?_) | refine ⟨fun h => ?_, fun h => ?_⟩) <;> (have hs := h; try simp only [cs, reduceCtorEq, Int.reduceEq, Int.reduceNe, Int.reduceLT, Int.reduceLE, Int.reduceBEq, Int.reduceBNe] at hs)) | ((with_reducible show _ ∧ _ ∧ Weak _ _ _); refine ⟨?_, ?_, Weak.go⟩; (omega)) | ((with_reducible show (_ ∨ _) ∧ _ ∧ retB _ _ _ _ _); refine ⟨by first | exact .inr rfl | exact .inl rfl, rfl, ?_⟩) | ((with_reducible show (_ ∧ _ ∧ _) ∧ _); refine ⟨⟨by kernel_rfl, by kernel_rfl, by rfl⟩, ?_⟩) | ((with_reducible show AV.pf _ = true ∧ _); refine pfA ?_) | (refine ⟨rfl, ?_, ?_, ?_⟩; exact okG; exact okG) | ((with_reducible show (_ ∨ _) ∧ _ ∧ retA _ _ _ _ _); refine ⟨?_, rfl, ?_⟩; (first | exact .inr rfl | exact .inl rfl)) | ((with_reducible show _ = _ ∧ _ = false ∧ _ = _); refine ⟨?_, rfl, rfl⟩; try (first | rfl | (conv => lhs; whnf))) | ((with_reducible show LeqD _ _); try (first | exact okN | (first | rfl | (conv => lhs; whnf))); done) | ((with_reducible show _ = _ ∧ (_ → _)); refine ⟨?_, ?_⟩; try (first | rfl | (conv => lhs; whnf))) | exact fun h => h | exact fun _ => rfl | refine ⟨rfl, ?_⟩ | (refine ⟨Nat.le_of_ble_eq_true rfl, ?_⟩) | (refine ⟨?_, ?_, ?_⟩; exact okS; exact okS) | (refine ⟨?_, ?_⟩; exact okS) | fail)
          conv => whnf
          refine shutI_disk (by rw [e1]; rfl) e1 e2 rfl ?_ ?_ ?_ q4
          all_goals (simp only [List.length_append, List.length_take, List.length_cons, List.length_drop, List.length_map] at q2 ⊢; have := @posF_le l f.name; omega)
        · repeat' ((conv => whnf); (fail_if_success (with_reducible show ∃ _, _ ∧ _ ∧ Weak _ _ _)); first | ((with_reducible show guardA _ _ _ _ _ _ ∨ _); first | (refine .inr ?_; (conv => whnf); refine ⟨_, ?_, fun h => rfl, rfl, ?_⟩; ((conv => whnf); first | exact trivial | (refine ⟨?_, trivial⟩; exact okG))) | (refine .inr ?_; (conv => whnf); refine ⟨_, trivial, fun h => ⟨?_, ?_, ?_, rfl⟩, rfl, ?_⟩; (first | exact h | rfl); exact okG; exact okG) | refine .inl ?_) | refine cY ?_ | refine cN ?_ | refine gA ?_ | refine gB ?_ | refine gC ?_ | ((first | refine gsT (fun h => ?_) (fun h => ?_) | refine gsF (fun h => ?_) (fun h => ?_) | refine ⟨fun h => ?_, fun h => ?_⟩) <;> (have hs := h; try simp only [cs, reduceCtorEq, Int.reduceEq, Int.reduceNe, Int.reduceLT, Int.reduceLE, Int.reduceBEq, Int.reduceBNe] at hs)) | ((with_reducible show _ ∧ _ ∧ Weak _ _ _); refine ⟨?_, ?_, Weak.go⟩; (omega)) | ((with_reducible show (_ ∨ _) ∧ _ ∧ retB _ _ _ _ _); refine ⟨by first | exact .inr rfl | exact .inl rfl, rfl, ?_⟩) | ((with_reducible show (_ ∧ _ ∧ _) ∧ _); refine ⟨⟨by kernel_rfl, by kernel_rfl, by rfl⟩, ?_⟩) | ((with_reducible show AV.pf _ = true ∧ _); refine pfA ?_) | (refine ⟨rfl, ?_, ?_, ?_⟩; exact okG; exact okG) | ((with_reducible show (_ ∨ _) ∧ _ ∧ retA _ _ _ _ _); refine ⟨?_, rfl, ?_⟩; (first | exact .inr rfl | exact .inl rfl)) | ((with_reducible show _ = _ ∧ _ = false ∧ _ = _); refine ⟨?_, rfl, rfl⟩; try (first | rfl | (conv => lhs; whnf))) | ((with_reducible show LeqD _ _); try (first | exact okN | (first | rfl | (conv => lhs; whnf))); done) | ((with_reducible show _ = _ ∧ (_ → _)); refine ⟨?_, ?_⟩; try (first | rfl | (conv => lhs; whnf))) | exact fun h => h | exact fun _ => rfl | refine ⟨rfl, ?_⟩ | (refine ⟨Nat.le_of_ble_eq_true rfl, ?_⟩) | (refine ⟨?_, ?_, ?_⟩; exact okS; exact okS) | (refine ⟨?_, ?_⟩; exact okS) | fail)
          conv => whnf
          refine shutI_disk (by rw [e1]; rfl) e1 e2 rfl ?_ ?_ ?_ q4
          all_goals (simp only [List.length_append, List.length_take, List.length_cons, List.length_drop, List.length_map] at q2 ⊢; have := @posF_le l f.name; omega)
end Go.Proofs.YtepdiooaoegpfaaGreatDoor.Fx
end
section
/- Files are written. Conditions: those in each statement. -/
namespace Go.Proofs.YtepdiooaoegpfaaGreatDoor.Fx
open Go Go.Proofs Go.Ev Go.RowKit
set_option maxRecDepth 100000
set_option maxHeartbeats 1600000
set_option linter.unusedSimpArgs false
set_option linter.unusedVariables false
/-- A file written: the clock, the files, what is wrong. -/
@[irreducible] def writE (clock : Int) (l : List File) (f : File) : Int := if laidE l f = 0 then if clock = 1099511627776 then 23 else 0 else laidE l f
@[irreducible] def writC (clock : Int) (l : List File) (f : File) : Int := if writE clock l f = 0 then clock + 1 else 0
@[irreducible] def writL (clock : Int) (l : List File) (f : File) : List File := if writE clock l f = 0 then laidL l f else []
theorem leq_disk {c c' e e' : Int} {L : List File} (hc : c = c') (he : e = e') (hL : L = []) : LeqD (.tup [.agg [i64 c, nilv], i64 e]) (.tup [eD c' L, i64 e']) := by
  subst hc he hL
  repeat' (first | exact LeqD.refl _ | exact LeqDL.refl _ | exact LeqD.nil (by decide) | refine LeqDL.cons ?_ ?_ | refine LeqD.agg ?_ | refine LeqD.tup ?_)
theorem leq_disk2 {c c' e e' : Int} {L L' : List File} (hc : c = c') (he : e = e') (hL : L = L') : LeqD (.tup [eD c L, i64 e]) (.tup [eD c' L', i64 e']) := by
  subst hc he hL; exact LeqD.refl _
theorem c_disk_written {clock : Int} {l : List File} {name text : ByteArray} (hc : 0 ≤ clock ∧ clock ≤ 1099511627776) (hl : l.length ≤ 256) (hp : l.Pairwise fun a b => ltS a.name b.name = true) :
    XPure Tryz.prog 72 [eD clock l, str name, str text] (.tup [eD (writC clock l ⟨name, text, clock + 1⟩) (writL clock l ⟨name, text, clock + 1⟩), i64 (writE clock l ⟨name, text, clock + 1⟩)]) false := by
  have hw : IntKind.i64.wrap (clock + 1) = clock + 1 := wrapId (by omega) (by omega)
  refine XPure.bodyN ⟨_, Tryz.func72, rfl, by kernel_rfl⟩ Tryz.func72 rfl (Nat.le_of_ble_eq_true (by rfl)) (pf_of1 rfl) fun env => ?_
  repeat' ((conv => whnf); (fail_if_success (with_reducible show LeqD _ _)); (fail_if_success (with_reducible show ∃ _, _ ∧ _ ∧ Weak _ _ _)); first | ((with_reducible show guardA _ _ _ _ _ _ ∨ _); first | (refine .inr ?_; (conv => whnf); refine ⟨_, ?_, fun h => rfl, rfl, ?_⟩; ((conv => whnf); first | exact trivial | (refine ⟨?_, trivial⟩; exact okG))) | (refine .inr ?_; (conv => whnf); refine ⟨_, trivial, fun h => ⟨?_, ?_, ?_, rfl⟩, rfl, ?_⟩; (first | exact h | rfl); exact okG; exact okG) | refine .inl ?_) | refine cY ?_ | refine cN ?_ | refine gA ?_ | refine gB ?_ | refine gC ?_ | ((first | refine gsT (fun h => ?_) (fun h => ?_) | refine gsF (fun h => ?_) (fun h => ?_) | refine ⟨fun h => ?_, fun h => ?_⟩) <;> (have hs := h; try simp only [cs, reduceCtorEq, Int.reduceEq, Int.reduceNe, Int.reduceLT, Int.reduceLE, Int.reduceBEq, Int.reduceBNe] at hs)) | (refine .inl ⟨_, _, c_disk_laid (f := ⟨name, text, IntKind.i64.wrap (clock + 1)⟩) hl hp, ?_⟩) | ((with_reducible show _ ∧ _ ∧ Weak _ _ _); refine ⟨?_, ?_, Weak.go⟩; (omega)) | ((with_reducible show (_ ∧ _ ∧ _) ∧ _); refine ⟨⟨by kernel_rfl, by kernel_rfl, by rfl⟩, ?_⟩) | ((with_reducible show AV.pf _ = true ∧ _); refine pfA ?_) | (refine ⟨rfl, ?_, ?_, ?_⟩; exact okG; exact okG) | ((with_reducible show (_ ∨ _) ∧ _ ∧ retA _ _ _ _ _); refine ⟨?_, rfl, ?_⟩; (first | exact .inr rfl | exact .inl rfl)) | ((with_reducible show _ = _ ∧ _ = false ∧ _ = _); refine ⟨?_, rfl, rfl⟩; try (first | rfl | (conv => lhs; whnf))) | ((with_reducible show _ = _ ∧ (_ → _)); refine ⟨?_, ?_⟩; try (first | rfl | (conv => lhs; whnf))) | exact fun h => h | exact fun _ => rfl | refine ⟨rfl, ?_⟩ | (refine ⟨Nat.le_of_ble_eq_true rfl, ?_⟩) | (refine ⟨?_, ?_, ?_⟩; exact okS; exact okS) | (refine ⟨?_, ?_⟩; exact okS) | fail)
  all_goals rw [hw] at *
  · have e : writE clock l ⟨name, text, clock + 1⟩ = laidE l ⟨name, text, clock + 1⟩ := by unfold writE; rw [if_neg hs]
    exact leq_disk (by unfold writC; rw [e, if_neg hs]) e.symm (by unfold writL; rw [e, if_neg hs])
  · have e : writE clock l ⟨name, text, clock + 1⟩ = 23 := by unfold writE; rw [if_pos (by assumption), if_pos hs]
    exact leq_disk (by unfold writC; rw [e]; rfl) e.symm (by unfold writL; rw [e]; rfl)
  · have e : writE clock l ⟨name, text, clock + 1⟩ = 0 := by unfold writE; rw [if_pos (by assumption), if_neg hs]
    have e3 : laidE l ⟨name, text, clock + 1⟩ = 0 := by assumption
    exact leq_disk2 (by unfold writC; rw [e, e3, if_pos rfl, if_pos rfl, wrapId (by omega) (by omega)]) e.symm (by unfold writL; rw [e]; rfl)
theorem okD_clock {clock : Int} {l : List File} (h : okD clock l = true) : 0 ≤ clock ∧ clock ≤ 1099511627776 := by
  simp only [okD, Bool.and_eq_true, decide_eq_true_eq] at h; omega
/-- What is wrong with a write. -/
@[irreducible] def wrE (clock : Int) (l : List File) (name text : ByteArray) : Int := if okD clock l = true then if isName name = true then if 4096 < text.size then 20 else writE clock l ⟨name, text, clock + 1⟩ else 3 else 4
@[irreducible] def wrC (clock : Int) (l : List File) (name text : ByteArray) : Int := if wrE clock l name text = 0 then clock + 1 else 0
@[irreducible] def wrL' (clock : Int) (l : List File) (name text : ByteArray) : List File := if wrE clock l name text = 0 then laidL l ⟨name, text, clock + 1⟩ else []
theorem c_disk_Write {clock : Int} {l : List File} {name text : ByteArray} : XPure Tryz.prog 48 [eD clock l, str name, str text] (.tup [eD (wrC clock l name text) (wrL' clock l name text), i64 (wrE clock l name text)]) false := by
  refine XPure.bodyN ⟨_, Tryz.func48, rfl, by kernel_rfl⟩ Tryz.func48 rfl (Nat.le_of_ble_eq_true (by rfl)) (pf_of1 rfl) fun env => ?_
  repeat' ((conv => whnf); (fail_if_success (with_reducible show LeqD _ _)); (fail_if_success (with_reducible show ∃ _, _ ∧ _ ∧ Weak _ _ _)); first | ((with_reducible show guardA _ _ _ _ _ _ ∨ _); first | (refine .inr ?_; (conv => whnf); refine ⟨_, ?_, fun h => rfl, rfl, ?_⟩; ((conv => whnf); first | exact trivial | (refine ⟨?_, trivial⟩; exact okG))) | (refine .inr ?_; (conv => whnf); refine ⟨_, trivial, fun h => ⟨?_, ?_, ?_, rfl⟩, rfl, ?_⟩; (first | exact h | rfl); exact okG; exact okG) | refine .inl ?_) | refine cY ?_ | refine cN ?_ | refine gA ?_ | refine gB ?_ | refine gC ?_ | ((first | refine gsT (fun h => ?_) (fun h => ?_) | refine gsF (fun h => ?_) (fun h => ?_) | refine ⟨fun h => ?_, fun h => ?_⟩) <;> (have hs := h; try simp only [cs, reduceCtorEq, Int.reduceEq, Int.reduceNe, Int.reduceLT, Int.reduceLE, Int.reduceBEq, Int.reduceBNe] at hs)) | (refine .inl ⟨_, _, c_disk_asked, ?_⟩) | (refine .inl ⟨_, _, c_disk_written (okD_clock (asked0 (by assumption)).1) (okD_sorted (asked0 (by assumption)).1).1 (okD_sorted (asked0 (by assumption)).1).2, ?_⟩) | ((with_reducible show _ ∧ _ ∧ Weak _ _ _); refine ⟨?_, ?_, Weak.go⟩; (omega)) | ((with_reducible show (_ ∧ _ ∧ _) ∧ _); refine ⟨⟨by kernel_rfl, by kernel_rfl, by rfl⟩, ?_⟩) | ((with_reducible show AV.pf _ = true ∧ _); refine pfA ?_) | (refine ⟨rfl, ?_, ?_, ?_⟩; exact okG; exact okG) | ((with_reducible show (_ ∨ _) ∧ _ ∧ retA _ _ _ _ _); refine ⟨?_, rfl, ?_⟩; (first | exact .inr rfl | exact .inl rfl)) | ((with_reducible show _ = _ ∧ _ = false ∧ _ = _); refine ⟨?_, rfl, rfl⟩; try (first | rfl | (conv => lhs; whnf))) | ((with_reducible show _ = _ ∧ (_ → _)); refine ⟨?_, ?_⟩; try (first | rfl | (conv => lhs; whnf))) | exact fun h => h | exact fun _ => rfl | refine ⟨rfl, ?_⟩ | (refine ⟨Nat.le_of_ble_eq_true rfl, ?_⟩) | (refine ⟨?_, ?_, ?_⟩; exact okS; exact okS) | (refine ⟨?_, ?_⟩; exact okS) | fail)
  · have e : wrE clock l name text = bif okD clock l then errIf (isName name) 3 else 4 := by
      unfold wrE
      cases h1 : okD clock l <;> cases h2 : isName name <;> simp_all [errIf]
    have e0 : ¬ wrE clock l name text = 0 := by rw [e]; exact hs
    exact leq_disk (by unfold wrC; rw [if_neg e0]) e.symm (by unfold wrL'; rw [if_neg e0])
  · obtain ⟨q1, q2⟩ := asked0 (by assumption)
    have e : wrE clock l name text = 20 := by unfold wrE; rw [if_pos q1, if_pos q2, if_pos (by omega)]
    exact leq_disk (by unfold wrC; rw [e]; rfl) e.symm (by unfold wrL'; rw [e]; rfl)
  · obtain ⟨q1, q2⟩ := asked0 (by assumption)
    have e : wrE clock l name text = writE clock l ⟨name, text, clock + 1⟩ := by unfold wrE; rw [if_pos q1, if_pos q2, if_neg (by omega)]
    exact leq_disk2 (by unfold wrC writC; rw [e]) e.symm (by unfold wrL' writL; rw [e])
end Go.Proofs.YtepdiooaoegpfaaGreatDoor.Fx
end
section
/- Where one of some bytes stands; quoted words; texts joined. Conditions: those in each statement. -/
namespace Go.Proofs.YtepdiooaoegpfaaGreatDoor.Fx
open Go Go.Proofs Go.Ev Go.RowKit Go.Proofs.YtepdiooaoegpfaaGreatDoor.Sup
set_option maxRecDepth 100000
set_option maxHeartbeats 1600000
set_option linter.unusedSimpArgs false
set_option linter.unusedVariables false
def asciiS (s : ByteArray) : Bool := s.data.toList.all fun b => decide (b.toNat < 128)
theorem c_IndexAny {s cs : ByteArray} (h2 : 2 ≤ cs.size) (h3 : cs.size < 4294967281) (hs : s.size ≤ 140737488351232) (ha : asciiS cs = true) : XPure Tryz.prog 86 [str s, str cs] (i64 (Lib.indexAny s.data.toList cs.data.toList)) false :=
  XPure.ofCalls (l := [.string s, .string cs]) ⟨_, Tryz.func86, rfl, by kernel_rfl⟩ rfl (fun w => by
    have h5 : ∀ b ∈ cs.data.toList, b.toNat < 128 := fun b hb => of_decide_eq_true (List.all_eq_true.1 ha b hb)
    by_cases h8 : s.size ≤ 8
    · exact IndexAny_short s cs w h2 (by omega) h8 (fun j hj => h5 _ (List.mem_of_getElem? (Lib.data_getElem? cs j hj)))
    · exact IndexAny_long s cs w h2 (by omega) hs h3 (fun j b hb => h5 b (List.mem_of_getElem? hb))) fun _ _ _ _ => rep_v_mk rfl
theorem c_ContainsAny {s cs : ByteArray} (h2 : 2 ≤ cs.size) (h3 : cs.size < 4294967281) (hs : s.size ≤ 140737488351232) (ha : asciiS cs = true) : XPure Tryz.prog 87 [str s, str cs] (bln (decide (0 ≤ Lib.indexAny s.data.toList cs.data.toList))) false := by
  refine XPure.body ⟨_, Tryz.func87, rfl, by kernel_rfl⟩ Tryz.func87 rfl (Nat.le_of_ble_eq_true (by rfl)) (pf_of1 rfl) fun env => ?_
  repeat' ((conv => whnf); (fail_if_success (with_reducible show ∃ _, _ ∧ _ ∧ Weak _ _ _)); first | ((with_reducible show guardA _ _ _ _ _ _ ∨ _); first | (refine .inr ?_; (conv => whnf); refine ⟨_, ?_, fun h => rfl, rfl, ?_⟩; ((conv => whnf); first | exact trivial | (refine ⟨?_, trivial⟩; exact okG))) | (refine .inr ?_; (conv => whnf); refine ⟨_, trivial, fun h => ⟨?_, ?_, ?_, rfl⟩, rfl, ?_⟩; (first | exact h | rfl); exact okG; exact okG) | refine .inl ?_) | refine cY ?_ | refine cN ?_ | refine gA ?_ | refine gB ?_ | refine gC ?_ | ((first | refine gsT (fun h => ?_) (fun h => ?_) | refine gsF (fun h => ?_) (fun h => ?_) | refine ⟨fun h => ?_, fun h => ?_⟩) <;> (have hs := h; try simp only [cs, reduceCtorEq, Int.reduceEq, Int.reduceNe, Int.reduceLT, Int.reduceLE, Int.reduceBEq, Int.reduceBNe] at hs)) | (refine .inl ⟨_, _, c_IndexAny h2 h3 hs ha, ?_⟩) | ((with_reducible show _ ∧ _ ∧ Weak _ _ _); refine ⟨?_, ?_, Weak.go⟩; (omega)) | ((with_reducible show (_ ∧ _ ∧ _) ∧ _); refine ⟨⟨by kernel_rfl, by kernel_rfl, by rfl⟩, ?_⟩) | ((with_reducible show AV.pf _ = true ∧ _); refine pfA ?_) | (refine ⟨rfl, ?_, ?_, ?_⟩; exact okG; exact okG) | ((with_reducible show (_ ∨ _) ∧ _ ∧ retA _ _ _ _ _); refine ⟨?_, rfl, ?_⟩; (first | exact .inr rfl | exact .inl rfl)) | ((with_reducible show _ = _ ∧ _ = false ∧ _ = _); refine ⟨?_, rfl, rfl⟩; try (first | rfl | (conv => lhs; whnf))) | ((with_reducible show LeqD _ _); try (first | exact okN | (first | rfl | (conv => lhs; whnf))); done) | ((with_reducible show _ = _ ∧ (_ → _)); refine ⟨?_, ?_⟩; try (first | rfl | (conv => lhs; whnf))) | exact fun h => h | exact fun _ => rfl | refine ⟨rfl, ?_⟩ | (refine ⟨Nat.le_of_ble_eq_true rfl, ?_⟩) | (refine ⟨?_, ?_, ?_⟩; exact okS; exact okS) | (refine ⟨?_, ?_⟩; exact okS) | rw [wrapId (by omega) (by omega)] | fail)
theorem c_lex_quoted {s : ByteArray} {i : Nat} (hi : i < s.size) (hs : s.size ≤ 140737488351232) : XPure Tryz.prog 85 [str s, i64 i] (.tup [str (qW (lexq (s.data.toList.drop (i + 1)) [] (i + 1))), i64 (qP (lexq (s.data.toList.drop (i + 1)) [] (i + 1))), bln (qB (lexq (s.data.toList.drop (i + 1)) [] (i + 1)))]) false :=
  XPure.ofCalls (l := [.string s, .int .i64 i]) ⟨_, Tryz.func85, rfl, by kernel_rfl⟩ rfl (fun w => quoted_walk s i w hi hs) fun w hw bs base => by
    refine ⟨_, rfl, ?_⟩
    simp only [RepT]
    exact ⟨_, _, rfl, rep1_of rfl (rep_v_mk rfl), _, _, rfl, rep1_of rfl (rep_v_mk rfl), _, _, rfl, rep1_of rfl (rep_v_mk rfl), rfl⟩
theorem lexq_at : ∀ (l acc : List UInt8) (p : Nat) (w : List UInt8) (q : Nat), lexq l acc p = some (w, q) → p < q ∧ q ≤ p + l.length
  | [], _, _, _, _, h => by simp [lexq] at h
  | [c], acc, p, w, q, h => by
    rw [lexq_cons] at h
    split at h
    · cases h; simp
    · split at h
      · cases h
      · split at h
        · cases h
        · simp [lexq] at h
  | c :: d :: t, acc, p, w, q, h => by
    rw [lexq_cons] at h
    simp only at h
    split at h
    · cases h; simp
    · split at h
      · cases h
      · split at h
        · split at h
          · have := lexq_at _ _ _ _ _ h; simp only [List.length_cons]; omega
          · split at h
            · have := lexq_at _ _ _ _ _ h; simp only [List.length_cons]; omega
            · split at h
              · have := lexq_at _ _ _ _ _ h; simp only [List.length_cons]; omega
              · cases h
        · have := lexq_at _ _ _ _ _ h; simp only [List.length_cons] at this ⊢; omega
theorem indexAny_lt (cs : List UInt8) : ∀ l : List UInt8, Lib.indexAny l cs < l.length ∨ (l = [] ∧ Lib.indexAny l cs = -1)
  | [] => .inr ⟨rfl, rfl⟩
  | b :: l => by
    left
    simp only [Lib.indexAny, List.length_cons]
    have ih := indexAny_lt cs l
    have ge := Lib.indexAny_ge cs l
    split
    · omega
    · split
      · omega
      · rcases ih with h | ⟨rfl, h⟩
        · omega
        · rename_i hne; rw [h] at hne; simp at hne
theorem indexAny_pos {b : UInt8} {l cs : List UInt8} (h : cs.contains b = false) : Lib.indexAny (b :: l) cs ≠ 0 := by
  simp only [Lib.indexAny, h, Bool.false_eq_true, if_false]
  have ge := Lib.indexAny_ge cs l
  split
  · omega
  · rename_i hne; simp only [beq_iff_eq] at hne; omega
theorem size_ext {s : ByteArray} {i j : Nat} (hj : j ≤ s.size) : (s.extract i j).size = j - i := by rw [ByteArray.size_extract]; omega
theorem len_data (s : ByteArray) : s.data.toList.length = s.size := by simp
theorem ext_head {s : ByteArray} {i : Nat} (hi : i < s.size) : ∃ t, (s.extract i s.size).data.toList = byteAt s i :: t := by
  have h' : i < s.data.toList.length := by simpa using hi
  refine ⟨s.data.toList.drop (i + 1), ?_⟩
  rw [ByteArray.data_extract, Array.toList_extract, List.extract_eq_take_drop]
  rw [List.take_of_length_le (by simp), List.drop_eq_getElem_cons h']
  congr 1
  unfold byteAt
  rw [List.getD_eq_getElem?_getD, List.getElem?_eq_getElem h']; rfl
def blankB (c : UInt8) : Bool := ((c.toNat : Int) == 32) || ((c.toNat : Int) == 9)
/-- Words of a line from a place on, behind those that are read; none: a fault. -/
def wordsF : Nat → ByteArray → Nat → List ByteArray → Option (List ByteArray)
  | 0, _, _, out => some out
  | k + 1, s, i, out =>
    if i < s.size then
      if blankB (byteAt s i) = true then wordsF k s (i + 1) out
      else if byteAt s i = 34 then
        match lexq (s.data.toList.drop (i + 1)) [] (i + 1) with
        | none => none
        | some (w, q) => if q < s.size ∧ blankB (byteAt s q) = false then none else wordsF k s q (out ++ [⟨w.toArray⟩])
      else
        let n := if Lib.indexAny (s.extract i s.size).data.toList [32, 9] < 0 then s.size - i else (Lib.indexAny (s.extract i s.size).data.toList [32, 9]).toNat
        if 0 ≤ Lib.indexAny (s.extract i (i + n)).data.toList [34, 10] then none else wordsF k s (i + n) (out ++ [s.extract i (i + n)])
    else some out
def wordsL (s : ByteArray) : Option (List ByteArray) := wordsF (s.size + 1) s 0 []
@[irreducible] def wordsE (s : ByteArray) : Int := if 65536 < s.size then 2 else if (wordsL s).isSome = true then 0 else 150
@[irreducible] def wordsV (s : ByteArray) : List ByteArray := if 65536 < s.size then [] else (wordsL s).getD []
theorem words_bad {s : ByteArray} (hz : s.size ≤ 65536) (h : wordsL s = none) : LeqD (.tup [nilv, i64 150]) (.tup [eS (wordsV s), i64 (wordsE s)]) := by
  have e1 : wordsE s = 150 := by unfold wordsE; rw [if_neg (by omega), h]; rfl
  have e2 : wordsV s = [] := by unfold wordsV; rw [if_neg (by omega), h]; rfl
  rw [e1, e2]
  repeat' (first | exact LeqD.refl _ | exact LeqDL.refl _ | exact LeqD.nil (by decide) | refine LeqDL.cons ?_ ?_ | refine LeqD.tup ?_)
theorem words_good {s : ByteArray} {o : List ByteArray} (hz : s.size ≤ 65536) (h : wordsL s = some o) : LeqD (.tup [eS o, i64 0]) (.tup [eS (wordsV s), i64 (wordsE s)]) := by
  have e1 : wordsE s = 0 := by unfold wordsE; rw [if_neg (by omega), h]; rfl
  have e2 : wordsV s = o := by unfold wordsV; rw [if_neg (by omega), h]; rfl
  rw [e1, e2]; exact LeqD.refl _
theorem words_long {s : ByteArray} (hz : 65536 < s.size) : LeqD (.tup [nilv, i64 2]) (.tup [eS (wordsV s), i64 (wordsE s)]) := by
  have e1 : wordsE s = 2 := by unfold wordsE; rw [if_pos hz]
  have e2 : wordsV s = [] := by unfold wordsV; rw [if_pos hz]
  rw [e1, e2]
  repeat' (first | exact LeqD.refl _ | exact LeqDL.refl _ | exact LeqD.nil (by decide) | refine LeqDL.cons ?_ ?_ | refine LeqD.tup ?_)
theorem blankB_yes {s : ByteArray} {i : Nat} (h : ((byteAt s i).toNat : Int) = 32 ∨ ((byteAt s i).toNat : Int) = 9) : blankB (byteAt s i) = true := by simp only [blankB, Bool.or_eq_true, beq_iff_eq]; exact h
theorem blankB_no {s : ByteArray} {i : Nat} (h : ¬ ((byteAt s i).toNat : Int) = 32 ∧ ¬ ((byteAt s i).toNat : Int) = 9) : blankB (byteAt s i) = false := by simp only [blankB, Bool.or_eq_false_iff, beq_eq_false_iff_ne]; exact h
theorem u8_yes {c : UInt8} (h : (c.toNat : Int) = 34) : c = 34 := UInt8.toNat_inj.1 (by simpa using (by omega : c.toNat = 34))
theorem u8_no {c : UInt8} (h : ¬ (c.toNat : Int) = 34) : ¬ c = 34 := fun e => h (by rw [e]; rfl)
/-- A place at which no blank and no quote stands. -/
theorem wordsF_plain {k : Nat} {s : ByteArray} {i : Nat} {out : List ByteArray} {r : Int} {n : Nat} (hi : i < s.size) (h1 : blankB (byteAt s i) = false) (h2 : ¬ byteAt s i = 34) (hr : Lib.indexAny (s.extract i s.size).data.toList [32, 9] = r) (hn : (if r < 0 then s.size - i else r.toNat) = n) :
    wordsF (k + 1) s i out = if 0 ≤ Lib.indexAny (s.extract i (i + n)).data.toList [34, 10] then none else wordsF k s (i + n) (out ++ [s.extract i (i + n)]) := by
  rw [wordsF, if_pos hi, if_neg (by rw [h1]; simp), if_neg h2]
  simp only [hr, hn]
theorem wordsF_q0 {k : Nat} {s : ByteArray} {i : Nat} {out : List ByteArray} (hi : i < s.size) (h1 : blankB (byteAt s i) = false) (h2 : byteAt s i = 34) (hR : lexq (s.data.toList.drop (i + 1)) [] (i + 1) = none) : wordsF (k + 1) s i out = none := by
  rw [wordsF, if_pos hi, if_neg (by rw [h1]; simp), if_pos h2]
  simp only [hR]
theorem wordsF_q1 {k : Nat} {s : ByteArray} {i : Nat} {out : List ByteArray} {w : List UInt8} {q : Nat} (hi : i < s.size) (h1 : blankB (byteAt s i) = false) (h2 : byteAt s i = 34) (hR : lexq (s.data.toList.drop (i + 1)) [] (i + 1) = some (w, q)) :
    wordsF (k + 1) s i out = if q < s.size ∧ blankB (byteAt s q) = false then none else wordsF k s q (out ++ [⟨w.toArray⟩]) := by
  rw [wordsF, if_pos hi, if_neg (by rw [h1]; simp), if_pos h2]
  simp only [hR]
theorem c_lex_Words {s : ByteArray} : XPure Tryz.prog 66 [str s] (.tup [eS (wordsV s), i64 (wordsE s)]) false := by
  refine XPure.bodyN ⟨_, Tryz.func66, rfl, by kernel_rfl⟩ Tryz.func66 rfl (Nat.le_of_ble_eq_true (by rfl)) (pf_of1 rfl) fun env => ?_
  repeat' ((conv => whnf); (fail_if_success (with_reducible show LeqD _ _)); (fail_if_success (with_reducible show ∃ _, _ ∧ _ ∧ Weak _ _ _)); first | ((with_reducible show guardA _ _ _ _ _ _ ∨ _); first | (refine .inr ?_; (conv => whnf); refine ⟨_, ?_, fun h => rfl, rfl, ?_⟩; ((conv => whnf); first | exact trivial | (refine ⟨?_, trivial⟩; exact okG))) | (refine .inr ?_; (conv => whnf); refine ⟨_, trivial, fun h => ⟨?_, ?_, ?_, rfl⟩, rfl, ?_⟩; (first | exact h | rfl); exact okG; exact okG) | refine .inl ?_) | refine cY ?_ | refine cN ?_ | refine gA ?_ | refine gB ?_ | refine gC ?_ | ((first | refine gsT (fun h => ?_) (fun h => ?_) | refine gsF (fun h => ?_) (fun h => ?_) | refine ⟨fun h => ?_, fun h => ?_⟩) <;> (have hs := h; try simp only [cs, reduceCtorEq, Int.reduceEq, Int.reduceNe, Int.reduceLT, Int.reduceLE, Int.reduceBEq, Int.reduceBNe] at hs)) | ((with_reducible show _ ∧ _ ∧ Weak _ _ _); refine ⟨?_, ?_, Weak.go⟩; (omega)) | ((with_reducible show (_ ∧ _ ∧ _) ∧ _); refine ⟨⟨by kernel_rfl, by kernel_rfl, by rfl⟩, ?_⟩) | ((with_reducible show AV.pf _ = true ∧ _); refine pfA ?_) | (refine ⟨rfl, ?_, ?_, ?_⟩; exact okG; exact okG) | ((with_reducible show (_ ∨ _) ∧ _ ∧ retA _ _ _ _ _); refine ⟨?_, rfl, ?_⟩; (first | exact .inr rfl | exact .inl rfl)) | ((with_reducible show _ = _ ∧ _ = false ∧ _ = _); refine ⟨?_, rfl, rfl⟩; try (first | rfl | (conv => lhs; whnf))) | ((with_reducible show _ = _ ∧ (_ → _)); refine ⟨?_, ?_⟩; try (first | rfl | (conv => lhs; whnf))) | exact fun h => h | exact fun _ => rfl | refine ⟨rfl, ?_⟩ | (refine ⟨Nat.le_of_ble_eq_true rfl, ?_⟩) | (refine ⟨?_, ?_, ?_⟩; exact okS; exact okS) | (refine ⟨?_, ?_⟩; exact okS) | fail)
  · exact words_long (by omega)
  refine XW.overL [0] (fun (p : Nat × List ByteArray) => [(4, eS p.2), (5, i64 p.1)]) (fun _ => [4]) (fun _ => []) (fun p => p.1 ≤ s.size ∧ p.2.length ≤ p.1 ∧ ∃ k, s.size + 1 ≤ p.1 + k ∧ wordsF k s p.1 p.2 = wordsL s) (fun p => s.size - p.1) (0, []) Weak.go ⟨Nat.zero_le _, Nat.zero_le _, s.size + 1, by omega, rfl⟩ ?_
  rintro ⟨i, out⟩ ⟨hi, ho, k, hk, hA⟩
  dsimp only at hi ho hk hA ⊢
  obtain ⟨k, rfl⟩ : ∃ k', k = k' + 1 := ⟨k - 1, by omega⟩
  refine codeS ?_
  have hq : i < s.size → XPure Tryz.prog 85 [str s, i64 i] _ false := fun h => c_lex_quoted h (by omega)
  obtain ⟨R, hR⟩ : ∃ R, lexq (s.data.toList.drop (i + 1)) [] (i + 1) = R := ⟨_, rfl⟩
  have hI := c_IndexAny (s := s.extract i s.size) (cs := ⟨#[32, 9]⟩) (Nat.le_of_ble_eq_true rfl) (Nat.le_of_ble_eq_true rfl) (by rw [size_ext (Nat.le_refl _)]; omega) rfl
  obtain ⟨r, hr⟩ : ∃ r, Lib.indexAny (s.extract i s.size).data.toList [32, 9] = r := ⟨_, rfl⟩
  rw [hR] at hq
  rw [show (⟨#[32, 9]⟩ : ByteArray).data.toList = [32, 9] from rfl, hr] at hI
  have hr1 : -1 ≤ r := hr ▸ Lib.indexAny_ge _ _
  have hr2 : r < ((s.size - i : Nat) : Int) ∨ r = -1 := by
    rcases indexAny_lt [32, 9] (s.extract i s.size).data.toList with h | ⟨_, h⟩
    · rw [len_data, size_ext (Nat.le_refl _), hr] at h; exact .inl h
    · exact .inr (hr ▸ h)
  have hwi : IntKind.i64.wrap ((i : Int) + 1) = ((i + 1 : Nat) : Int) := by rw [wrapId (by omega) (by omega)]; omega
  have hw2 : IntKind.i64.wrap ((s.size : Int) - (i : Int)) = ((s.size - i : Nat) : Int) := by rw [wrapId (by omega) (by omega)]; omega
  have hw3 : IntKind.i64.wrap ((i : Int) + ((s.size - i : Nat) : Int)) = (s.size : Int) := by rw [wrapId (by omega) (by omega)]; omega
  have hw4 : 0 ≤ r → IntKind.i64.wrap ((i : Int) + r) = ((i + r.toNat : Nat) : Int) := fun h => by rw [wrapId (by omega) (by omega)]; omega
  have hqp : 0 ≤ qP R := by rcases R with _ | ⟨w, q⟩ <;> simp [qP]
  repeat' ((conv => whnf); (fail_if_success (with_reducible show LeqD _ _)); (fail_if_success (with_reducible show ∃ _, _ ∧ _ ∧ Weak _ _ _)); first | ((with_reducible show guardA _ _ _ _ _ _ ∨ _); first | (refine .inr ?_; (conv => whnf); refine ⟨_, ?_, fun h => rfl, rfl, ?_⟩; ((conv => whnf); first | exact trivial | (refine ⟨?_, trivial⟩; exact okG))) | (refine .inr ?_; (conv => whnf); refine ⟨_, trivial, fun h => ⟨?_, ?_, ?_, rfl⟩, rfl, ?_⟩; (first | exact h | rfl); exact okG; exact okG) | refine .inl ?_) | refine cY ?_ | refine cN ?_ | refine gA ?_ | refine gB ?_ | refine gC ?_ | ((first | refine gsT (fun h => ?_) (fun h => ?_) | refine gsF (fun h => ?_) (fun h => ?_) | refine ⟨fun h => ?_, fun h => ?_⟩) <;> (have hs := h; try simp only [cs, reduceCtorEq, Int.reduceEq, Int.reduceNe, Int.reduceLT, Int.reduceLE, Int.reduceBEq, Int.reduceBNe] at hs)) | (refine .inl ⟨_, _, c_lex_blank, ?_⟩) | (refine .inl ⟨_, _, hq (by omega), ?_⟩) | (refine .inl ⟨_, _, hI, ?_⟩) | (refine .inl ⟨_, _, c_ContainsAny (Nat.le_of_ble_eq_true rfl) (Nat.le_of_ble_eq_true rfl) (by rw [size_ext (by omega)]; omega) rfl, ?_⟩) | ((with_reducible show _ ∧ _ ∧ Weak _ _ _); refine ⟨?_, ?_, Weak.go⟩; (omega)) | (first | rw [hw2] | rw [hw3] | rw [hw4 (by omega)]) | ((with_reducible show (_ ∧ _ ∧ _) ∧ _); refine ⟨⟨by kernel_rfl, by kernel_rfl, by rfl⟩, ?_⟩) | ((with_reducible show AV.pf _ = true ∧ _); refine pfA ?_) | (refine ⟨rfl, ?_, ?_, ?_⟩; exact okG; exact okG) | ((with_reducible show (_ ∨ _) ∧ _ ∧ retA _ _ _ _ _); refine ⟨?_, rfl, ?_⟩; (first | exact .inr rfl | exact .inl rfl)) | ((with_reducible show _ = _ ∧ _ = false ∧ _ = _); refine ⟨?_, rfl, rfl⟩; try (first | rfl | (conv => lhs; whnf))) | ((with_reducible show _ = _ ∧ (_ → _)); refine ⟨?_, ?_⟩; try (first | rfl | (conv => lhs; whnf))) | exact fun h => h | exact fun _ => rfl | refine ⟨rfl, ?_⟩ | (refine ⟨Nat.le_of_ble_eq_true rfl, ?_⟩) | (refine ⟨?_, ?_, ?_⟩; (first | (refine sizeOk rfl ?_; simp only [List.length_map, List.length_append, List.length_cons, List.length_nil]; omega) | omega | (simp only [List.length_map, List.length_append, List.length_cons, List.length_nil]; omega) | (rw [size_ext (by omega)]; omega)); (first | (refine sizeOk rfl ?_; simp only [List.length_map, List.length_append, List.length_cons, List.length_nil]; omega) | omega | (simp only [List.length_map, List.length_append, List.length_cons, List.length_nil]; omega) | (rw [size_ext (by omega)]; omega))) | (refine ⟨?_, ?_⟩; (first | (refine sizeOk rfl ?_; simp only [List.length_map, List.length_append, List.length_cons, List.length_nil]; omega) | omega | (simp only [List.length_map, List.length_append, List.length_cons, List.length_nil]; omega) | (rw [size_ext (by omega)]; omega))) | fail)
  · rw [wordsF, if_pos (by assumption), if_pos (blankB_yes hs)] at hA
    conv => whnf
    rw [hwi]
    refine ⟨(i + 1, out), by dsimp only; omega, ⟨by dsimp only; omega, by dsimp only; omega, k, by dsimp only; omega, hA⟩, Weak.go⟩
  · rcases R with _ | ⟨w, q⟩
    · exact words_bad (by omega) (by rw [← hA, wordsF_q0 (by assumption) (blankB_no (by assumption)) (u8_yes (by assumption)) hR])
    · rw [wordsF_q1 (by assumption) (blankB_no (by assumption)) (u8_yes (by assumption)) hR] at hA
      have hlt : q < s.size := by have : ((q : Nat) : Int) < s.size := by assumption
                                  omega
      have hb : blankB (byteAt s q) = false := by
        rcases hs with h | ⟨_, h⟩
        · cases h
        · exact blankB_no h
      rw [if_pos ⟨hlt, hb⟩] at hA
      exact words_bad (by omega) hA.symm
  · rcases R with _ | ⟨w, q⟩
    · cases ‹qB none = true›
    · have hb := lexq_at _ _ _ _ _ hR
      rw [List.length_drop, len_data] at hb
      rw [wordsF_q1 (by assumption) (blankB_no (by assumption)) (u8_yes (by assumption)) hR] at hA
      have hM := map_snoc eStr out (qW (some (w, q)))
      rw [if_neg (by
        rintro ⟨g1, g2⟩
        rcases hs.2 with g | g
        · have : (s.size : Int) ≤ ((q : Nat) : Int) := g
          omega
        · exact absurd (blankB_yes g) (by show ¬ blankB (byteAt s q) = true; rw [g2]; simp))] at hA
      conv => whnf
      refine ⟨(q, out ++ [qW (some (w, q))]), by dsimp only; omega, ⟨by dsimp only; omega, by simp only [List.length_append, List.length_cons, List.length_nil]; omega, k, by dsimp only; omega, hA⟩, Weak.go⟩
  · exfalso; simp_all
  · rcases R with _ | ⟨w, q⟩
    · cases ‹qB none = true›
    · have hb := lexq_at _ _ _ _ _ hR
      rw [List.length_drop, len_data] at hb
      rw [wordsF_q1 (by assumption) (blankB_no (by assumption)) (u8_yes (by assumption)) hR] at hA
      have hM := map_snoc eStr out (qW (some (w, q)))
      rw [if_neg (by
        rintro ⟨g1, g2⟩
        have : (s.size : Int) ≤ ((q : Nat) : Int) := by assumption
        omega)] at hA
      conv => whnf
      refine ⟨(q, out ++ [qW (some (w, q))]), by dsimp only; omega, ⟨by dsimp only; omega, by simp only [List.length_append, List.length_cons, List.length_nil]; omega, k, by dsimp only; omega, hA⟩, Weak.go⟩
  · rcases R with _ | ⟨w, q⟩
    · exact words_bad (by omega) (by rw [← hA, wordsF_q0 (by assumption) (blankB_no (by assumption)) (u8_yes (by assumption)) hR])
    · cases hs
  · rw [wordsF_plain (n := s.size - i) (by assumption) (blankB_no (by assumption)) (u8_no (by assumption)) hr (if_pos (by assumption)), show i + (s.size - i) = s.size from by omega, if_pos hs] at hA
    exact words_bad (by omega) hA.symm
  · rw [wordsF_plain (n := s.size - i) (by assumption) (blankB_no (by assumption)) (u8_no (by assumption)) hr (if_pos (by assumption)), show i + (s.size - i) = s.size from by omega, if_neg (by omega)] at hA
    have hM := map_snoc eStr out (s.extract i s.size)
    conv => whnf
    refine ⟨(s.size, out ++ [s.extract i s.size]), by dsimp only; omega, ⟨by dsimp only; omega, by simp only [List.length_append, List.length_cons, List.length_nil]; omega, k, by dsimp only; omega, hA⟩, Weak.go⟩
  · rw [wordsF_plain (n := r.toNat) (by assumption) (blankB_no (by assumption)) (u8_no (by assumption)) hr (if_neg (by omega)), if_pos hs] at hA
    exact words_bad (by omega) hA.symm
  · have hq' : Lib.indexAny (s.extract i (i + r.toNat)).data.toList [34, 10] < 0 := hs
    rw [wordsF_plain (n := r.toNat) (by assumption) (blankB_no (by assumption)) (u8_no (by assumption)) hr (if_neg (by omega)), if_neg (by omega)] at hA
    have hM := map_snoc eStr out (s.extract i (i + r.toNat))
    have hr0 : r ≠ 0 := by
      rintro rfl
      obtain ⟨t, ht⟩ := ext_head (s := s) (i := i) (by assumption)
      rw [ht] at hr
      exact indexAny_pos (by have := blankB_no (s := s) (i := i) (by assumption); simp only [blankB, Bool.or_eq_false_iff, beq_eq_false_iff_ne] at this; simp only [List.contains_cons, List.contains_nil, Bool.or_false, Bool.or_eq_false_iff, beq_eq_false_iff_ne]; exact ⟨fun e => this.1 (by rw [e]; rfl), fun e => this.2 (by rw [e]; rfl)⟩) hr
    conv => whnf
    refine ⟨(i + r.toNat, out ++ [s.extract i (i + r.toNat)]), by dsimp only; omega, ⟨by dsimp only; omega, by simp only [List.length_append, List.length_cons, List.length_nil]; omega, k, by dsimp only; omega, hA⟩, Weak.go⟩
  · rw [wordsF, if_neg hs] at hA
    exact words_good (by omega) hA.symm
end Go.Proofs.YtepdiooaoegpfaaGreatDoor.Fx
end
section
/- A copying command is read. Conditions: those in each statement. -/
namespace Go.Proofs.YtepdiooaoegpfaaGreatDoor.Fx
open Go Go.Proofs Go.Ev Go.RowKit
set_option maxRecDepth 100000
set_option maxHeartbeats 1600000
set_option linter.unusedSimpArgs false
set_option linter.unusedVariables false
abbrev eC (op : Int) (dst : ByteArray) (src words : List ByteArray) (st : Int) : AV := .agg [i64 op, str dst, eS src, eS words, i64 st]
abbrev copyW : ByteArray := ⟨#[99, 111, 112, 121]⟩
abbrev heads1 : List ByteArray := [copyW, ⟨#[99, 111, 110, 99, 97, 116]⟩, ⟨#[101, 99, 104, 111, 45, 116, 111]⟩, ⟨#[116, 111, 117, 99, 104]⟩, ⟨#[114, 101, 109, 111, 118, 101]⟩, ⟨#[116, 101, 115, 116, 45, 101, 120, 105, 115, 116, 115]⟩, ⟨#[102, 97, 105, 108]⟩, ⟨#[115, 97, 121]⟩]
theorem c_heads : XPure Tryz.prog 88 [] (eS (⟨#[]⟩ :: heads1)) false := by
  refine XPure.body ⟨_, Tryz.func88, rfl, by kernel_rfl⟩ Tryz.func88 rfl (Nat.le_of_ble_eq_true (by rfl)) (pf_of1 rfl) fun env => ?_
  repeat' ((conv => whnf); (fail_if_success (with_reducible show ∃ _, _ ∧ _ ∧ Weak _ _ _)); first | ((with_reducible show guardA _ _ _ _ _ _ ∨ _); first | (refine .inr ?_; (conv => whnf); refine ⟨_, ?_, fun h => rfl, rfl, ?_⟩; ((conv => whnf); first | exact trivial | (refine ⟨?_, trivial⟩; exact okG))) | (refine .inr ?_; (conv => whnf); refine ⟨_, trivial, fun h => ⟨?_, ?_, ?_, rfl⟩, rfl, ?_⟩; (first | exact h | rfl); exact okG; exact okG) | refine .inl ?_) | refine cY ?_ | refine cN ?_ | refine gA ?_ | refine gB ?_ | refine gC ?_ | ((first | refine gsT (fun h => ?_) (fun h => ?_) | refine gsF (fun h => ?_) (fun h => ?_) | refine ⟨fun h => ?_, fun h => ?_⟩) <;> (have hs := h; try simp only [cs, reduceCtorEq, Int.reduceEq, Int.reduceNe, Int.reduceLT, Int.reduceLE, Int.reduceBEq, Int.reduceBNe] at hs)) | ((with_reducible show _ ∧ _ ∧ Weak _ _ _); refine ⟨?_, ?_, Weak.go⟩; (omega)) | ((with_reducible show (_ ∧ _ ∧ _) ∧ _); refine ⟨⟨by kernel_rfl, by kernel_rfl, by rfl⟩, ?_⟩) | ((with_reducible show AV.pf _ = true ∧ _); refine pfA ?_) | (refine ⟨rfl, ?_, ?_, ?_⟩; exact okG; exact okG) | ((with_reducible show (_ ∨ _) ∧ _ ∧ retA _ _ _ _ _); refine ⟨?_, rfl, ?_⟩; (first | exact .inr rfl | exact .inl rfl)) | ((with_reducible show _ = _ ∧ _ = false ∧ _ = _); refine ⟨?_, rfl, rfl⟩; try (first | rfl | (conv => lhs; whnf))) | ((with_reducible show LeqD _ _); try (first | exact okN | (first | rfl | (conv => lhs; whnf))); done) | ((with_reducible show _ = _ ∧ (_ → _)); refine ⟨?_, ?_⟩; try (first | rfl | (conv => lhs; whnf))) | exact fun h => h | exact fun _ => rfl | refine ⟨rfl, ?_⟩ | (refine ⟨Nat.le_of_ble_eq_true rfl, ?_⟩) | (refine ⟨?_, ?_, ?_⟩; exact okS; exact okS) | (refine ⟨?_, ?_⟩; exact okS) | rw [wrapId (by omega) (by omega)] | fail)
theorem leq_cmd {op op' st st' e e' : Int} {d d' : ByteArray} {a a' : List ByteArray} (h1 : op = op') (h2 : d = d') (h3 : a = a') (h4 : st = st') (h5 : e = e') : LeqD (.tup [.agg [i64 op, str d, eS a, nilv, i64 st], i64 e]) (.tup [eC op' d' a' [] st', i64 e']) := by
  subst h1 h2 h3 h4 h5
  repeat' (first | exact LeqD.nil (by decide) | exact LeqD.refl _ | exact LeqDL.refl _ | refine LeqDL.cons ?_ ?_ | refine LeqD.agg ?_ | refine LeqD.tup ?_)
theorem c_Parse_copy {a b : ByteArray} (ha : isName a = true) (hb : isName b = true) : XPure Tryz.prog 67 [eS [copyW, a, b]] (.tup [eC 1 b [a] [] 0, i64 0]) false := by
  have hI : XPure Tryz.prog 68 [eS heads1, str copyW] (i64 0) false := by
    have h := c_Index (l := heads1) (s := copyW) (Nat.le_of_ble_eq_true rfl)
    have e : findN heads1 copyW 0 = 0 := by simp [findN, beqS_self]
    rwa [e] at h
  have hsz : ∀ x : ByteArray, isName x = true → x.size ≤ 140737488355328 := fun x h => by
    unfold isName at h; simp only [Bool.and_eq_true, decide_eq_true_eq] at h; omega
  have hF : XPure Tryz.prog 93 [eS [a, b]] (i64 0) false := by
    have h := c_cmd_files (l := [a, b]) (Nat.le_of_ble_eq_true rfl) (sz2 (hsz a ha) (hsz b hb))
    rwa [show errIf ([a, b].all isName) 3 = 0 from by simp [errIf, ha, hb]] at h
  refine XPure.bodyN ⟨_, Tryz.func67, rfl, by kernel_rfl⟩ Tryz.func67 rfl (Nat.le_of_ble_eq_true (by rfl)) (pf_of1 rfl) fun env => ?_
  repeat' ((conv => whnf); (fail_if_success (with_reducible show LeqD _ _)); (fail_if_success (with_reducible show ∃ _, _ ∧ _ ∧ Weak _ _ _)); first | ((with_reducible show guardA _ _ _ _ _ _ ∨ _); first | (refine .inr ?_; (conv => whnf); refine ⟨_, ?_, fun h => rfl, rfl, ?_⟩; ((conv => whnf); first | exact trivial | (refine ⟨?_, trivial⟩; exact okG))) | (refine .inr ?_; (conv => whnf); refine ⟨_, trivial, fun h => ⟨?_, ?_, ?_, rfl⟩, rfl, ?_⟩; (first | exact h | rfl); exact okG; exact okG) | refine .inl ?_) | refine cY ?_ (by first | (with_reducible first | rfl | assumption) | decide) | refine cN ?_ (by first | (with_reducible first | rfl | assumption) | decide) | refine gA ?_ (by first | (with_reducible first | rfl | assumption) | decide) | refine gB ?_ (by first | (with_reducible first | rfl | assumption) | decide) | refine gC ?_ (by first | (with_reducible first | rfl | assumption) | decide) | ((first | refine gsT (fun h => ?_) (fun h => ?_) | refine gsF (fun h => ?_) (fun h => ?_) | refine ⟨fun h => ?_, fun h => ?_⟩) <;> (have hs := h; try simp only [cs, reduceCtorEq, Int.reduceEq, Int.reduceNe, Int.reduceLT, Int.reduceLE, Int.reduceBEq, Int.reduceBNe] at hs)) | (refine .inl ⟨_, _, c_heads, ?_⟩) | (refine .inl ⟨_, _, hI, ?_⟩) | (refine .inl ⟨_, _, c_CloneS (l := [a, b]) (Nat.le_of_ble_eq_true rfl), ?_⟩) | (refine .inl ⟨_, _, c_cmd_count (by omega), ?_⟩) | (refine .inl ⟨_, _, hF, ?_⟩) | ((with_reducible show _ ∧ _ ∧ Weak _ _ _); refine ⟨?_, ?_, Weak.go⟩; (omega)) | (refine ⟨_, _, c_heads, ?_⟩) | (refine ⟨_, _, hI, ?_⟩) | (refine ⟨_, _, c_CloneS (l := [a, b]) (Nat.le_of_ble_eq_true rfl), ?_⟩) | (refine ⟨_, _, c_cmd_count (by omega), ?_⟩) | (refine ⟨_, _, hF, ?_⟩) | (first | (refine XW.draw (id := 5) (m := 8) (by kernel_rfl) (by kernel_rfl) (by rfl) ?_) | (refine XW.drawW (id := 15) (M := 7) (p := 1) (W := [5, 6]) (by kernel_rfl) (by kernel_rfl) ?_) | ((with_reducible show _ ∧ allW _ _); refine ⟨?_, ?_⟩) | exact trivial) | ((with_reducible show (_ ∧ _ ∧ _) ∧ _); refine ⟨⟨by kernel_rfl, by kernel_rfl, by rfl⟩, ?_⟩) | ((with_reducible show AV.pf _ = true ∧ _); refine pfA ?_) | (refine ⟨rfl, ?_, ?_, ?_⟩; exact okG; exact okG) | ((with_reducible show (_ ∨ _) ∧ _ ∧ retA _ _ _ _ _); refine ⟨?_, rfl, ?_⟩; (first | exact .inr rfl | exact .inl rfl)) | ((with_reducible show _ = _ ∧ _ = false ∧ _ = _); refine ⟨?_, rfl, rfl⟩; try (first | rfl | (conv => lhs; whnf))) | ((with_reducible show _ = _ ∧ (_ → _)); refine ⟨?_, ?_⟩; try (first | rfl | (conv => lhs; whnf))) | exact fun h => h | exact fun _ => rfl | refine ⟨rfl, ?_⟩ | (refine ⟨Nat.le_of_ble_eq_true rfl, ?_⟩) | (refine ⟨?_, ?_, ?_⟩; exact okS; exact okS) | (refine ⟨?_, ?_⟩; exact okS) | rw [wrapId (by omega) (by omega)] | fail)
  all_goals try (exfalso; have hs' := hs; simp [manyOk] at hs'; done)
  conv => whnf
  exact leq_cmd (op := 1) (d := b) (a := [a]) (st := 0) (e := 0) rfl rfl rfl rfl rfl
end Go.Proofs.YtepdiooaoegpfaaGreatDoor.Fx
end
section
/- What words say as a command: the plain answer. Conditions: those in each statement. -/
namespace Go.Proofs.YtepdiooaoegpfaaGreatDoor.Fx
open Go Go.Proofs Go.Ev Go.RowKit
set_option maxRecDepth 100000
set_option maxHeartbeats 1600000
set_option linter.unusedSimpArgs false
set_option linter.unusedVariables false
/-- The number that a numeral says, by the document: 0, if it is none from 1 to 255. -/
def statL : List UInt8 → Int → Nat → Int
  | [], n, _ => if n > 255 then 0 else n
  | c :: t, n, i => if (c.toNat : Int) < 48 ∨ (c.toNat : Int) > 57 ∨ 2 < i ∨ (n = 0 ∧ (c.toNat : Int) = 48) then 0 else statL t (10 * n + ((c.toNat : Int) - 48)) (i + 1)
/-- The same, by Go's library. -/
def failN (s : ByteArray) : Int := match Lib.atoiAll s.data.toList with
  | .ok v => if (⟨(Lib.itoa v).toArray⟩ : ByteArray) = s ∧ 1 ≤ v ∧ v ≤ 255 then v else 0
  | _ => 0
/-- The digits of a small number. -/
def dl (v : Nat) : List UInt8 := if v < 10 then [UInt8.ofNat (48 + v)] else if v < 100 then [UInt8.ofNat (48 + v / 10), UInt8.ofNat (48 + v % 10)] else [UInt8.ofNat (48 + v / 100), UInt8.ofNat (48 + v / 10 % 10), UInt8.ofNat (48 + v % 10)]
theorem itoa_dl (v : Nat) (h : v < 1000) : Lib.itoa (v : Int) = dl v := by
  rw [Lib.itoa_nonneg]
  unfold dl
  split
  · rename_i h1; exact Lib.decDigits_one h1
  · rename_i h1
    split
    · rename_i h2; exact Lib.decDigits_two h1 h2
    · rename_i h2
      rw [Lib.decDigits, dif_neg h1, Lib.decDigits_two (by omega) (by omega)]
      rw [Nat.div_div_eq_div_mul]
      rfl
theorem stat_dl : ∀ v : Nat, v < 256 → 1 ≤ v → statL (dl v) 0 0 = (v : Int) := by decide +kernel
theorem atoi_dl : ∀ v : Nat, v < 256 → 1 ≤ v → (match Lib.atoiAll (dl v) with | .ok u => u == (v : Int) | _ => false) = true := by decide +kernel
theorem atoi_dl' (v : Nat) (h : v < 256) (h1 : 1 ≤ v) : Lib.atoiAll (dl v) = .ok (v : Int) := by
  have := atoi_dl v h h1
  revert this
  cases Lib.atoiAll (dl v) with
  | ok u => intro e; rw [beq_iff_eq.1 e]
  | _ => intro e; cases e
theorem failN_ok {s : ByteArray} {v : Int} (hv : Lib.atoiAll s.data.toList = .ok v) : failN s = if (⟨(Lib.itoa v).toArray⟩ : ByteArray) = s ∧ 1 ≤ v ∧ v ≤ 255 then v else 0 := by
  unfold failN
  rw [hv]
theorem failN_err {s : ByteArray} (hv : ∀ v, Lib.atoiAll s.data.toList ≠ .ok v) : failN s = 0 := by
  unfold failN
  split
  · rename_i v hv'; exact absurd hv' (hv v)
  · rfl
theorem failN_dl (v : Nat) (h : v < 256) (h1 : 1 ≤ v) : failN ⟨(dl v).toArray⟩ = (v : Int) := by
  rw [failN_ok (v := (v : Int)) (by simpa using atoi_dl' v h h1), itoa_dl v (by omega), if_pos ⟨rfl, by omega, by omega⟩]
theorem fail_stat (s : ByteArray) (h : failN s ≠ 0) : ∃ v : Nat, v < 256 ∧ 1 ≤ v ∧ s = ⟨(dl v).toArray⟩ := by
  unfold failN at h
  split at h
  · rename_i v hv
    split at h
    · rename_i hq
      obtain ⟨n, rfl⟩ : ∃ n : Nat, v = (n : Int) := ⟨v.toNat, by omega⟩
      exact ⟨n, by omega, by omega, by rw [← hq.1, itoa_dl n (by omega)]⟩
    · exact absurd rfl h
  · exact absurd rfl h
theorem u8_of (c : UInt8) (n : Nat) (h : c.toNat = 48 + n) (hn : n < 10) : c = UInt8.ofNat (48 + n) := by
  apply UInt8.toNat_inj.1
  rw [UInt8.toNat_ofNat']
  omega
/-- What the document's reading answers: 0, or a number whose digits the text is. -/
theorem statL_any (l : List UInt8) : statL l 0 0 = 0 ∨ ∃ v : Nat, statL l 0 0 = (v : Int) ∧ v < 256 ∧ 1 ≤ v ∧ l = dl v := by
  match l with
  | [] => exact .inl rfl
  | a :: t =>
    rw [statL]
    split
    · exact .inl rfl
    · rename_i ha
      obtain ⟨x, hx⟩ : ∃ x : Nat, a.toNat = 48 + x := ⟨a.toNat - 48, by omega⟩
      have ea := u8_of a x hx (by omega)
      match t with
      | [] =>
        rw [statL, if_neg (by omega)]
        exact .inr ⟨x, by omega, by omega, by omega, by unfold dl; rw [if_pos (by omega), ea]⟩
      | b :: t =>
        rw [statL]
        split
        · exact .inl rfl
        · rename_i hb
          obtain ⟨y, hy⟩ : ∃ y : Nat, b.toNat = 48 + y := ⟨b.toNat - 48, by omega⟩
          have eb := u8_of b y hy (by omega)
          match t with
          | [] =>
            rw [statL, if_neg (by omega)]
            exact .inr ⟨10 * x + y, by omega, by omega, by omega, by unfold dl; rw [if_neg (by omega), if_pos (by omega), show (10 * x + y) / 10 = x by omega, show (10 * x + y) % 10 = y by omega, ea, eb]⟩
          | c :: t =>
            rw [statL]
            split
            · exact .inl rfl
            · rename_i hc
              obtain ⟨z, hz⟩ : ∃ z : Nat, c.toNat = 48 + z := ⟨c.toNat - 48, by omega⟩
              have ec := u8_of c z hz (by omega)
              match t with
              | [] =>
                rw [statL]
                split
                · exact .inl rfl
                · exact .inr ⟨100 * x + 10 * y + z, by omega, by omega, by omega, by unfold dl; rw [if_neg (by omega), if_neg (by omega), show (100 * x + 10 * y + z) / 100 = x by omega, show (100 * x + 10 * y + z) / 10 % 10 = y by omega, show (100 * x + 10 * y + z) % 10 = z by omega, ea, eb, ec]⟩
              | d :: t => rw [statL, if_pos (.inr (.inr (.inl (by omega))))]; exact .inl rfl
theorem stat_fail (s : ByteArray) : statL s.data.toList 0 0 = failN s := by
  rcases statL_any s.data.toList with h | ⟨v, h, h1, h2, e⟩
  · by_cases hf : failN s = 0
    · rw [h, hf]
    · obtain ⟨n, h1, h2, rfl⟩ := fail_stat s hf
      have := stat_dl n h1 h2
      rw [show (⟨(dl n).toArray⟩ : ByteArray).data.toList = dl n by simp] at h
      omega
  · have : s = ⟨(dl v).toArray⟩ := ByteArray.ext (Array.ext' (by simpa using e))
    rw [h, this, failN_dl v h1 h2]

structure Cm where
  op : Int
  dst : ByteArray
  src : List ByteArray
  words : List ByteArray
  st : Int
abbrev Cm.av (c : Cm) : AV := eC c.op c.dst c.src c.words c.st
def Cm.zero : Cm := ⟨0, .empty, [], [], 0⟩
/-- The command of an operation and its operands, of which there may be so many. -/
def cmOf (op : Int) (l : List ByteArray) : Cm :=
  if op = 1 then ⟨1, l.getD 1 .empty, l.take 1, [], 0⟩
  else if op = 2 then ⟨2, l.getD 0 .empty, l.drop 1, [], 0⟩
  else if op = 3 then ⟨3, l.getD 0 .empty, [], l.drop 1, 0⟩
  else if op = 4 then ⟨4, l.getD 0 .empty, [], [], 0⟩
  else if op = 5 then ⟨5, l.getD 0 .empty, [], [], 0⟩
  else if op = 6 then ⟨6, .empty, l, [], 0⟩
  else if op = 7 then ⟨7, .empty, [], [], if l.length = 1 then failN (l.getD 0 .empty) else 1⟩
  else ⟨8, .empty, [], l, 0⟩
def cmFiles (c : Cm) : Bool := (!(decide (1 ≤ c.op) && decide (c.op ≤ 5)) || isName c.dst) && c.src.all isName
@[irreducible] def parseE (ws : List ByteArray) : Int :=
  if 514 < ws.length then 2 else match ws with
  | [] => 9
  | w :: l => if manyOk (opFrom w 1 8) l.length = false then 160 else if opFrom w 1 8 = 7 ∧ (cmOf 7 l).st = 0 then 160 else if cmFiles (cmOf (opFrom w 1 8) l) = true then 0 else 3
@[irreducible] def parseC (ws : List ByteArray) : Cm := if parseE ws = 0 then cmOf (opFrom (ws.headD .empty) 1 8) ws.tail else Cm.zero
theorem parseE_of {w : ByteArray} {l : List ByteArray} {op : Int} (hl : l.length ≤ 513) (ho : opFrom w 1 8 = op) : parseE (w :: l) = if manyOk op l.length = false then 160 else if op = 7 ∧ (cmOf 7 l).st = 0 then 160 else if cmFiles (cmOf op l) = true then 0 else 3 := by
  unfold parseE
  rw [if_neg (by simp only [List.length_cons]; omega)]
  dsimp only
  rw [ho]
theorem opFrom_cases (w : ByteArray) : opFrom w 1 8 = 0 ∨ opFrom w 1 8 = 1 ∨ opFrom w 1 8 = 2 ∨ opFrom w 1 8 = 3 ∨ opFrom w 1 8 = 4 ∨ opFrom w 1 8 = 5 ∨ opFrom w 1 8 = 6 ∨ opFrom w 1 8 = 7 ∨ opFrom w 1 8 = 8 := by
  simp only [opFrom]
  repeat' (first | (split; (simp; done)) | (simp; done) | split)
theorem find_op (w : ByteArray) : findN heads1 w 0 + 1 = opFrom w 1 8 := by
  have e1 : opFrom w 1 8 = if beqS (heads1.getD 0 .empty) w = true then 1 else if beqS (heads1.getD 1 .empty) w = true then 2 else if beqS (heads1.getD 2 .empty) w = true then 3 else if beqS (heads1.getD 3 .empty) w = true then 4 else if beqS (heads1.getD 4 .empty) w = true then 5 else if beqS (heads1.getD 5 .empty) w = true then 6 else if beqS (heads1.getD 6 .empty) w = true then 7 else if beqS (heads1.getD 7 .empty) w = true then 8 else 0 := rfl
  have e2 : findN heads1 w 0 = if beqS w (heads1.getD 0 .empty) = true then 0 else if beqS w (heads1.getD 1 .empty) = true then 1 else if beqS w (heads1.getD 2 .empty) = true then 2 else if beqS w (heads1.getD 3 .empty) = true then 3 else if beqS w (heads1.getD 4 .empty) = true then 4 else if beqS w (heads1.getD 5 .empty) = true then 5 else if beqS w (heads1.getD 6 .empty) = true then 6 else if beqS w (heads1.getD 7 .empty) = true then 7 else -1 := rfl
  rw [e1, e2]
  rw [beqS_comm w (heads1.getD 0 .empty)]
  rw [beqS_comm w (heads1.getD 1 .empty)]
  rw [beqS_comm w (heads1.getD 2 .empty)]
  rw [beqS_comm w (heads1.getD 3 .empty)]
  rw [beqS_comm w (heads1.getD 4 .empty)]
  rw [beqS_comm w (heads1.getD 5 .empty)]
  rw [beqS_comm w (heads1.getD 6 .empty)]
  rw [beqS_comm w (heads1.getD 7 .empty)]
  repeat' (first | rfl | split)
/-- A fault's answer. -/
theorem parse_bad {ws : List ByteArray} {e : Int} (h : parseE ws = e) (he : e ≠ 0) : LeqD (.tup [.agg [i64 0, str ⟨#[]⟩, nilv, nilv, i64 0], i64 e]) (.tup [(parseC ws).av, i64 (parseE ws)]) := by
  have : parseC ws = Cm.zero := by unfold parseC; rw [if_neg (by rw [h]; exact he)]
  rw [this, h]
  repeat' (first | exact LeqD.nil (by decide) | exact LeqD.refl _ | exact LeqDL.refl _ | refine LeqDL.cons ?_ ?_ | refine LeqD.agg ?_ | refine LeqD.tup ?_)
/-- A command's answer. -/
theorem parse_good {ws : List ByteArray} {c : Cm} {s1 s2 : AV} (h : parseE ws = 0) (hc : parseC ws = c) (h1 : LeqD s1 (eS c.src)) (h2 : LeqD s2 (eS c.words)) : LeqD (.tup [.agg [i64 c.op, str c.dst, s1, s2, i64 c.st], i64 0]) (.tup [(parseC ws).av, i64 (parseE ws)]) := by
  rw [h, hc]
  exact LeqD.tup (LeqDL.cons (LeqD.agg (LeqDL.cons (LeqD.refl _) (LeqDL.cons (LeqD.refl _) (LeqDL.cons h1 (LeqDL.cons h2 (LeqDL.refl _)))))) (LeqDL.refl _))
theorem parseC_of {w : ByteArray} {l : List ByteArray} {op : Int} (ho : opFrom w 1 8 = op) (h : parseE (w :: l) = 0) : parseC (w :: l) = cmOf op l := by
  unfold parseC
  rw [if_pos h]; simp [ho]
end Go.Proofs.YtepdiooaoegpfaaGreatDoor.Fx
end
section
/- Right commands: what is told of them, what they read and write. Conditions: those in each statement. -/
namespace Go.Proofs.YtepdiooaoegpfaaGreatDoor.Fx
open Go Go.Proofs Go.Ev Go.RowKit
set_option maxRecDepth 100000
set_option maxHeartbeats 1600000
set_option linter.unusedSimpArgs false
set_option linter.unusedVariables false
/-- Right commands. -/
inductive Kind : Cm → Prop
  | copy {a b : ByteArray} (ha : isName a = true) (hb : isName b = true) : Kind ⟨1, b, [a], [], 0⟩
  | concat {d : ByteArray} {l : List ByteArray} (hd : isName d = true) (h1 : 1 ≤ l.length) (h2 : l.length ≤ 64) (hl : l.all isName = true) : Kind ⟨2, d, l, [], 0⟩
  | echo {d : ByteArray} {w : List ByteArray} (hd : isName d = true) (hw : w.length ≤ 512) : Kind ⟨3, d, [], w, 0⟩
  | touch {d : ByteArray} (hd : isName d = true) : Kind ⟨4, d, [], [], 0⟩
  | remove {d : ByteArray} (hd : isName d = true) : Kind ⟨5, d, [], [], 0⟩
  | test {s : ByteArray} (hs : isName s = true) : Kind ⟨6, ⟨#[]⟩, [s], [], 0⟩
  | fail {n : Int} (h1 : 1 ≤ n) (h2 : n ≤ 255) : Kind ⟨7, ⟨#[]⟩, [], [], n⟩
  | say {w : List ByteArray} (hw : w.length ≤ 512) : Kind ⟨8, ⟨#[]⟩, [], w, 0⟩
theorem name_size {x : ByteArray} (h : isName x = true) : x.size ≤ 140737488355328 := by
  unfold isName at h; simp only [Bool.and_eq_true, decide_eq_true_eq] at h; omega
theorem names_size {l : List ByteArray} (h : l.all isName = true) (i : Nat) (hi : i < l.length) : (l.getD i .empty).size ≤ 140737488355328 := by
  rw [List.getD_eq_getElem?_getD, List.getElem?_eq_getElem hi]
  exact name_size (List.all_eq_true.1 h _ (List.getElem_mem hi))
theorem c_joining_right {d : ByteArray} {l : List ByteArray} (hd : isName d = true) (h1 : 1 ≤ l.length) (h2 : l.length ≤ 64) (hl : l.all isName = true) : XPure Tryz.prog 176 [.agg [str d, eS l]] (i64 0) false := by
  have hA : XPure Tryz.prog 93 [eS [d]] (i64 0) false := by
    have h := c_cmd_files (l := [d]) (Nat.le_of_ble_eq_true rfl) (sz1 (name_size hd))
    rwa [show errIf ([d].all isName) 3 = 0 from by simp [errIf, hd]] at h
  have hB : XPure Tryz.prog 93 [eS l] (i64 0) false := by
    have h := c_cmd_files (l := l) (by omega) (names_size hl)
    rwa [hl] at h
  have hF : XPure Tryz.prog 181 [.sl 1 ([0, 0].map i64)] (i64 0) false := c_cmd_first (l := [0, 0]) (Nat.le_of_ble_eq_true rfl)
  refine XPure.body ⟨_, Tryz.func176, rfl, by kernel_rfl⟩ Tryz.func176 rfl (Nat.le_of_ble_eq_true (by rfl)) (pf_of1 rfl) fun env => ?_
  repeat' ((conv => whnf); (fail_if_success (with_reducible show ∃ _, _ ∧ _ ∧ Weak _ _ _)); first | ((with_reducible show guardA _ _ _ _ _ _ ∨ _); first | (refine .inr ?_; (conv => whnf); refine ⟨_, ?_, fun h => rfl, rfl, ?_⟩; ((conv => whnf); first | exact trivial | (refine ⟨?_, trivial⟩; exact okG))) | (refine .inr ?_; (conv => whnf); refine ⟨_, trivial, fun h => ⟨?_, ?_, ?_, rfl⟩, rfl, ?_⟩; (first | exact h | rfl); exact okG; exact okG) | refine .inl ?_) | refine cY ?_ | refine cN ?_ | refine gA ?_ | refine gB ?_ | refine gC ?_ | ((first | refine gsT (fun h => ?_) (fun h => ?_) | refine gsF (fun h => ?_) (fun h => ?_) | refine ⟨fun h => ?_, fun h => ?_⟩) <;> (have hs := h; try simp only [cs, reduceCtorEq, Int.reduceEq, Int.reduceNe, Int.reduceLT, Int.reduceLE, Int.reduceBEq, Int.reduceBNe] at hs)) | (refine .inl ⟨_, _, hA, ?_⟩) | (refine .inl ⟨_, _, hB, ?_⟩) | (refine .inl ⟨_, _, hF, ?_⟩) | ((with_reducible show _ ∧ _ ∧ Weak _ _ _); refine ⟨?_, ?_, Weak.go⟩; (omega)) | refine XW.dr (m := 9) ?_ | (refine ⟨_, _, hA, ?_⟩) | (refine ⟨_, _, hB, ?_⟩) | (refine ⟨_, _, hF, ?_⟩) | ((with_reducible show (_ ∧ _ ∧ _) ∧ _); refine ⟨⟨by kernel_rfl, by kernel_rfl, by rfl⟩, ?_⟩) | ((with_reducible show AV.pf _ = true ∧ _); refine pfA ?_) | (refine ⟨rfl, ?_, ?_, ?_⟩; exact okG; exact okG) | ((with_reducible show (_ ∨ _) ∧ _ ∧ retA _ _ _ _ _); refine ⟨?_, rfl, ?_⟩; (first | exact .inr rfl | exact .inl rfl)) | ((with_reducible show _ = _ ∧ _ = false ∧ _ = _); refine ⟨?_, rfl, rfl⟩; try (first | rfl | (conv => lhs; whnf))) | ((with_reducible show LeqD _ _); try (first | exact okN | (first | rfl | (conv => lhs; whnf))); done) | ((with_reducible show _ = _ ∧ (_ → _)); refine ⟨?_, ?_⟩; try (first | rfl | (conv => lhs; whnf))) | exact fun h => h | exact fun _ => rfl | refine ⟨rfl, ?_⟩ | (refine ⟨Nat.le_of_ble_eq_true rfl, ?_⟩) | (refine ⟨?_, ?_, ?_⟩; exact okS; exact okS) | (refine ⟨?_, ?_⟩; exact okS) | rw [wrapId (by omega) (by omega)] | fail)
  all_goals omega
theorem c_echoing_right {d : ByteArray} {w : List ByteArray} (hd : isName d = true) (hw : w.length ≤ 512) : XPure Tryz.prog 183 [.agg [str d, eS w]] (i64 0) false := by
  have hA : XPure Tryz.prog 93 [eS [d]] (i64 0) false := by
    have h := c_cmd_files (l := [d]) (Nat.le_of_ble_eq_true rfl) (sz1 (name_size hd))
    rwa [show errIf ([d].all isName) 3 = 0 from by simp [errIf, hd]] at h
  have hB : XPure Tryz.prog 187 [eS w] (i64 0) false := by
    have h := c_cmd_few (l := w)
    rwa [if_neg (by omega)] at h
  have hF : XPure Tryz.prog 181 [.sl 1 ([0, 0].map i64)] (i64 0) false := c_cmd_first (l := [0, 0]) (Nat.le_of_ble_eq_true rfl)
  refine XPure.body ⟨_, Tryz.func183, rfl, by kernel_rfl⟩ Tryz.func183 rfl (Nat.le_of_ble_eq_true (by rfl)) (pf_of1 rfl) fun env => ?_
  repeat' ((conv => whnf); (fail_if_success (with_reducible show ∃ _, _ ∧ _ ∧ Weak _ _ _)); first | ((with_reducible show guardA _ _ _ _ _ _ ∨ _); first | (refine .inr ?_; (conv => whnf); refine ⟨_, ?_, fun h => rfl, rfl, ?_⟩; ((conv => whnf); first | exact trivial | (refine ⟨?_, trivial⟩; exact okG))) | (refine .inr ?_; (conv => whnf); refine ⟨_, trivial, fun h => ⟨?_, ?_, ?_, rfl⟩, rfl, ?_⟩; (first | exact h | rfl); exact okG; exact okG) | refine .inl ?_) | refine cY ?_ | refine cN ?_ | refine gA ?_ | refine gB ?_ | refine gC ?_ | ((first | refine gsT (fun h => ?_) (fun h => ?_) | refine gsF (fun h => ?_) (fun h => ?_) | refine ⟨fun h => ?_, fun h => ?_⟩) <;> (have hs := h; try simp only [cs, reduceCtorEq, Int.reduceEq, Int.reduceNe, Int.reduceLT, Int.reduceLE, Int.reduceBEq, Int.reduceBNe] at hs)) | (refine .inl ⟨_, _, hA, ?_⟩) | (refine .inl ⟨_, _, hB, ?_⟩) | (refine .inl ⟨_, _, hF, ?_⟩) | ((with_reducible show _ ∧ _ ∧ Weak _ _ _); refine ⟨?_, ?_, Weak.go⟩; (omega)) | refine XW.dr (m := 9) ?_ | (refine ⟨_, _, hA, ?_⟩) | (refine ⟨_, _, hB, ?_⟩) | (refine ⟨_, _, hF, ?_⟩) | ((with_reducible show (_ ∧ _ ∧ _) ∧ _); refine ⟨⟨by kernel_rfl, by kernel_rfl, by rfl⟩, ?_⟩) | ((with_reducible show AV.pf _ = true ∧ _); refine pfA ?_) | (refine ⟨rfl, ?_, ?_, ?_⟩; exact okG; exact okG) | ((with_reducible show (_ ∨ _) ∧ _ ∧ retA _ _ _ _ _); refine ⟨?_, rfl, ?_⟩; (first | exact .inr rfl | exact .inl rfl)) | ((with_reducible show _ = _ ∧ _ = false ∧ _ = _); refine ⟨?_, rfl, rfl⟩; try (first | rfl | (conv => lhs; whnf))) | ((with_reducible show LeqD _ _); try (first | exact okN | (first | rfl | (conv => lhs; whnf))); done) | ((with_reducible show _ = _ ∧ (_ → _)); refine ⟨?_, ?_⟩; try (first | rfl | (conv => lhs; whnf))) | exact fun h => h | exact fun _ => rfl | refine ⟨rfl, ?_⟩ | (refine ⟨Nat.le_of_ble_eq_true rfl, ?_⟩) | (refine ⟨?_, ?_, ?_⟩; exact okS; exact okS) | (refine ⟨?_, ?_⟩; exact okS) | rw [wrapId (by omega) (by omega)] | fail)
end Go.Proofs.YtepdiooaoegpfaaGreatDoor.Fx
end
section
/- The document's reading of words as a command. Conditions: those in each statement. -/
namespace Go.Proofs.YtepdiooaoegpfaaGreatDoor.Fx
open Go Go.Proofs Go.Ev Go.RowKit
set_option maxRecDepth 100000
set_option maxHeartbeats 1600000
set_option linter.unusedSimpArgs false
set_option linter.unusedVariables false
theorem statL_step {s : ByteArray} {n : Int} {i : Nat} (hi : i < s.size) : statL (s.data.toList.drop i) n i = if ((byteAt s i).toNat : Int) < 48 ∨ ((byteAt s i).toNat : Int) > 57 ∨ 2 < i ∨ (n = 0 ∧ ((byteAt s i).toNat : Int) = 48) then 0 else statL (s.data.toList.drop (i + 1)) (10 * n + (((byteAt s i).toNat : Int) - 48)) (i + 1) := by
  rw [drop_byte hi, statL]
theorem wrap8 {x : Int} (h0 : 0 ≤ x) (h1 : x < 256) : IntKind.u8.wrap x = x := by
  have : IntKind.u8.wrap x = x % 256 := rfl
  omega
theorem c_ref16_status {s : ByteArray} (hs : s.size ≤ 140737488355328) : XPure Tryz.prog 104 [str s] (i64 (failN s)) false := by
  rw [← stat_fail]
  refine XPure.body ⟨_, Tryz.func104, rfl, by kernel_rfl⟩ Tryz.func104 rfl (Nat.le_of_ble_eq_true (by rfl)) (pf_of1 rfl) fun env => ?_
  repeat' ((conv => whnf); (fail_if_success (with_reducible show ∃ _, _ ∧ _ ∧ Weak _ _ _)); first | ((with_reducible show guardA _ _ _ _ _ _ ∨ _); first | (refine .inr ?_; (conv => whnf); refine ⟨_, ?_, fun h => rfl, rfl, ?_⟩; ((conv => whnf); first | exact trivial | (refine ⟨?_, trivial⟩; exact okG))) | (refine .inr ?_; (conv => whnf); refine ⟨_, trivial, fun h => ⟨?_, ?_, ?_, rfl⟩, rfl, ?_⟩; (first | exact h | rfl); exact okG; exact okG) | refine .inl ?_) | refine cY ?_ | refine cN ?_ | refine gA ?_ | refine gB ?_ | refine gC ?_ | ((first | refine gsT (fun h => ?_) (fun h => ?_) | refine gsF (fun h => ?_) (fun h => ?_) | refine ⟨fun h => ?_, fun h => ?_⟩) <;> (have hs := h; try simp only [cs, reduceCtorEq, Int.reduceEq, Int.reduceNe, Int.reduceLT, Int.reduceLE, Int.reduceBEq, Int.reduceBNe] at hs)) | ((with_reducible show _ ∧ _ ∧ Weak _ _ _); refine ⟨?_, ?_, Weak.go⟩; (omega)) | ((with_reducible show (_ ∧ _ ∧ _) ∧ _); refine ⟨⟨by kernel_rfl, by kernel_rfl, by rfl⟩, ?_⟩) | ((with_reducible show AV.pf _ = true ∧ _); refine pfA ?_) | (refine ⟨rfl, ?_, ?_, ?_⟩; exact okG; exact okG) | ((with_reducible show (_ ∨ _) ∧ _ ∧ retA _ _ _ _ _); refine ⟨?_, rfl, ?_⟩; (first | exact .inr rfl | exact .inl rfl)) | ((with_reducible show _ = _ ∧ _ = false ∧ _ = _); refine ⟨?_, rfl, rfl⟩; try (first | rfl | (conv => lhs; whnf))) | ((with_reducible show LeqD _ _); try (first | exact okN | (first | rfl | (conv => lhs; whnf))); done) | ((with_reducible show _ = _ ∧ (_ → _)); refine ⟨?_, ?_⟩; try (first | rfl | (conv => lhs; whnf))) | exact fun h => h | exact fun _ => rfl | refine ⟨rfl, ?_⟩ | (refine ⟨Nat.le_of_ble_eq_true rfl, ?_⟩) | (refine ⟨?_, ?_, ?_⟩; exact okS; exact okS) | (refine ⟨?_, ?_⟩; exact okS) | rw [wrapId (by omega) (by omega)] | fail)
  refine XW.overL [0] (fun (p : Nat × Nat) => [(3, i64 p.2), (4, i64 p.1)]) (fun _ => []) (fun _ => []) (fun p => p.1 ≤ s.size ∧ p.1 ≤ 3 ∧ (p.1 = 0 → p.2 = 0) ∧ (p.1 = 1 → p.2 ≤ 9) ∧ (p.1 = 2 → p.2 ≤ 99) ∧ p.2 ≤ 999 ∧ statL (s.data.toList.drop p.1) p.2 p.1 = statL s.data.toList 0 0) (fun p => s.size - p.1) (0, 0) Weak.go ⟨Nat.zero_le _, by decide, fun _ => rfl, (by intro h; cases h), (by intro h; cases h), by decide, rfl⟩ ?_
  rintro ⟨i, n⟩ ⟨hi, h3, q0, q1, q2, q3, hA⟩
  dsimp only at hi h3 q0 q1 q2 q3 hA ⊢
  refine codeS ?_
  repeat' ((conv => whnf); (fail_if_success (with_reducible show ∃ _, _ ∧ _ ∧ Weak _ _ _)); first | ((with_reducible show guardA _ _ _ _ _ _ ∨ _); first | (refine .inr ?_; (conv => whnf); refine ⟨_, ?_, fun h => rfl, rfl, ?_⟩; ((conv => whnf); first | exact trivial | (refine ⟨?_, trivial⟩; exact okG))) | (refine .inr ?_; (conv => whnf); refine ⟨_, trivial, fun h => ⟨?_, ?_, ?_, rfl⟩, rfl, ?_⟩; (first | exact h | rfl); exact okG; exact okG) | refine .inl ?_) | refine cY ?_ | refine cN ?_ | refine gA ?_ | refine gB ?_ | refine gC ?_ | ((first | refine gsT (fun h => ?_) (fun h => ?_) | refine gsF (fun h => ?_) (fun h => ?_) | refine ⟨fun h => ?_, fun h => ?_⟩) <;> (have hs := h; try simp only [cs, reduceCtorEq, Int.reduceEq, Int.reduceNe, Int.reduceLT, Int.reduceLE, Int.reduceBEq, Int.reduceBNe] at hs)) | ((with_reducible show _ ∧ _ ∧ Weak _ _ _); refine ⟨?_, ?_, Weak.go⟩; (omega)) | ((with_reducible show (_ ∧ _ ∧ _) ∧ _); refine ⟨⟨by kernel_rfl, by kernel_rfl, by rfl⟩, ?_⟩) | ((with_reducible show AV.pf _ = true ∧ _); refine pfA ?_) | (refine ⟨rfl, ?_, ?_, ?_⟩; exact okG; exact okG) | ((with_reducible show (_ ∨ _) ∧ _ ∧ retA _ _ _ _ _); refine ⟨?_, rfl, ?_⟩; (first | exact .inr rfl | exact .inl rfl)) | ((with_reducible show _ = _ ∧ _ = false ∧ _ = _); refine ⟨?_, rfl, rfl⟩; try (first | rfl | (conv => lhs; whnf))) | ((with_reducible show LeqD _ _); try (first | exact okN | (first | rfl | (conv => lhs; whnf))); done) | ((with_reducible show _ = _ ∧ (_ → _)); refine ⟨?_, ?_⟩; try (first | rfl | (conv => lhs; whnf))) | exact fun h => h | exact fun _ => rfl | refine ⟨rfl, ?_⟩ | (refine ⟨Nat.le_of_ble_eq_true rfl, ?_⟩) | (refine ⟨?_, ?_, ?_⟩; exact okS; exact okS) | (refine ⟨?_, ?_⟩; exact okS) | fail)
  · rw [← hA, statL_step (by assumption), if_pos (by omega)]
  · rw [statL_step (by assumption), if_neg (by omega)] at hA
    conv => whnf
    rw [Int.toNat_natCast, wrap8 (by omega) (by omega), wrapId (x := ((byteAt s i).toNat : Int) - 48) (by omega) (by omega), wrapId (x := 10 * (n : Int)) (by omega) (by omega)]
    refine ⟨(i + 1, 10 * n + ((byteAt s i).toNat - 48)), by dsimp only; omega, ⟨by dsimp only; omega, by dsimp only; omega, by dsimp only; omega, by dsimp only; omega, by dsimp only; omega, by dsimp only; omega, ?_⟩, Weak.go⟩
    dsimp only
    rw [← hA]; congr 1; omega
  · rw [← hA, statL_step (by assumption), if_pos (by omega)]
  · rw [statL_step (by assumption), if_neg (by omega)] at hA
    conv => whnf
    rw [Int.toNat_natCast, wrap8 (by omega) (by omega), wrapId (x := ((byteAt s i).toNat : Int) - 48) (by omega) (by omega), wrapId (x := 10 * (n : Int)) (by omega) (by omega)]
    refine ⟨(i + 1, 10 * n + ((byteAt s i).toNat - 48)), by dsimp only; omega, ⟨by dsimp only; omega, by dsimp only; omega, by dsimp only; omega, by dsimp only; omega, by dsimp only; omega, by dsimp only; omega, ?_⟩, Weak.go⟩
    dsimp only
    rw [← hA]; congr 1; omega
  · rw [← hA, statL_step (by assumption), if_pos (by omega)]
  · rw [← hA, statL_step (by assumption), if_pos (by omega)]
  · rw [← hA, drop_end (by assumption), statL, if_pos (by omega)]
  · rw [← hA, drop_end (by assumption), statL, if_neg (by omega)]
theorem c_op {w : ByteArray} {op : Int} (ho : opFrom w 1 8 = op) : XPure Tryz.prog 102 [str w] (i64 op) false := ho ▸ c_ref16_op
theorem c_many {op n : Int} {b : Bool} (h : manyOk op n = b) : XPure Tryz.prog 103 [i64 op, i64 n] (bln b) false := h ▸ c_ref16_many
theorem c_filesN {op st : Int} {dst : ByteArray} {src words : List ByteArray} {sa wa : AV} (hd : dst.size ≤ 140737488355328) (hl : src.length ≤ 1000000000) (hz : ∀ i, i < src.length → (src.getD i .empty).size ≤ 140737488355328) (h1 : LeqD sa (eS src)) (h2 : LeqD wa (eS words)) :
    XPure Tryz.prog 105 [.agg [i64 op, str dst, sa, wa, i64 st]] (bln (cmFiles ⟨op, dst, src, words, st⟩)) false :=
  (c_ref16_files (words := words) (st := st) hd hl hz).nils (LeqDL.cons (LeqD.agg (LeqDL.cons (LeqD.refl _) (LeqDL.cons (LeqD.refl _) (LeqDL.cons h1 (LeqDL.cons h2 (LeqDL.refl _)))))) (LeqDL.refl _))
theorem szE : ∀ i, i < ([] : List ByteArray).length → (([] : List ByteArray).getD i .empty).size ≤ 140737488355328 := fun i h => absurd h (by simp)
theorem parseE_k {w : ByteArray} {l : List ByteArray} {op : Int} (hl : l.length ≤ 513) (ho : opFrom w 1 8 = op) (hm : manyOk op l.length = true) (h7 : op ≠ 7) : parseE (w :: l) = if cmFiles (cmOf op l) = true then 0 else 3 := by
  rw [parseE_of hl ho, if_neg (by rw [hm]; simp), if_neg (fun h => h7 h.1)]
theorem parseE_7 {w : ByteArray} {l : List ByteArray} (hl : l.length ≤ 513) (ho : opFrom w 1 8 = 7) (hm : manyOk 7 l.length = true) : parseE (w :: l) = if (cmOf 7 l).st = 0 then 160 else 0 := by
  rw [parseE_of hl ho, if_neg (by rw [hm]; simp)]
  by_cases h : (cmOf 7 l).st = 0
  · rw [if_pos ⟨rfl, h⟩, if_pos h]
  · rw [if_neg (fun q => h q.2), if_neg h]; rfl
theorem leq_sl {k : Nat} {l l' : List AV} (h : l = l') : LeqD (.sl k l) (.sl k l') := h ▸ LeqD.refl _
theorem okL {P : Prop} (h : P := by first | exact okN | ((conv => arg 1; whnf); refine leq_sl ?_; simp [List.take_take, List.take_of_length_le]; first | done | fail)) : P := h
theorem rP_bad {w : ByteArray} {l : List ByteArray} {op : Int} (hl : l.length ≤ 513) (ho : opFrom w 1 8 = op) (hm : manyOk op l.length = false) : XPure Tryz.prog 79 [eS (w :: l)] (.tup [(parseC (w :: l)).av, i64 (parseE (w :: l))]) false := by
  have hE : parseE (w :: l) = 160 := by rw [parseE_of hl ho, if_pos hm]
  refine XPure.bodyN ⟨_, Tryz.func79, rfl, by kernel_rfl⟩ Tryz.func79 rfl (Nat.le_of_ble_eq_true (by rfl)) (pf_of1 rfl) fun env => ?_
  repeat' ((conv => whnf); (fail_if_success (with_reducible show LeqD _ _)); (fail_if_success (with_reducible show ∃ _, _ ∧ _ ∧ Weak _ _ _)); first | ((with_reducible show guardA _ _ _ _ _ _ ∨ _); first | (refine .inr ?_; (conv => whnf); refine ⟨_, ?_, fun h => rfl, rfl, ?_⟩; ((conv => whnf); first | exact trivial | (refine ⟨?_, trivial⟩; exact okG))) | (refine .inr ?_; (conv => whnf); refine ⟨_, trivial, fun h => ⟨?_, ?_, ?_, rfl⟩, rfl, ?_⟩; (first | exact h | rfl); exact okG; exact okG) | refine .inl ?_) | refine cY ?_ (by first | (with_reducible first | rfl | assumption) | decide) | refine cN ?_ (by first | (with_reducible first | rfl | assumption) | decide) | refine gA ?_ (by first | (with_reducible first | rfl | assumption) | decide) | refine gB ?_ (by first | (with_reducible first | rfl | assumption) | decide) | refine gC ?_ (by first | (with_reducible first | rfl | assumption) | decide) | ((first | refine gsT (fun h => ?_) (fun h => ?_) | refine gsF (fun h => ?_) (fun h => ?_) | refine ⟨fun h => ?_, fun h => ?_⟩) <;> (have hs := h; try simp only [cs, reduceCtorEq, Int.reduceEq, Int.reduceNe, Int.reduceLT, Int.reduceLE, Int.reduceBEq, Int.reduceBNe] at hs)) | (refine .inl ⟨_, _, c_op ho, ?_⟩) | (refine .inl ⟨_, _, c_many (op := op) (b := false) (by rw [← hm]; congr 1; simp), ?_⟩) | ((with_reducible show _ ∧ _ ∧ Weak _ _ _); refine ⟨?_, ?_, Weak.go⟩; (omega)) | (refine ⟨_, _, c_op ho, ?_⟩) | (refine ⟨_, _, c_many (op := op) (b := false) (by rw [← hm]; congr 1; simp), ?_⟩) | ((fail_if_success (with_reducible show (∃ _ _, XPure _ _ _ _ _ ∧ _) ∨ _)); refine .inl ?_) | ((with_reducible show (_ ∧ _ ∧ _) ∧ _); refine ⟨⟨by kernel_rfl, by kernel_rfl, by rfl⟩, ?_⟩) | ((with_reducible show AV.pf _ = true ∧ _); refine pfA ?_) | (refine ⟨rfl, ?_, ?_, ?_⟩; exact okG; exact okG) | ((with_reducible show (_ ∨ _) ∧ _ ∧ retA _ _ _ _ _); refine ⟨?_, rfl, ?_⟩; (first | exact .inr rfl | exact .inl rfl)) | ((with_reducible show _ = _ ∧ _ = false ∧ _ = _); refine ⟨?_, rfl, rfl⟩; try (first | rfl | (conv => lhs; whnf))) | ((with_reducible show _ = _ ∧ (_ → _)); refine ⟨?_, ?_⟩; try (first | rfl | (conv => lhs; whnf))) | exact fun h => h | exact fun _ => rfl | refine ⟨rfl, ?_⟩ | (refine ⟨Nat.le_of_ble_eq_true rfl, ?_⟩) | (refine ⟨?_, ?_, ?_⟩; exact okS; exact okS) | (refine ⟨?_, ?_⟩; exact okS) | fail)
  · exfalso; simp only [List.length_cons] at hs; omega
  · exfalso; simp only [List.length_cons] at hs; omega
  · exact parse_bad hE (by decide)
theorem rP_1 {w a b : ByteArray} (ho : opFrom w 1 8 = 1) (ha : a.size ≤ 140737488355328) (hb : b.size ≤ 140737488355328) : XPure Tryz.prog 79 [eS (w :: [a, b])] (.tup [(parseC (w :: [a, b])).av, i64 (parseE (w :: [a, b]))]) false := by
  have hE := parseE_k (w := w) (l := [a, b]) (Nat.le_of_ble_eq_true rfl) ho rfl (by decide)
  refine XPure.bodyN ⟨_, Tryz.func79, rfl, by kernel_rfl⟩ Tryz.func79 rfl (Nat.le_of_ble_eq_true (by rfl)) (pf_of1 rfl) fun env => ?_
  repeat' ((conv => whnf); (fail_if_success (with_reducible show LeqD _ _)); (fail_if_success (with_reducible show ∃ _, _ ∧ _ ∧ Weak _ _ _)); first | ((with_reducible show guardA _ _ _ _ _ _ ∨ _); first | (refine .inr ?_; (conv => whnf); refine ⟨_, ?_, fun h => rfl, rfl, ?_⟩; ((conv => whnf); first | exact trivial | (refine ⟨?_, trivial⟩; exact okG))) | (refine .inr ?_; (conv => whnf); refine ⟨_, trivial, fun h => ⟨?_, ?_, ?_, rfl⟩, rfl, ?_⟩; (first | exact h | rfl); exact okG; exact okG) | refine .inl ?_) | refine cY ?_ (by first | (with_reducible first | rfl | assumption) | decide) | refine cN ?_ (by first | (with_reducible first | rfl | assumption) | decide) | refine gA ?_ (by first | (with_reducible first | rfl | assumption) | decide) | refine gB ?_ (by first | (with_reducible first | rfl | assumption) | decide) | refine gC ?_ (by first | (with_reducible first | rfl | assumption) | decide) | ((first | refine gsT (fun h => ?_) (fun h => ?_) | refine gsF (fun h => ?_) (fun h => ?_) | refine ⟨fun h => ?_, fun h => ?_⟩) <;> (have hs := h; try simp only [cs, reduceCtorEq, Int.reduceEq, Int.reduceNe, Int.reduceLT, Int.reduceLE, Int.reduceBEq, Int.reduceBNe] at hs)) | (refine .inl ⟨_, _, c_op ho, ?_⟩) | (refine .inl ⟨_, _, c_many (op := 1) (b := true) (rfl), ?_⟩) | (refine .inl ⟨_, _, c_filesN (op := 1) (st := 0) (src := [a]) (words := []) hb (Nat.le_of_ble_eq_true rfl) (sz1 ha) okL okL, ?_⟩) | ((with_reducible show _ ∧ _ ∧ Weak _ _ _); refine ⟨?_, ?_, Weak.go⟩; (omega)) | (refine ⟨_, _, c_op ho, ?_⟩) | (refine ⟨_, _, c_many (op := 1) (b := true) (rfl), ?_⟩) | (refine ⟨_, _, c_filesN (op := 1) (st := 0) (src := [a]) (words := []) hb (Nat.le_of_ble_eq_true rfl) (sz1 ha) okL okL, ?_⟩) | ((fail_if_success (with_reducible show (∃ _ _, XPure _ _ _ _ _ ∧ _) ∨ _)); refine .inl ?_) | ((with_reducible show (_ ∧ _ ∧ _) ∧ _); refine ⟨⟨by kernel_rfl, by kernel_rfl, by rfl⟩, ?_⟩) | ((with_reducible show AV.pf _ = true ∧ _); refine pfA ?_) | (refine ⟨rfl, ?_, ?_, ?_⟩; exact okG; exact okG) | ((with_reducible show (_ ∨ _) ∧ _ ∧ retA _ _ _ _ _); refine ⟨?_, rfl, ?_⟩; (first | exact .inr rfl | exact .inl rfl)) | ((with_reducible show _ = _ ∧ _ = false ∧ _ = _); refine ⟨?_, rfl, rfl⟩; try (first | rfl | (conv => lhs; whnf))) | ((with_reducible show _ = _ ∧ (_ → _)); refine ⟨?_, ?_⟩; try (first | rfl | (conv => lhs; whnf))) | exact fun h => h | exact fun _ => rfl | refine ⟨rfl, ?_⟩ | (refine ⟨Nat.le_of_ble_eq_true rfl, ?_⟩) | (refine ⟨?_, ?_, ?_⟩; exact okS; exact okS) | (refine ⟨?_, ?_⟩; exact okS) | fail)
  all_goals try (exfalso; simp only [List.length_cons, List.length_nil, List.length_append, List.length_map, List.length_drop, List.length_take] at hs; omega)
  · exact parse_bad (hE.trans (if_neg (by rw [show cmFiles (cmOf 1 [a, b]) = false from hs]; simp))) (by decide)
  · have h0 := hE.trans (if_pos (show cmFiles (cmOf 1 [a, b]) = true from hs))
    exact parse_good (c := ⟨1, b, [a], [], 0⟩) h0 (parseC_of ho h0) okL okL
theorem rP_2 {w d : ByteArray} {src : List ByteArray} (ho : opFrom w 1 8 = 2) (h1 : 1 ≤ src.length) (h2 : src.length ≤ 64) (hd : d.size ≤ 140737488355328) (hz : ∀ i, i < src.length → (src.getD i .empty).size ≤ 140737488355328) : XPure Tryz.prog 79 [eS (w :: d :: src)] (.tup [(parseC (w :: d :: src)).av, i64 (parseE (w :: d :: src))]) false := by
  have hE := parseE_k (w := w) (l := (d :: src)) (by simp only [List.length_cons]; omega) ho (by simp [manyOk]; omega) (by decide)
  refine XPure.bodyN ⟨_, Tryz.func79, rfl, by kernel_rfl⟩ Tryz.func79 rfl (Nat.le_of_ble_eq_true (by rfl)) (pf_of1 rfl) fun env => ?_
  repeat' ((conv => whnf); (fail_if_success (with_reducible show LeqD _ _)); (fail_if_success (with_reducible show ∃ _, _ ∧ _ ∧ Weak _ _ _)); first | ((with_reducible show guardA _ _ _ _ _ _ ∨ _); first | (refine .inr ?_; (conv => whnf); refine ⟨_, ?_, fun h => rfl, rfl, ?_⟩; ((conv => whnf); first | exact trivial | (refine ⟨?_, trivial⟩; exact okG))) | (refine .inr ?_; (conv => whnf); refine ⟨_, trivial, fun h => ⟨?_, ?_, ?_, rfl⟩, rfl, ?_⟩; (first | exact h | rfl); exact okG; exact okG) | refine .inl ?_) | refine cY ?_ (by first | (with_reducible first | rfl | assumption) | decide) | refine cN ?_ (by first | (with_reducible first | rfl | assumption) | decide) | refine gA ?_ (by first | (with_reducible first | rfl | assumption) | decide) | refine gB ?_ (by first | (with_reducible first | rfl | assumption) | decide) | refine gC ?_ (by first | (with_reducible first | rfl | assumption) | decide) | ((first | refine gsT (fun h => ?_) (fun h => ?_) | refine gsF (fun h => ?_) (fun h => ?_) | refine ⟨fun h => ?_, fun h => ?_⟩) <;> (have hs := h; try simp only [cs, reduceCtorEq, Int.reduceEq, Int.reduceNe, Int.reduceLT, Int.reduceLE, Int.reduceBEq, Int.reduceBNe] at hs)) | (refine .inl ⟨_, _, c_op ho, ?_⟩) | (refine .inl ⟨_, _, c_many (op := 2) (b := true) (by simp [manyOk]; omega), ?_⟩) | (refine .inl ⟨_, _, c_filesN (op := 2) (st := 0) (src := src) (words := []) hd (by omega) (hz) okL okL, ?_⟩) | ((with_reducible show _ ∧ _ ∧ Weak _ _ _); refine ⟨?_, ?_, Weak.go⟩; (omega)) | (refine ⟨_, _, c_op ho, ?_⟩) | (refine ⟨_, _, c_many (op := 2) (b := true) (by simp [manyOk]; omega), ?_⟩) | (refine ⟨_, _, c_filesN (op := 2) (st := 0) (src := src) (words := []) hd (by omega) (hz) okL okL, ?_⟩) | ((fail_if_success (with_reducible show (∃ _ _, XPure _ _ _ _ _ ∧ _) ∨ _)); refine .inl ?_) | ((with_reducible show (_ ∧ _ ∧ _) ∧ _); refine ⟨⟨by kernel_rfl, by kernel_rfl, by rfl⟩, ?_⟩) | ((with_reducible show AV.pf _ = true ∧ _); refine pfA ?_) | (refine ⟨rfl, ?_, ?_, ?_⟩; exact okG; exact okG) | ((with_reducible show (_ ∨ _) ∧ _ ∧ retA _ _ _ _ _); refine ⟨?_, rfl, ?_⟩; (first | exact .inr rfl | exact .inl rfl)) | ((with_reducible show _ = _ ∧ _ = false ∧ _ = _); refine ⟨?_, rfl, rfl⟩; try (first | rfl | (conv => lhs; whnf))) | ((with_reducible show _ = _ ∧ (_ → _)); refine ⟨?_, ?_⟩; try (first | rfl | (conv => lhs; whnf))) | exact fun h => h | exact fun _ => rfl | refine ⟨rfl, ?_⟩ | (refine ⟨Nat.le_of_ble_eq_true rfl, ?_⟩) | (refine ⟨?_, ?_, ?_⟩; exact okS; exact okS) | (refine ⟨?_, ?_⟩; exact okS) | fail)
  all_goals try (exfalso; simp only [List.length_cons, List.length_nil, List.length_append, List.length_map, List.length_drop, List.length_take] at hs; omega)
  · exact parse_bad (hE.trans (if_neg (by rw [show cmFiles (cmOf 2 (d :: src)) = false from hs]; simp))) (by decide)
  · have h0 := hE.trans (if_pos (show cmFiles (cmOf 2 (d :: src)) = true from hs))
    exact parse_good (c := ⟨2, d, src, [], 0⟩) h0 (parseC_of ho h0) okL okL
theorem rP_3 {w d : ByteArray} {ws : List ByteArray} (ho : opFrom w 1 8 = 3) (h2 : ws.length ≤ 512) (hd : d.size ≤ 140737488355328) : XPure Tryz.prog 79 [eS (w :: d :: ws)] (.tup [(parseC (w :: d :: ws)).av, i64 (parseE (w :: d :: ws))]) false := by
  have hE := parseE_k (w := w) (l := (d :: ws)) (by simp only [List.length_cons]; omega) ho (by simp [manyOk]; omega) (by decide)
  refine XPure.bodyN ⟨_, Tryz.func79, rfl, by kernel_rfl⟩ Tryz.func79 rfl (Nat.le_of_ble_eq_true (by rfl)) (pf_of1 rfl) fun env => ?_
  repeat' ((conv => whnf); (fail_if_success (with_reducible show LeqD _ _)); (fail_if_success (with_reducible show ∃ _, _ ∧ _ ∧ Weak _ _ _)); first | ((with_reducible show guardA _ _ _ _ _ _ ∨ _); first | (refine .inr ?_; (conv => whnf); refine ⟨_, ?_, fun h => rfl, rfl, ?_⟩; ((conv => whnf); first | exact trivial | (refine ⟨?_, trivial⟩; exact okG))) | (refine .inr ?_; (conv => whnf); refine ⟨_, trivial, fun h => ⟨?_, ?_, ?_, rfl⟩, rfl, ?_⟩; (first | exact h | rfl); exact okG; exact okG) | refine .inl ?_) | refine cY ?_ (by first | (with_reducible first | rfl | assumption) | decide) | refine cN ?_ (by first | (with_reducible first | rfl | assumption) | decide) | refine gA ?_ (by first | (with_reducible first | rfl | assumption) | decide) | refine gB ?_ (by first | (with_reducible first | rfl | assumption) | decide) | refine gC ?_ (by first | (with_reducible first | rfl | assumption) | decide) | ((first | refine gsT (fun h => ?_) (fun h => ?_) | refine gsF (fun h => ?_) (fun h => ?_) | refine ⟨fun h => ?_, fun h => ?_⟩) <;> (have hs := h; try simp only [cs, reduceCtorEq, Int.reduceEq, Int.reduceNe, Int.reduceLT, Int.reduceLE, Int.reduceBEq, Int.reduceBNe] at hs)) | (refine .inl ⟨_, _, c_op ho, ?_⟩) | (refine .inl ⟨_, _, c_many (op := 3) (b := true) (by simp [manyOk]; omega), ?_⟩) | (refine .inl ⟨_, _, c_filesN (op := 3) (st := 0) (src := []) (words := ws) hd (Nat.le_of_ble_eq_true rfl) (szE) okL okL, ?_⟩) | ((with_reducible show _ ∧ _ ∧ Weak _ _ _); refine ⟨?_, ?_, Weak.go⟩; (omega)) | (refine ⟨_, _, c_op ho, ?_⟩) | (refine ⟨_, _, c_many (op := 3) (b := true) (by simp [manyOk]; omega), ?_⟩) | (refine ⟨_, _, c_filesN (op := 3) (st := 0) (src := []) (words := ws) hd (Nat.le_of_ble_eq_true rfl) (szE) okL okL, ?_⟩) | ((fail_if_success (with_reducible show (∃ _ _, XPure _ _ _ _ _ ∧ _) ∨ _)); refine .inl ?_) | ((with_reducible show (_ ∧ _ ∧ _) ∧ _); refine ⟨⟨by kernel_rfl, by kernel_rfl, by rfl⟩, ?_⟩) | ((with_reducible show AV.pf _ = true ∧ _); refine pfA ?_) | (refine ⟨rfl, ?_, ?_, ?_⟩; exact okG; exact okG) | ((with_reducible show (_ ∨ _) ∧ _ ∧ retA _ _ _ _ _); refine ⟨?_, rfl, ?_⟩; (first | exact .inr rfl | exact .inl rfl)) | ((with_reducible show _ = _ ∧ _ = false ∧ _ = _); refine ⟨?_, rfl, rfl⟩; try (first | rfl | (conv => lhs; whnf))) | ((with_reducible show _ = _ ∧ (_ → _)); refine ⟨?_, ?_⟩; try (first | rfl | (conv => lhs; whnf))) | exact fun h => h | exact fun _ => rfl | refine ⟨rfl, ?_⟩ | (refine ⟨Nat.le_of_ble_eq_true rfl, ?_⟩) | (refine ⟨?_, ?_, ?_⟩; exact okS; exact okS) | (refine ⟨?_, ?_⟩; exact okS) | fail)
  all_goals try (exfalso; simp only [List.length_cons, List.length_nil, List.length_append, List.length_map, List.length_drop, List.length_take] at hs; omega)
  · exact parse_bad (hE.trans (if_neg (by rw [show cmFiles (cmOf 3 (d :: ws)) = false from hs]; simp))) (by decide)
  · have h0 := hE.trans (if_pos (show cmFiles (cmOf 3 (d :: ws)) = true from hs))
    exact parse_good (c := ⟨3, d, [], ws, 0⟩) h0 (parseC_of ho h0) okL okL
theorem rP_4 {w d : ByteArray} (ho : opFrom w 1 8 = 4) (hd : d.size ≤ 140737488355328) : XPure Tryz.prog 79 [eS (w :: [d])] (.tup [(parseC (w :: [d])).av, i64 (parseE (w :: [d]))]) false := by
  have hE := parseE_k (w := w) (l := [d]) (Nat.le_of_ble_eq_true rfl) ho rfl (by decide)
  refine XPure.bodyN ⟨_, Tryz.func79, rfl, by kernel_rfl⟩ Tryz.func79 rfl (Nat.le_of_ble_eq_true (by rfl)) (pf_of1 rfl) fun env => ?_
  repeat' ((conv => whnf); (fail_if_success (with_reducible show LeqD _ _)); (fail_if_success (with_reducible show ∃ _, _ ∧ _ ∧ Weak _ _ _)); first | ((with_reducible show guardA _ _ _ _ _ _ ∨ _); first | (refine .inr ?_; (conv => whnf); refine ⟨_, ?_, fun h => rfl, rfl, ?_⟩; ((conv => whnf); first | exact trivial | (refine ⟨?_, trivial⟩; exact okG))) | (refine .inr ?_; (conv => whnf); refine ⟨_, trivial, fun h => ⟨?_, ?_, ?_, rfl⟩, rfl, ?_⟩; (first | exact h | rfl); exact okG; exact okG) | refine .inl ?_) | refine cY ?_ (by first | (with_reducible first | rfl | assumption) | decide) | refine cN ?_ (by first | (with_reducible first | rfl | assumption) | decide) | refine gA ?_ (by first | (with_reducible first | rfl | assumption) | decide) | refine gB ?_ (by first | (with_reducible first | rfl | assumption) | decide) | refine gC ?_ (by first | (with_reducible first | rfl | assumption) | decide) | ((first | refine gsT (fun h => ?_) (fun h => ?_) | refine gsF (fun h => ?_) (fun h => ?_) | refine ⟨fun h => ?_, fun h => ?_⟩) <;> (have hs := h; try simp only [cs, reduceCtorEq, Int.reduceEq, Int.reduceNe, Int.reduceLT, Int.reduceLE, Int.reduceBEq, Int.reduceBNe] at hs)) | (refine .inl ⟨_, _, c_op ho, ?_⟩) | (refine .inl ⟨_, _, c_many (op := 4) (b := true) (rfl), ?_⟩) | (refine .inl ⟨_, _, c_filesN (op := 4) (st := 0) (src := []) (words := []) hd (Nat.le_of_ble_eq_true rfl) (szE) okL okL, ?_⟩) | ((with_reducible show _ ∧ _ ∧ Weak _ _ _); refine ⟨?_, ?_, Weak.go⟩; (omega)) | (refine ⟨_, _, c_op ho, ?_⟩) | (refine ⟨_, _, c_many (op := 4) (b := true) (rfl), ?_⟩) | (refine ⟨_, _, c_filesN (op := 4) (st := 0) (src := []) (words := []) hd (Nat.le_of_ble_eq_true rfl) (szE) okL okL, ?_⟩) | ((fail_if_success (with_reducible show (∃ _ _, XPure _ _ _ _ _ ∧ _) ∨ _)); refine .inl ?_) | ((with_reducible show (_ ∧ _ ∧ _) ∧ _); refine ⟨⟨by kernel_rfl, by kernel_rfl, by rfl⟩, ?_⟩) | ((with_reducible show AV.pf _ = true ∧ _); refine pfA ?_) | (refine ⟨rfl, ?_, ?_, ?_⟩; exact okG; exact okG) | ((with_reducible show (_ ∨ _) ∧ _ ∧ retA _ _ _ _ _); refine ⟨?_, rfl, ?_⟩; (first | exact .inr rfl | exact .inl rfl)) | ((with_reducible show _ = _ ∧ _ = false ∧ _ = _); refine ⟨?_, rfl, rfl⟩; try (first | rfl | (conv => lhs; whnf))) | ((with_reducible show _ = _ ∧ (_ → _)); refine ⟨?_, ?_⟩; try (first | rfl | (conv => lhs; whnf))) | exact fun h => h | exact fun _ => rfl | refine ⟨rfl, ?_⟩ | (refine ⟨Nat.le_of_ble_eq_true rfl, ?_⟩) | (refine ⟨?_, ?_, ?_⟩; exact okS; exact okS) | (refine ⟨?_, ?_⟩; exact okS) | fail)
  all_goals try (exfalso; simp only [List.length_cons, List.length_nil, List.length_append, List.length_map, List.length_drop, List.length_take] at hs; omega)
  · exact parse_bad (hE.trans (if_neg (by rw [show cmFiles (cmOf 4 [d]) = false from hs]; simp))) (by decide)
  · have h0 := hE.trans (if_pos (show cmFiles (cmOf 4 [d]) = true from hs))
    exact parse_good (c := ⟨4, d, [], [], 0⟩) h0 (parseC_of ho h0) okL okL
theorem rP_5 {w d : ByteArray} (ho : opFrom w 1 8 = 5) (hd : d.size ≤ 140737488355328) : XPure Tryz.prog 79 [eS (w :: [d])] (.tup [(parseC (w :: [d])).av, i64 (parseE (w :: [d]))]) false := by
  have hE := parseE_k (w := w) (l := [d]) (Nat.le_of_ble_eq_true rfl) ho rfl (by decide)
  refine XPure.bodyN ⟨_, Tryz.func79, rfl, by kernel_rfl⟩ Tryz.func79 rfl (Nat.le_of_ble_eq_true (by rfl)) (pf_of1 rfl) fun env => ?_
  repeat' ((conv => whnf); (fail_if_success (with_reducible show LeqD _ _)); (fail_if_success (with_reducible show ∃ _, _ ∧ _ ∧ Weak _ _ _)); first | ((with_reducible show guardA _ _ _ _ _ _ ∨ _); first | (refine .inr ?_; (conv => whnf); refine ⟨_, ?_, fun h => rfl, rfl, ?_⟩; ((conv => whnf); first | exact trivial | (refine ⟨?_, trivial⟩; exact okG))) | (refine .inr ?_; (conv => whnf); refine ⟨_, trivial, fun h => ⟨?_, ?_, ?_, rfl⟩, rfl, ?_⟩; (first | exact h | rfl); exact okG; exact okG) | refine .inl ?_) | refine cY ?_ (by first | (with_reducible first | rfl | assumption) | decide) | refine cN ?_ (by first | (with_reducible first | rfl | assumption) | decide) | refine gA ?_ (by first | (with_reducible first | rfl | assumption) | decide) | refine gB ?_ (by first | (with_reducible first | rfl | assumption) | decide) | refine gC ?_ (by first | (with_reducible first | rfl | assumption) | decide) | ((first | refine gsT (fun h => ?_) (fun h => ?_) | refine gsF (fun h => ?_) (fun h => ?_) | refine ⟨fun h => ?_, fun h => ?_⟩) <;> (have hs := h; try simp only [cs, reduceCtorEq, Int.reduceEq, Int.reduceNe, Int.reduceLT, Int.reduceLE, Int.reduceBEq, Int.reduceBNe] at hs)) | (refine .inl ⟨_, _, c_op ho, ?_⟩) | (refine .inl ⟨_, _, c_many (op := 5) (b := true) (rfl), ?_⟩) | (refine .inl ⟨_, _, c_filesN (op := 5) (st := 0) (src := []) (words := []) hd (Nat.le_of_ble_eq_true rfl) (szE) okL okL, ?_⟩) | ((with_reducible show _ ∧ _ ∧ Weak _ _ _); refine ⟨?_, ?_, Weak.go⟩; (omega)) | (refine ⟨_, _, c_op ho, ?_⟩) | (refine ⟨_, _, c_many (op := 5) (b := true) (rfl), ?_⟩) | (refine ⟨_, _, c_filesN (op := 5) (st := 0) (src := []) (words := []) hd (Nat.le_of_ble_eq_true rfl) (szE) okL okL, ?_⟩) | ((fail_if_success (with_reducible show (∃ _ _, XPure _ _ _ _ _ ∧ _) ∨ _)); refine .inl ?_) | ((with_reducible show (_ ∧ _ ∧ _) ∧ _); refine ⟨⟨by kernel_rfl, by kernel_rfl, by rfl⟩, ?_⟩) | ((with_reducible show AV.pf _ = true ∧ _); refine pfA ?_) | (refine ⟨rfl, ?_, ?_, ?_⟩; exact okG; exact okG) | ((with_reducible show (_ ∨ _) ∧ _ ∧ retA _ _ _ _ _); refine ⟨?_, rfl, ?_⟩; (first | exact .inr rfl | exact .inl rfl)) | ((with_reducible show _ = _ ∧ _ = false ∧ _ = _); refine ⟨?_, rfl, rfl⟩; try (first | rfl | (conv => lhs; whnf))) | ((with_reducible show _ = _ ∧ (_ → _)); refine ⟨?_, ?_⟩; try (first | rfl | (conv => lhs; whnf))) | exact fun h => h | exact fun _ => rfl | refine ⟨rfl, ?_⟩ | (refine ⟨Nat.le_of_ble_eq_true rfl, ?_⟩) | (refine ⟨?_, ?_, ?_⟩; exact okS; exact okS) | (refine ⟨?_, ?_⟩; exact okS) | fail)
  all_goals try (exfalso; simp only [List.length_cons, List.length_nil, List.length_append, List.length_map, List.length_drop, List.length_take] at hs; omega)
  · exact parse_bad (hE.trans (if_neg (by rw [show cmFiles (cmOf 5 [d]) = false from hs]; simp))) (by decide)
  · have h0 := hE.trans (if_pos (show cmFiles (cmOf 5 [d]) = true from hs))
    exact parse_good (c := ⟨5, d, [], [], 0⟩) h0 (parseC_of ho h0) okL okL
theorem rP_6 {w s : ByteArray} (ho : opFrom w 1 8 = 6) (hd : s.size ≤ 140737488355328) : XPure Tryz.prog 79 [eS (w :: [s])] (.tup [(parseC (w :: [s])).av, i64 (parseE (w :: [s]))]) false := by
  have hE := parseE_k (w := w) (l := [s]) (Nat.le_of_ble_eq_true rfl) ho rfl (by decide)
  refine XPure.bodyN ⟨_, Tryz.func79, rfl, by kernel_rfl⟩ Tryz.func79 rfl (Nat.le_of_ble_eq_true (by rfl)) (pf_of1 rfl) fun env => ?_
  repeat' ((conv => whnf); (fail_if_success (with_reducible show LeqD _ _)); (fail_if_success (with_reducible show ∃ _, _ ∧ _ ∧ Weak _ _ _)); first | ((with_reducible show guardA _ _ _ _ _ _ ∨ _); first | (refine .inr ?_; (conv => whnf); refine ⟨_, ?_, fun h => rfl, rfl, ?_⟩; ((conv => whnf); first | exact trivial | (refine ⟨?_, trivial⟩; exact okG))) | (refine .inr ?_; (conv => whnf); refine ⟨_, trivial, fun h => ⟨?_, ?_, ?_, rfl⟩, rfl, ?_⟩; (first | exact h | rfl); exact okG; exact okG) | refine .inl ?_) | refine cY ?_ (by first | (with_reducible first | rfl | assumption) | decide) | refine cN ?_ (by first | (with_reducible first | rfl | assumption) | decide) | refine gA ?_ (by first | (with_reducible first | rfl | assumption) | decide) | refine gB ?_ (by first | (with_reducible first | rfl | assumption) | decide) | refine gC ?_ (by first | (with_reducible first | rfl | assumption) | decide) | ((first | refine gsT (fun h => ?_) (fun h => ?_) | refine gsF (fun h => ?_) (fun h => ?_) | refine ⟨fun h => ?_, fun h => ?_⟩) <;> (have hs := h; try simp only [cs, reduceCtorEq, Int.reduceEq, Int.reduceNe, Int.reduceLT, Int.reduceLE, Int.reduceBEq, Int.reduceBNe] at hs)) | (refine .inl ⟨_, _, c_op ho, ?_⟩) | (refine .inl ⟨_, _, c_many (op := 6) (b := true) (rfl), ?_⟩) | (refine .inl ⟨_, _, c_filesN (op := 6) (st := 0) (src := [s]) (words := []) (dst := ⟨#[]⟩) (Nat.le_of_ble_eq_true rfl) (Nat.le_of_ble_eq_true rfl) (sz1 hd) okL okL, ?_⟩) | ((with_reducible show _ ∧ _ ∧ Weak _ _ _); refine ⟨?_, ?_, Weak.go⟩; (omega)) | (refine ⟨_, _, c_op ho, ?_⟩) | (refine ⟨_, _, c_many (op := 6) (b := true) (rfl), ?_⟩) | (refine ⟨_, _, c_filesN (op := 6) (st := 0) (src := [s]) (words := []) (dst := ⟨#[]⟩) (Nat.le_of_ble_eq_true rfl) (Nat.le_of_ble_eq_true rfl) (sz1 hd) okL okL, ?_⟩) | ((fail_if_success (with_reducible show (∃ _ _, XPure _ _ _ _ _ ∧ _) ∨ _)); refine .inl ?_) | ((with_reducible show (_ ∧ _ ∧ _) ∧ _); refine ⟨⟨by kernel_rfl, by kernel_rfl, by rfl⟩, ?_⟩) | ((with_reducible show AV.pf _ = true ∧ _); refine pfA ?_) | (refine ⟨rfl, ?_, ?_, ?_⟩; exact okG; exact okG) | ((with_reducible show (_ ∨ _) ∧ _ ∧ retA _ _ _ _ _); refine ⟨?_, rfl, ?_⟩; (first | exact .inr rfl | exact .inl rfl)) | ((with_reducible show _ = _ ∧ _ = false ∧ _ = _); refine ⟨?_, rfl, rfl⟩; try (first | rfl | (conv => lhs; whnf))) | ((with_reducible show _ = _ ∧ (_ → _)); refine ⟨?_, ?_⟩; try (first | rfl | (conv => lhs; whnf))) | exact fun h => h | exact fun _ => rfl | refine ⟨rfl, ?_⟩ | (refine ⟨Nat.le_of_ble_eq_true rfl, ?_⟩) | (refine ⟨?_, ?_, ?_⟩; exact okS; exact okS) | (refine ⟨?_, ?_⟩; exact okS) | fail)
  all_goals try (exfalso; simp only [List.length_cons, List.length_nil, List.length_append, List.length_map, List.length_drop, List.length_take] at hs; omega)
  · exact parse_bad (hE.trans (if_neg (by rw [show cmFiles (cmOf 6 [s]) = false from hs]; simp))) (by decide)
  · have h0 := hE.trans (if_pos (show cmFiles (cmOf 6 [s]) = true from hs))
    exact parse_good (c := ⟨6, ⟨#[]⟩, [s], [], 0⟩) h0 (parseC_of ho h0) okL okL
theorem rP_8 {w : ByteArray} {ws : List ByteArray} (ho : opFrom w 1 8 = 8) (h2 : ws.length ≤ 512) : XPure Tryz.prog 79 [eS (w :: ws)] (.tup [(parseC (w :: ws)).av, i64 (parseE (w :: ws))]) false := by
  have hE := parseE_k (w := w) (l := ws) (by omega) ho (by simp [manyOk]; omega) (by decide)
  refine XPure.bodyN ⟨_, Tryz.func79, rfl, by kernel_rfl⟩ Tryz.func79 rfl (Nat.le_of_ble_eq_true (by rfl)) (pf_of1 rfl) fun env => ?_
  repeat' ((conv => whnf); (fail_if_success (with_reducible show LeqD _ _)); (fail_if_success (with_reducible show ∃ _, _ ∧ _ ∧ Weak _ _ _)); first | ((with_reducible show guardA _ _ _ _ _ _ ∨ _); first | (refine .inr ?_; (conv => whnf); refine ⟨_, ?_, fun h => rfl, rfl, ?_⟩; ((conv => whnf); first | exact trivial | (refine ⟨?_, trivial⟩; exact okG))) | (refine .inr ?_; (conv => whnf); refine ⟨_, trivial, fun h => ⟨?_, ?_, ?_, rfl⟩, rfl, ?_⟩; (first | exact h | rfl); exact okG; exact okG) | refine .inl ?_) | refine cY ?_ (by first | (with_reducible first | rfl | assumption) | decide) | refine cN ?_ (by first | (with_reducible first | rfl | assumption) | decide) | refine gA ?_ (by first | (with_reducible first | rfl | assumption) | decide) | refine gB ?_ (by first | (with_reducible first | rfl | assumption) | decide) | refine gC ?_ (by first | (with_reducible first | rfl | assumption) | decide) | ((first | refine gsT (fun h => ?_) (fun h => ?_) | refine gsF (fun h => ?_) (fun h => ?_) | refine ⟨fun h => ?_, fun h => ?_⟩) <;> (have hs := h; try simp only [cs, reduceCtorEq, Int.reduceEq, Int.reduceNe, Int.reduceLT, Int.reduceLE, Int.reduceBEq, Int.reduceBNe] at hs)) | (refine .inl ⟨_, _, c_op ho, ?_⟩) | (refine .inl ⟨_, _, c_many (op := 8) (b := true) (by simp [manyOk]; omega), ?_⟩) | (refine .inl ⟨_, _, c_filesN (op := 8) (st := 0) (src := []) (words := ws) (dst := ⟨#[]⟩) (Nat.le_of_ble_eq_true rfl) (Nat.le_of_ble_eq_true rfl) (szE) okL okL, ?_⟩) | ((with_reducible show _ ∧ _ ∧ Weak _ _ _); refine ⟨?_, ?_, Weak.go⟩; (omega)) | (refine ⟨_, _, c_op ho, ?_⟩) | (refine ⟨_, _, c_many (op := 8) (b := true) (by simp [manyOk]; omega), ?_⟩) | (refine ⟨_, _, c_filesN (op := 8) (st := 0) (src := []) (words := ws) (dst := ⟨#[]⟩) (Nat.le_of_ble_eq_true rfl) (Nat.le_of_ble_eq_true rfl) (szE) okL okL, ?_⟩) | ((fail_if_success (with_reducible show (∃ _ _, XPure _ _ _ _ _ ∧ _) ∨ _)); refine .inl ?_) | ((with_reducible show (_ ∧ _ ∧ _) ∧ _); refine ⟨⟨by kernel_rfl, by kernel_rfl, by rfl⟩, ?_⟩) | ((with_reducible show AV.pf _ = true ∧ _); refine pfA ?_) | (refine ⟨rfl, ?_, ?_, ?_⟩; exact okG; exact okG) | ((with_reducible show (_ ∨ _) ∧ _ ∧ retA _ _ _ _ _); refine ⟨?_, rfl, ?_⟩; (first | exact .inr rfl | exact .inl rfl)) | ((with_reducible show _ = _ ∧ _ = false ∧ _ = _); refine ⟨?_, rfl, rfl⟩; try (first | rfl | (conv => lhs; whnf))) | ((with_reducible show _ = _ ∧ (_ → _)); refine ⟨?_, ?_⟩; try (first | rfl | (conv => lhs; whnf))) | exact fun h => h | exact fun _ => rfl | refine ⟨rfl, ?_⟩ | (refine ⟨Nat.le_of_ble_eq_true rfl, ?_⟩) | (refine ⟨?_, ?_, ?_⟩; exact okS; exact okS) | (refine ⟨?_, ?_⟩; exact okS) | fail)
  all_goals try (exfalso; simp only [List.length_cons, List.length_nil, List.length_append, List.length_map, List.length_drop, List.length_take] at hs; omega)
  · exact parse_bad (hE.trans (if_neg (by rw [show cmFiles (cmOf 8 ws) = false from hs]; simp))) (by decide)
  · have h0 := hE.trans (if_pos (show cmFiles (cmOf 8 ws) = true from hs))
    exact parse_good (c := ⟨8, ⟨#[]⟩, [], ws, 0⟩) h0 (parseC_of ho h0) okL okL
theorem rP_7a {w : ByteArray} (ho : opFrom w 1 8 = 7) : XPure Tryz.prog 79 [eS [w]] (.tup [(parseC [w]).av, i64 (parseE [w])]) false := by
  have hE := parseE_7 (w := w) (l := []) (Nat.le_of_ble_eq_true rfl) ho rfl
  refine XPure.bodyN ⟨_, Tryz.func79, rfl, by kernel_rfl⟩ Tryz.func79 rfl (Nat.le_of_ble_eq_true (by rfl)) (pf_of1 rfl) fun env => ?_
  repeat' ((conv => whnf); (fail_if_success (with_reducible show LeqD _ _)); (fail_if_success (with_reducible show ∃ _, _ ∧ _ ∧ Weak _ _ _)); first | ((with_reducible show guardA _ _ _ _ _ _ ∨ _); first | (refine .inr ?_; (conv => whnf); refine ⟨_, ?_, fun h => rfl, rfl, ?_⟩; ((conv => whnf); first | exact trivial | (refine ⟨?_, trivial⟩; exact okG))) | (refine .inr ?_; (conv => whnf); refine ⟨_, trivial, fun h => ⟨?_, ?_, ?_, rfl⟩, rfl, ?_⟩; (first | exact h | rfl); exact okG; exact okG) | refine .inl ?_) | refine cY ?_ (by first | (with_reducible first | rfl | assumption) | decide) | refine cN ?_ (by first | (with_reducible first | rfl | assumption) | decide) | refine gA ?_ (by first | (with_reducible first | rfl | assumption) | decide) | refine gB ?_ (by first | (with_reducible first | rfl | assumption) | decide) | refine gC ?_ (by first | (with_reducible first | rfl | assumption) | decide) | ((first | refine gsT (fun h => ?_) (fun h => ?_) | refine gsF (fun h => ?_) (fun h => ?_) | refine ⟨fun h => ?_, fun h => ?_⟩) <;> (have hs := h; try simp only [cs, reduceCtorEq, Int.reduceEq, Int.reduceNe, Int.reduceLT, Int.reduceLE, Int.reduceBEq, Int.reduceBNe] at hs)) | (refine .inl ⟨_, _, c_op ho, ?_⟩) | (refine .inl ⟨_, _, c_many (op := 7) (b := true) (rfl), ?_⟩) | (refine .inl ⟨_, _, c_filesN (op := 7) (st := 1) (src := []) (words := []) (dst := ⟨#[]⟩) (Nat.le_of_ble_eq_true rfl) (Nat.le_of_ble_eq_true rfl) (szE) okL okL, ?_⟩) | ((with_reducible show _ ∧ _ ∧ Weak _ _ _); refine ⟨?_, ?_, Weak.go⟩; (omega)) | (refine ⟨_, _, c_op ho, ?_⟩) | (refine ⟨_, _, c_many (op := 7) (b := true) (rfl), ?_⟩) | (refine ⟨_, _, c_filesN (op := 7) (st := 1) (src := []) (words := []) (dst := ⟨#[]⟩) (Nat.le_of_ble_eq_true rfl) (Nat.le_of_ble_eq_true rfl) (szE) okL okL, ?_⟩) | ((fail_if_success (with_reducible show (∃ _ _, XPure _ _ _ _ _ ∧ _) ∨ _)); refine .inl ?_) | ((with_reducible show (_ ∧ _ ∧ _) ∧ _); refine ⟨⟨by kernel_rfl, by kernel_rfl, by rfl⟩, ?_⟩) | ((with_reducible show AV.pf _ = true ∧ _); refine pfA ?_) | (refine ⟨rfl, ?_, ?_, ?_⟩; exact okG; exact okG) | ((with_reducible show (_ ∨ _) ∧ _ ∧ retA _ _ _ _ _); refine ⟨?_, rfl, ?_⟩; (first | exact .inr rfl | exact .inl rfl)) | ((with_reducible show _ = _ ∧ _ = false ∧ _ = _); refine ⟨?_, rfl, rfl⟩; try (first | rfl | (conv => lhs; whnf))) | ((with_reducible show _ = _ ∧ (_ → _)); refine ⟨?_, ?_⟩; try (first | rfl | (conv => lhs; whnf))) | exact fun h => h | exact fun _ => rfl | refine ⟨rfl, ?_⟩ | (refine ⟨Nat.le_of_ble_eq_true rfl, ?_⟩) | (refine ⟨?_, ?_, ?_⟩; exact okS; exact okS) | (refine ⟨?_, ?_⟩; exact okS) | fail)
  all_goals try (exfalso; simp only [List.length_cons, List.length_nil, List.length_append, List.length_map, List.length_drop, List.length_take] at hs; omega)
  · have h0 : parseE [w] = 0 := hE.trans rfl
    exact parse_good (c := ⟨7, ⟨#[]⟩, [], [], 1⟩) h0 (parseC_of ho h0) okL okL
theorem rP_7b {w s : ByteArray} (ho : opFrom w 1 8 = 7) (hd : s.size ≤ 140737488355328) : XPure Tryz.prog 79 [eS [w, s]] (.tup [(parseC [w, s]).av, i64 (parseE [w, s])]) false := by
  have hE : parseE [w, s] = if failN s = 0 then 160 else 0 := parseE_7 (w := w) (l := [s]) (Nat.le_of_ble_eq_true rfl) ho rfl
  refine XPure.bodyN ⟨_, Tryz.func79, rfl, by kernel_rfl⟩ Tryz.func79 rfl (Nat.le_of_ble_eq_true (by rfl)) (pf_of1 rfl) fun env => ?_
  repeat' ((conv => whnf); (fail_if_success (with_reducible show LeqD _ _)); (fail_if_success (with_reducible show ∃ _, _ ∧ _ ∧ Weak _ _ _)); first | ((with_reducible show guardA _ _ _ _ _ _ ∨ _); first | (refine .inr ?_; (conv => whnf); refine ⟨_, ?_, fun h => rfl, rfl, ?_⟩; ((conv => whnf); first | exact trivial | (refine ⟨?_, trivial⟩; exact okG))) | (refine .inr ?_; (conv => whnf); refine ⟨_, trivial, fun h => ⟨?_, ?_, ?_, rfl⟩, rfl, ?_⟩; (first | exact h | rfl); exact okG; exact okG) | refine .inl ?_) | refine cY ?_ (by first | (with_reducible first | rfl | assumption) | decide) | refine cN ?_ (by first | (with_reducible first | rfl | assumption) | decide) | refine gA ?_ (by first | (with_reducible first | rfl | assumption) | decide) | refine gB ?_ (by first | (with_reducible first | rfl | assumption) | decide) | refine gC ?_ (by first | (with_reducible first | rfl | assumption) | decide) | ((first | refine gsT (fun h => ?_) (fun h => ?_) | refine gsF (fun h => ?_) (fun h => ?_) | refine ⟨fun h => ?_, fun h => ?_⟩) <;> (have hs := h; try simp only [cs, reduceCtorEq, Int.reduceEq, Int.reduceNe, Int.reduceLT, Int.reduceLE, Int.reduceBEq, Int.reduceBNe] at hs)) | (refine .inl ⟨_, _, c_op ho, ?_⟩) | (refine .inl ⟨_, _, c_ref16_status hd, ?_⟩) | (refine .inl ⟨_, _, c_many (op := 7) (b := true) (rfl), ?_⟩) | (refine .inl ⟨_, _, c_filesN (op := 7) (st := failN s) (src := []) (words := []) (dst := ⟨#[]⟩) (Nat.le_of_ble_eq_true rfl) (Nat.le_of_ble_eq_true rfl) (szE) okL okL, ?_⟩) | ((with_reducible show _ ∧ _ ∧ Weak _ _ _); refine ⟨?_, ?_, Weak.go⟩; (omega)) | (refine ⟨_, _, c_op ho, ?_⟩) | (refine ⟨_, _, c_ref16_status hd, ?_⟩) | (refine ⟨_, _, c_many (op := 7) (b := true) (rfl), ?_⟩) | (refine ⟨_, _, c_filesN (op := 7) (st := failN s) (src := []) (words := []) (dst := ⟨#[]⟩) (Nat.le_of_ble_eq_true rfl) (Nat.le_of_ble_eq_true rfl) (szE) okL okL, ?_⟩) | ((fail_if_success (with_reducible show (∃ _ _, XPure _ _ _ _ _ ∧ _) ∨ _)); refine .inl ?_) | ((with_reducible show (_ ∧ _ ∧ _) ∧ _); refine ⟨⟨by kernel_rfl, by kernel_rfl, by rfl⟩, ?_⟩) | ((with_reducible show AV.pf _ = true ∧ _); refine pfA ?_) | (refine ⟨rfl, ?_, ?_, ?_⟩; exact okG; exact okG) | ((with_reducible show (_ ∨ _) ∧ _ ∧ retA _ _ _ _ _); refine ⟨?_, rfl, ?_⟩; (first | exact .inr rfl | exact .inl rfl)) | ((with_reducible show _ = _ ∧ _ = false ∧ _ = _); refine ⟨?_, rfl, rfl⟩; try (first | rfl | (conv => lhs; whnf))) | ((with_reducible show _ = _ ∧ (_ → _)); refine ⟨?_, ?_⟩; try (first | rfl | (conv => lhs; whnf))) | exact fun h => h | exact fun _ => rfl | refine ⟨rfl, ?_⟩ | (refine ⟨Nat.le_of_ble_eq_true rfl, ?_⟩) | (refine ⟨?_, ?_, ?_⟩; exact okS; exact okS) | (refine ⟨?_, ?_⟩; exact okS) | fail)
  all_goals try (exfalso; simp only [List.length_cons, List.length_nil, List.length_append, List.length_map, List.length_drop, List.length_take] at hs; omega)
  · exact parse_bad (hE.trans (if_pos hs)) (by decide)
  · exact absurd (show true = false from hs) (by simp)
  · have h0 := hE.trans (if_neg ‹¬ failN s = 0›)
    exact parse_good (c := ⟨7, ⟨#[]⟩, [], [], failN s⟩) h0 (parseC_of ho h0) okL okL
theorem rP_long {ws : List ByteArray} (h : 514 < ws.length) : XPure Tryz.prog 79 [eS ws] (.tup [(parseC ws).av, i64 (parseE ws)]) false := by
  have hE : parseE ws = 2 := by unfold parseE; rw [if_pos h]
  refine XPure.bodyN ⟨_, Tryz.func79, rfl, by kernel_rfl⟩ Tryz.func79 rfl (Nat.le_of_ble_eq_true (by rfl)) (pf_of1 rfl) fun env => ?_
  repeat' ((conv => whnf); (fail_if_success (with_reducible show LeqD _ _)); (fail_if_success (with_reducible show ∃ _, _ ∧ _ ∧ Weak _ _ _)); first | ((with_reducible show guardA _ _ _ _ _ _ ∨ _); first | (refine .inr ?_; (conv => whnf); refine ⟨_, ?_, fun h => rfl, rfl, ?_⟩; ((conv => whnf); first | exact trivial | (refine ⟨?_, trivial⟩; exact okG))) | (refine .inr ?_; (conv => whnf); refine ⟨_, trivial, fun h => ⟨?_, ?_, ?_, rfl⟩, rfl, ?_⟩; (first | exact h | rfl); exact okG; exact okG) | refine .inl ?_) | refine cY ?_ (by first | (with_reducible first | rfl | assumption) | decide) | refine cN ?_ (by first | (with_reducible first | rfl | assumption) | decide) | refine gA ?_ (by first | (with_reducible first | rfl | assumption) | decide) | refine gB ?_ (by first | (with_reducible first | rfl | assumption) | decide) | refine gC ?_ (by first | (with_reducible first | rfl | assumption) | decide) | ((first | refine gsT (fun h => ?_) (fun h => ?_) | refine gsF (fun h => ?_) (fun h => ?_) | refine ⟨fun h => ?_, fun h => ?_⟩) <;> (have hs := h; try simp only [cs, reduceCtorEq, Int.reduceEq, Int.reduceNe, Int.reduceLT, Int.reduceLE, Int.reduceBEq, Int.reduceBNe] at hs)) | ((with_reducible show _ ∧ _ ∧ Weak _ _ _); refine ⟨?_, ?_, Weak.go⟩; (omega)) | ((with_reducible show (_ ∧ _ ∧ _) ∧ _); refine ⟨⟨by kernel_rfl, by kernel_rfl, by rfl⟩, ?_⟩) | ((with_reducible show AV.pf _ = true ∧ _); refine pfA ?_) | (refine ⟨rfl, ?_, ?_, ?_⟩; exact okG; exact okG) | ((with_reducible show (_ ∨ _) ∧ _ ∧ retA _ _ _ _ _); refine ⟨?_, rfl, ?_⟩; (first | exact .inr rfl | exact .inl rfl)) | ((with_reducible show _ = _ ∧ _ = false ∧ _ = _); refine ⟨?_, rfl, rfl⟩; try (first | rfl | (conv => lhs; whnf))) | ((with_reducible show _ = _ ∧ (_ → _)); refine ⟨?_, ?_⟩; try (first | rfl | (conv => lhs; whnf))) | exact fun h => h | exact fun _ => rfl | refine ⟨rfl, ?_⟩ | (refine ⟨Nat.le_of_ble_eq_true rfl, ?_⟩) | (refine ⟨?_, ?_, ?_⟩; exact okS; exact okS) | (refine ⟨?_, ?_⟩; exact okS) | fail)
  · exact parse_bad hE (by decide)
  all_goals (exfalso; omega)
theorem rP_nil : XPure Tryz.prog 79 [eS []] (.tup [(parseC []).av, i64 (parseE [])]) false := by
  have hE : parseE [] = 9 := by unfold parseE; rfl
  refine XPure.bodyN ⟨_, Tryz.func79, rfl, by kernel_rfl⟩ Tryz.func79 rfl (Nat.le_of_ble_eq_true (by rfl)) (pf_of1 rfl) fun env => ?_
  repeat' ((conv => whnf); (fail_if_success (with_reducible show LeqD _ _)); (fail_if_success (with_reducible show ∃ _, _ ∧ _ ∧ Weak _ _ _)); first | ((with_reducible show guardA _ _ _ _ _ _ ∨ _); first | (refine .inr ?_; (conv => whnf); refine ⟨_, ?_, fun h => rfl, rfl, ?_⟩; ((conv => whnf); first | exact trivial | (refine ⟨?_, trivial⟩; exact okG))) | (refine .inr ?_; (conv => whnf); refine ⟨_, trivial, fun h => ⟨?_, ?_, ?_, rfl⟩, rfl, ?_⟩; (first | exact h | rfl); exact okG; exact okG) | refine .inl ?_) | refine cY ?_ (by first | (with_reducible first | rfl | assumption) | decide) | refine cN ?_ (by first | (with_reducible first | rfl | assumption) | decide) | refine gA ?_ (by first | (with_reducible first | rfl | assumption) | decide) | refine gB ?_ (by first | (with_reducible first | rfl | assumption) | decide) | refine gC ?_ (by first | (with_reducible first | rfl | assumption) | decide) | ((first | refine gsT (fun h => ?_) (fun h => ?_) | refine gsF (fun h => ?_) (fun h => ?_) | refine ⟨fun h => ?_, fun h => ?_⟩) <;> (have hs := h; try simp only [cs, reduceCtorEq, Int.reduceEq, Int.reduceNe, Int.reduceLT, Int.reduceLE, Int.reduceBEq, Int.reduceBNe] at hs)) | ((with_reducible show _ ∧ _ ∧ Weak _ _ _); refine ⟨?_, ?_, Weak.go⟩; (omega)) | ((with_reducible show (_ ∧ _ ∧ _) ∧ _); refine ⟨⟨by kernel_rfl, by kernel_rfl, by rfl⟩, ?_⟩) | ((with_reducible show AV.pf _ = true ∧ _); refine pfA ?_) | (refine ⟨rfl, ?_, ?_, ?_⟩; exact okG; exact okG) | ((with_reducible show (_ ∨ _) ∧ _ ∧ retA _ _ _ _ _); refine ⟨?_, rfl, ?_⟩; (first | exact .inr rfl | exact .inl rfl)) | ((with_reducible show _ = _ ∧ _ = false ∧ _ = _); refine ⟨?_, rfl, rfl⟩; try (first | rfl | (conv => lhs; whnf))) | ((with_reducible show _ = _ ∧ (_ → _)); refine ⟨?_, ?_⟩; try (first | rfl | (conv => lhs; whnf))) | exact fun h => h | exact fun _ => rfl | refine ⟨rfl, ?_⟩ | (refine ⟨Nat.le_of_ble_eq_true rfl, ?_⟩) | (refine ⟨?_, ?_, ?_⟩; exact okS; exact okS) | (refine ⟨?_, ?_⟩; exact okS) | fail)
  exact parse_bad hE (by decide)
end Go.Proofs.YtepdiooaoegpfaaGreatDoor.Fx
end
section
/- Numerals by Go's library. Conditions: those in each statement. -/
namespace Go.Proofs.YtepdiooaoegpfaaGreatDoor.Fx
open Go Go.Proofs Go.Ev Go.RowKit
set_option maxRecDepth 100000
set_option linter.unusedSimpArgs false
set_option linter.unusedVariables false
theorem gPow : Tryz.prog.globalNamed "internal/strconv.uint64pow10" = some 3 := by kernel_rfl
theorem whole_arr {w : World} {hw : Hw} {b : Nat} {vs : List Value} (h0 : 0 < vs.length) (h : Whole w hw b vs) : ∃ e f, w.heap[b]? = some (.cells vs.toArray e f) := by
  obtain ⟨n, _, _, c⟩ := h
  have c0 := c 0
  unfold World.cell? at c
  simp only [Option.isSome_none, Bool.false_eq_true, if_false] at c
  cases hh : w.heap[b]? with
  | none => rw [hh] at c; have := c 0; rw [List.getElem?_eq_getElem h0] at this; simp at this
  | some o =>
    rw [hh] at c
    cases o with
    | cells cs e f =>
      refine ⟨e, f, ?_⟩
      have : cs = vs.toArray := Array.ext_getElem? fun i => by
        have := c i
        simp only at this
        rw [this, List.getElem?_toArray]
      rw [this]
    | _ => have := c 0; rw [List.getElem?_eq_getElem h0] at this; simp at this
theorem glob_pow {w : World} {g : Gh} (G : Ev.Good w g [] 0) : Lib.TabIs Tryz.prog w "internal/strconv.uint64pow10" .u64 Lib.pow10Tab := by
  obtain ⟨vs, rfl, h⟩ := G.glob.2 _ (List.mem_cons_self ..)
  obtain ⟨e, f, hh⟩ := whole_arr (by decide) h
  unfold Lib.TabIs World.var?
  rw [gPow, Option.bind_some]
  simp only [hh]
theorem glob_err {w : World} {g : Gh} (G : Ev.Good w g [] 0) {b : Nat} (hb : (b, IsErr) ∈ globP) : ∃ t p, w.cell? ⟨b, 0, none⟩ = some (.iface t p) := by
  obtain ⟨vs, ⟨t, p, rfl⟩, n, _, _, c⟩ := G.glob.2 _ hb
  exact ⟨t, p, c 0⟩
theorem args_str {w : World} {hw : Hw} {s : ByteArray} {vs : List Value} (h : RepT w hw [] 0 [str s] vs) : vs = [.string s] := by
  simp only [RepT] at h
  obtain ⟨v, _, rfl, h1, rfl⟩ := h
  rw [(rep_v (rep_of h1)).1]
theorem args_int {w : World} {hw : Hw} {n : Int} {vs : List Value} (h : RepT w hw [] 0 [i64 n] vs) : vs = [.int .i64 n] := by
  simp only [RepT] at h
  obtain ⟨v, _, rfl, h1, rfl⟩ := h
  rw [(rep_v (rep_of h1)).1]
theorem below_drewN (w : World) (k : Nat) (os : Array Obj) : Below w.heap.size w (Sort.grow (w.drewN k) os) :=
  ⟨rfl, rfl, rfl, by show w.heap.size ≤ (w.heap ++ os).size; rw [Array.size_append]; omega, fun k hk => by show (w.heap ++ os)[k]? = _; rw [Array.getElem?_append_left hk]⟩
theorem c_Itoa {n : Int} (h0 : -9223372036854775808 ≤ n) (h1 : n ≤ 9223372036854775807) : XPure Tryz.prog 92 [i64 n] (str ⟨(Lib.itoa n).toArray⟩) false :=
  XPure.ofMem (u := .string ⟨(Lib.itoa n).toArray⟩) ⟨_, Tryz.func92, rfl, by kernel_rfl⟩ rfl rfl (fun w g vs G _ hv => by
    rw [args_int hv]
    refine (Tryz.strconv_Itoa n h0 h1 w (glob_pow G)).mono fun e w' ⟨he, k, os, hw⟩ => ⟨he, ?_⟩
    subst hw
    exact below_drewN w k os) fun _ _ _ _ => rep_v_mk rfl
theorem c_Atoi_ok {s : ByteArray} {v : Int} (hs : s.size ≤ 140737488355328) (h : Lib.atoiAll s.data.toList = .ok v) : XPure Tryz.prog 91 [str s] (.tup [i64 v, .v .nilIface]) false :=
  XPure.ofMem (u := .tuple #[.int .i64 v, .nilIface]) ⟨_, Tryz.func91, rfl, by kernel_rfl⟩ rfl rfl (fun w g vs G _ hv => by
    rw [args_str hv]
    refine (Tryz.strconv_Atoi_ok s (by omega) v h w).mono fun e w' ⟨he, hw⟩ => ⟨he, ?_⟩
    rcases hw with rfl | ⟨t, rfl⟩
    · exact Below.refl _ _
    · exact Go.Proofs.YtepdiooaoegpfaaGreatDoorW.PrintWords.bytes_below (Below.refl _ _) (Nat.le_refl _) _ _) fun w hw bs base => by
    refine ⟨_, rfl, ?_⟩
    simp only [RepT]
    exact ⟨_, _, rfl, rep1_of rfl (rep_v_mk rfl), _, _, rfl, rep1_of rfl (rep_v_mk rfl), rfl⟩
theorem c_Atoi_err {s : ByteArray} (hs : s.size ≤ 140737488355328) (h : ∀ v, Lib.atoiAll s.data.toList ≠ .ok v) : XPure Tryz.prog 91 [str s] (.tup [.top, .ifc 191 .top]) false :=
  XPure.ofMemR ⟨_, Tryz.func91, rfl, by kernel_rfl⟩ rfl rfl (fun w g vs G _ hv => by
    rw [args_str hv]
    have hR : ∀ (m : Int) (N : Nat) (w' : World) (hw : Hw) (bs : List Nat) (base : Nat), Rep w' hw bs base (.tup [.top, .ifc 191 .top]) (.tuple #[.int .i64 m, .iface 191 (.pointer (some ⟨N, 0, none⟩))]) := fun m N w' hw bs base => by
      refine ⟨_, rfl, ?_⟩
      simp only [RepT]
      refine ⟨_, _, rfl, .inl rfl, _, _, rfl, .inr ⟨?_, rfl⟩, rfl⟩
      show RepV w' hw bs base (.ifc 191 .top) [.iface 191 (.pointer (some ⟨N, 0, none⟩))]
      simp only [RepV]
      exact ⟨_, rfl, ⟨_, rfl⟩, rfl⟩
    cases hA : Lib.atoiAll s.data.toList with
    | ok v => exact absurd hA (h v)
    | range =>
      obtain ⟨t, p, hc⟩ := glob_err G (b := 2) (by simp [globP])
      exact (Tryz.strconv_Atoi_range s (by omega) hA _ w hc (.inr ⟨t, p, rfl⟩)).mono fun e w' ⟨N, he, _, _, hb⟩ => ⟨_, he, hb, hR _ N w'⟩
    | _ =>
      obtain ⟨t, p, hc⟩ := glob_err G (b := 1) (by simp [globP])
      exact (Tryz.strconv_Atoi_syntax s (by omega) hA _ w hc (.inr ⟨t, p, rfl⟩)).mono fun e w' ⟨N, he, _, _, hb⟩ => ⟨_, he, hb, hR _ N w'⟩)
end Go.Proofs.YtepdiooaoegpfaaGreatDoor.Fx
end
