/- Written by programs of this session: laws and contracts that the law's proof stands on, merged into one text. Conditions: none beyond those in each statement. -/
import Derived.Test.YtepdiooaoegpfaaGreatDoorPkFx2
import Derived.Test.YtepdiooaoegpfaaGreatDoorPkFx3
import Derived.Test.YtepdiooaoegpfaaGreatDoorPkEv10
section
/- Plans. Conditions: those in each statement. -/
namespace Go.Proofs.YtepdiooaoegpfaaGreatDoor.Fx
open Go Go.Proofs Go.Ev Go.RowKit
set_option maxRecDepth 100000
set_option maxHeartbeats 1600000
set_option linter.unusedSimpArgs false
set_option linter.unusedVariables false
theorem env_own {env own : List Bx} {b i : Nat} {l : List (ByteArray × AV)} (h : own[i]? = some (.map l)) : (env ++ own.map (Bx.up b))[env.length + i]? = some (.map l) := by
  rw [List.getElem?_append_right (by omega), Nat.add_sub_cancel_left, List.getElem?_map, h]; rfl
theorem getD_mem {α : Type} {l : List α} {i : Nat} (d : α) (h : i < l.length) : l.getD i d ∈ l := by simp [List.getD_eq_getElem?_getD, h]
theorem planOk_bad {nodes : List Node} {goals : List ByteArray} (h : 256 < nodes.length ∨ goals.length < 1 ∨ 512 < goals.length) : planOk nodes goals = false := by
  rw [← Bool.not_eq_true]; simp only [planOk, Bool.and_eq_true, decide_eq_true_eq]; omega
theorem map_next {l : List Node} {i : Nat} (h : i < l.length) (hr : rightN (targets (l.take i)) (l.getD i default) = true) : setM (mOf (targets (l.take i))) (l.getD i default).target (i64 1) = mOf (targets (l.take (i + 1))) := by
  rw [setM_mOf _ _ (rightN_target hr), ← targets_succ h]
theorem c_resolve_Check {nodes : List Node} {goals : List ByteArray} (hz : ∀ n ∈ nodes, SzN n) : XPure Tryz.prog 42 [eP nodes goals] (i64 (errIf (planOk nodes goals) 7)) false := by
  refine XPure.body ⟨_, Tryz.func42, rfl, by kernel_rfl⟩ Tryz.func42 rfl (Nat.le_of_ble_eq_true (by rfl)) (pf_of1 rfl) fun env => ?_
  repeat' ((conv => whnf); (fail_if_success (with_reducible show ∃ _, _ ∧ _ ∧ Weak _ _ _)); first | ((with_reducible show guardA _ _ _ _ _ _ ∨ _); first | (refine .inr ?_; (conv => whnf); refine ⟨_, ?_, fun h => rfl, rfl, ?_⟩; ((conv => whnf); first | exact trivial | (refine ⟨?_, trivial⟩; exact okG))) | (refine .inr ?_; (conv => whnf); refine ⟨_, trivial, fun h => ⟨?_, ?_, ?_, rfl⟩, rfl, ?_⟩; (first | exact h | rfl); exact okG; exact okG) | refine .inl ?_) | refine cY ?_ | refine cN ?_ | refine gA ?_ | refine gB ?_ | refine gC ?_ | ((first | refine gsT (fun h => ?_) (fun h => ?_) | refine gsF (fun h => ?_) (fun h => ?_) | refine ⟨fun h => ?_, fun h => ?_⟩) <;> (have hs := h; try simp only [cs, reduceCtorEq, Int.reduceEq, Int.reduceNe, Int.reduceLT, Int.reduceLE, Int.reduceBEq, Int.reduceBNe] at hs)) | ((with_reducible show _ ∧ _ ∧ Weak _ _ _); refine ⟨?_, ?_, Weak.go⟩; (omega)) | ((with_reducible show (_ ∧ _ ∧ _) ∧ _); refine ⟨⟨by kernel_rfl, by kernel_rfl, by rfl⟩, ?_⟩) | ((with_reducible show AV.pf _ = true ∧ _); refine pfA ?_) | (refine ⟨rfl, ?_, ?_, ?_⟩; exact okG; exact okG) | ((with_reducible show (_ ∨ _) ∧ _ ∧ retA _ _ _ _ _); refine ⟨?_, rfl, ?_⟩; (first | exact .inr rfl | exact .inl rfl)) | ((with_reducible show _ = _ ∧ _ = false ∧ _ = _); refine ⟨?_, rfl, rfl⟩; try (first | rfl | (conv => lhs; whnf))) | ((with_reducible show LeqD _ _); try (first | exact okN | (first | rfl | (conv => lhs; whnf))); done) | ((with_reducible show _ = _ ∧ (_ → _)); refine ⟨?_, ?_⟩; try (first | rfl | (conv => lhs; whnf))) | exact fun h => h | exact fun _ => rfl | refine ⟨rfl, ?_⟩ | (refine ⟨Nat.le_of_ble_eq_true rfl, ?_⟩) | (refine ⟨?_, ?_, ?_⟩; exact okS; exact okS) | (refine ⟨?_, ?_⟩; exact okS) | rw [wrapId (by omega) (by omega)] | fail)
  all_goals try (rw [planOk_bad (by omega)]; rfl)
  have hF : planOk nodes goals = (nodesOk [] nodes && goalsOk (targets nodes) [] goals) := by
    have : decide (nodes.length ≤ 256) = true ∧ decide (1 ≤ goals.length) = true ∧ decide (goals.length ≤ 512) = true := ⟨decide_eq_true (by omega), decide_eq_true (by omega), decide_eq_true (by omega)⟩
    simp [planOk, this]
  refine XW.countL nodes.length [1, 3, 26, 27] (fun i => [(28, i64 i)]) (fun _ => []) (fun i => [.cells (eP nodes goals).leaves [], .map (mOf (targets (nodes.take i)))]) (fun i => nodesOk [] nodes = nodesOk (targets (nodes.take i)) (nodes.drop i)) Weak.go rfl ?_
  intro i hi hA
  refine codeS ?_
  repeat' ((conv => whnf); first | ((with_reducible show _ ∧ _ ∧ Weak _ _ _); have hM := map_next ‹i < nodes.length› (by assumption); refine ⟨?_, ?_, Weak.go⟩; omega) | ((with_reducible show guardA _ _ _ _ _ _ ∨ _); first | (refine .inr ?_; (conv => whnf); refine ⟨_, ?_, fun h => rfl, rfl, ?_⟩; ((conv => whnf); first | exact trivial | (refine ⟨?_, trivial⟩; exact okG))) | (refine .inr ?_; (conv => whnf); refine ⟨_, trivial, fun h => ⟨?_, ?_, ?_, rfl⟩, rfl, ?_⟩; (first | exact h | rfl); exact okG; exact okG) | refine .inl ?_) | refine cY ?_ | refine cN ?_ | refine gA ?_ | refine gB ?_ | refine gC ?_ | ((first | refine gsT (fun h => ?_) (fun h => ?_) | refine gsF (fun h => ?_) (fun h => ?_) | refine ⟨fun h => ?_, fun h => ?_⟩) <;> (have hs := h; try simp only [cs, reduceCtorEq, Int.reduceEq, Int.reduceNe, Int.reduceLT, Int.reduceLE, Int.reduceBEq, Int.reduceBNe] at hs)) | ((with_reducible show _ ∧ _ ∧ Weak _ _ _); refine ⟨?_, ?_, Weak.go⟩; (omega)) | (refine callG_same ⟨_, Tryz.func64, rfl, by kernel_rfl⟩ (by rfl) (c_right (n := nodes.getD i default) (ahead := targets (nodes.take i)) (env_own rfl) (hz _ (getD_mem _ (by assumption)))) ?_) | ((with_reducible show (_ ∧ _ ∧ _) ∧ _); refine ⟨⟨by kernel_rfl, by kernel_rfl, by rfl⟩, ?_⟩) | ((with_reducible show AV.pf _ = true ∧ _); refine pfA ?_) | (refine ⟨rfl, ?_, ?_, ?_⟩; exact okG; exact okG) | ((with_reducible show (_ ∨ _) ∧ _ ∧ retA _ _ _ _ _); refine ⟨?_, rfl, ?_⟩; (first | exact .inr rfl | exact .inl rfl)) | ((with_reducible show _ = _ ∧ _ = false ∧ _ = _); refine ⟨?_, rfl, rfl⟩; try (first | rfl | (conv => lhs; whnf))) | ((with_reducible show LeqD _ _); try (first | exact okN | (first | rfl | (conv => lhs; whnf))); done) | ((with_reducible show _ = _ ∧ (_ → _)); refine ⟨?_, ?_⟩; try (first | rfl | (conv => lhs; whnf))) | exact fun h => h | exact fun _ => rfl | refine ⟨rfl, ?_⟩ | (refine ⟨Nat.le_of_ble_eq_true rfl, ?_⟩) | (refine ⟨?_, ?_, ?_⟩; exact okS; exact okS) | (refine ⟨?_, ?_⟩; exact okS) | rw [getD_mapI ((default : Node)) (by omega)] | rw [getD_map ((default : Node)) (by omega)] | rw [wrapId (by omega) (by omega)] | fail)
  · have e : planOk nodes goals = false := by rw [hF, hA, nodesOk_step ‹_›, hs]; rfl
    rw [e]; rfl
  · rw [hA, nodesOk_step ‹_›, hs, Bool.true_and]
  have hN : nodesOk [] nodes = true := by rw [hA, nodesOk_end hs]
  have hT : targets (nodes.take i) = targets nodes := by rw [List.take_of_length_le (by omega)]
  rw [hT]
  refine XW.countL goals.length [1, 3, 41, 42] (fun i => [(43, i64 i)]) (fun _ => []) (fun _ => [.cells (eP nodes goals).leaves [], .map (mOf (targets nodes))]) (fun i => goalsOk (targets nodes) [] goals = goalsOk (targets nodes) (goals.take i) (goals.drop i)) Weak.go rfl ?_
  intro k hk hB
  refine codeS ?_
  repeat' ((conv => whnf); first | ((with_reducible show (∀ _ : AV, _) ∧ _); refine ⟨fun x hx => ?_, fun hx => ?_⟩; (obtain ⟨rfl, hx⟩ := getM_some hx)) | ((with_reducible show guardA _ _ _ _ _ _ ∨ _); first | (refine .inr ?_; (conv => whnf); refine ⟨_, ?_, fun h => rfl, rfl, ?_⟩; ((conv => whnf); first | exact trivial | (refine ⟨?_, trivial⟩; exact okG))) | (refine .inr ?_; (conv => whnf); refine ⟨_, trivial, fun h => ⟨?_, ?_, ?_, rfl⟩, rfl, ?_⟩; (first | exact h | rfl); exact okG; exact okG) | refine .inl ?_) | refine cY ?_ | refine cN ?_ | refine gA ?_ | refine gB ?_ | refine gC ?_ | ((first | refine gsT (fun h => ?_) (fun h => ?_) | refine gsF (fun h => ?_) (fun h => ?_) | refine ⟨fun h => ?_, fun h => ?_⟩) <;> (have hs := h; try simp only [cs, reduceCtorEq, Int.reduceEq, Int.reduceNe, Int.reduceLT, Int.reduceLE, Int.reduceBEq, Int.reduceBNe] at hs)) | (refine .inl ⟨_, _, c_ContainsT (by omega), ?_⟩) | ((with_reducible show _ ∧ _ ∧ Weak _ _ _); refine ⟨?_, ?_, Weak.go⟩; (omega)) | ((refine ⟨_, rfl, ?_⟩)) | ((with_reducible show (_ ∧ _ ∧ _) ∧ _); refine ⟨⟨by kernel_rfl, by kernel_rfl, by rfl⟩, ?_⟩) | ((with_reducible show AV.pf _ = true ∧ _); refine pfA ?_) | (refine ⟨rfl, ?_, ?_, ?_⟩; exact okG; exact okG) | ((with_reducible show (_ ∨ _) ∧ _ ∧ retA _ _ _ _ _); refine ⟨?_, rfl, ?_⟩; (first | exact .inr rfl | exact .inl rfl)) | ((with_reducible show _ = _ ∧ _ = false ∧ _ = _); refine ⟨?_, rfl, rfl⟩; try (first | rfl | (conv => lhs; whnf))) | ((with_reducible show LeqD _ _); try (first | exact okN | (first | rfl | (conv => lhs; whnf))); done) | ((with_reducible show _ = _ ∧ (_ → _)); refine ⟨?_, ?_⟩; try (first | rfl | (conv => lhs; whnf))) | exact fun h => h | exact fun _ => rfl | refine ⟨rfl, ?_⟩ | (refine ⟨Nat.le_of_ble_eq_true rfl, ?_⟩) | (refine ⟨?_, ?_, ?_⟩; exact okS; exact okS) | (refine ⟨?_, ?_⟩; exact okS) | rw [getD_mapI (ByteArray.empty) (by omega)] | rw [getD_map (ByteArray.empty) (by omega)] | rw [wrapId (by omega) (by omega)] | fail)
  all_goals clear hz hA
  all_goals try (replace hx := getM_none ‹_›)
  all_goals try (have e : planOk nodes goals = true := by (rw [hF, hN, hB, goalsOk_end (by assumption)]; rfl))
  all_goals try (rw [e]; done)
  all_goals try (rw [e]; rfl)
  all_goals have hk' : k < goals.length := by assumption
  all_goals try (have e : planOk nodes goals = false := by (rw [hF, hN, hB, goalsOk_step hk']; grind))
  all_goals try (rw [e]; rfl)
  all_goals (rw [hB, goalsOk_step hk']; grind)
end Go.Proofs.YtepdiooaoegpfaaGreatDoor.Fx
end
section
/- Names without doubles; operations of words. Conditions: those in each statement. -/
namespace Go.Proofs.YtepdiooaoegpfaaGreatDoor.Fx
open Go Go.Proofs Go.Ev Go.RowKit
set_option maxRecDepth 100000
set_option maxHeartbeats 1600000
set_option linter.unusedSimpArgs false
set_option linter.unusedVariables false
theorem map_snoc {α : Type} (f : α → AV) (l : List α) (x : α) : l.map f ++ [f x] = (l ++ [x]).map f := by simp
/-- Texts without doubles, behind those that are there. -/
def uniqGo (out : List ByteArray) : List ByteArray → List ByteArray
  | [] => out
  | x :: r => if hasS out x then uniqGo out r else uniqGo (out ++ [x]) r
theorem uniqGo_step {out l : List ByteArray} {i : Nat} (h : i < l.length) : uniqGo out (l.drop i) = if hasS out (l.getD i .empty) = true then uniqGo out (l.drop (i + 1)) else uniqGo (out ++ [l.getD i .empty]) (l.drop (i + 1)) := by
  rw [drop_getD .empty h]; rfl
theorem c_Unique {l : List ByteArray} (hl : l.length ≤ 1000000000) : XPure Tryz.prog 180 [eS l] (eS (uniqGo [] l)) false := by
  refine XPure.bodyN ⟨_, Tryz.func180, rfl, by kernel_rfl⟩ Tryz.func180 rfl (Nat.le_of_ble_eq_true (by rfl)) (pf_of1 rfl) fun env => ?_
  repeat' ((conv => whnf); (fail_if_success (with_reducible show ∃ _, _ ∧ _ ∧ Weak _ _ _)); first | ((with_reducible show guardA _ _ _ _ _ _ ∨ _); first | (refine .inr ?_; (conv => whnf); refine ⟨_, ?_, fun h => rfl, rfl, ?_⟩; ((conv => whnf); first | exact trivial | (refine ⟨?_, trivial⟩; exact okG))) | (refine .inr ?_; (conv => whnf); refine ⟨_, trivial, fun h => ⟨?_, ?_, ?_, rfl⟩, rfl, ?_⟩; (first | exact h | rfl); exact okG; exact okG) | refine .inl ?_) | refine cY ?_ | refine cN ?_ | refine gA ?_ | refine gB ?_ | refine gC ?_ | ((first | refine gsT (fun h => ?_) (fun h => ?_) | refine gsF (fun h => ?_) (fun h => ?_) | refine ⟨fun h => ?_, fun h => ?_⟩) <;> (have hs := h; try simp only [cs, reduceCtorEq, Int.reduceEq, Int.reduceNe, Int.reduceLT, Int.reduceLE, Int.reduceBEq, Int.reduceBNe] at hs)) | ((with_reducible show _ ∧ _ ∧ Weak _ _ _); refine ⟨?_, ?_, Weak.go⟩; (omega)) | ((with_reducible show (_ ∧ _ ∧ _) ∧ _); refine ⟨⟨by kernel_rfl, by kernel_rfl, by rfl⟩, ?_⟩) | ((with_reducible show AV.pf _ = true ∧ _); refine pfA ?_) | (refine ⟨rfl, ?_, ?_, ?_⟩; exact okG; exact okG) | ((with_reducible show (_ ∨ _) ∧ _ ∧ retA _ _ _ _ _); refine ⟨?_, rfl, ?_⟩; (first | exact .inr rfl | exact .inl rfl)) | ((with_reducible show _ = _ ∧ _ = false ∧ _ = _); refine ⟨?_, rfl, rfl⟩; try (first | rfl | (conv => lhs; whnf))) | ((with_reducible show LeqD _ _); try (first | exact okN | (first | rfl | (conv => lhs; whnf))); done) | ((with_reducible show _ = _ ∧ (_ → _)); refine ⟨?_, ?_⟩; try (first | rfl | (conv => lhs; whnf))) | exact fun h => h | exact fun _ => rfl | refine ⟨rfl, ?_⟩ | (refine ⟨Nat.le_of_ble_eq_true rfl, ?_⟩) | (refine ⟨?_, ?_, ?_⟩; exact okS; exact okS) | (refine ⟨?_, ?_⟩; exact okS) | rw [wrapId (by omega) (by omega)] | fail)
  refine XW.overL [2, 6, 7] (fun (p : Nat × List ByteArray) => [(3, eS p.2), (8, i64 p.1)]) (fun _ => [3]) (fun _ => []) (fun p => p.1 ≤ l.length ∧ p.2.length ≤ p.1 ∧ uniqGo p.2 (l.drop p.1) = uniqGo [] l) (fun p => l.length - p.1) (0, []) Weak.go ⟨Nat.zero_le _, Nat.zero_le _, rfl⟩ ?_
  rintro ⟨i, out⟩ ⟨hi, ho, hA⟩
  dsimp only at hi ho hA ⊢
  refine codeS ?_
  have hM := map_snoc (fun x : ByteArray => AV.v (.string x)) out (l.getD i .empty)
  iterate 14 any_goals try ((conv => whnf); (fail_if_success (with_reducible show ∃ _, _ ∧ _ ∧ Weak _ _ _)); first | ((with_reducible show guardA _ _ _ _ _ _ ∨ _); first | (refine .inr ?_; (conv => whnf); refine ⟨_, ?_, fun h => rfl, rfl, ?_⟩; ((conv => whnf); first | exact trivial | (refine ⟨?_, trivial⟩; exact okG))) | (refine .inr ?_; (conv => whnf); refine ⟨_, trivial, fun h => ⟨?_, ?_, ?_, rfl⟩, rfl, ?_⟩; (first | exact h | rfl); exact okG; exact okG) | refine .inl ?_) | refine cY ?_ | refine cN ?_ | refine gA ?_ | refine gB ?_ | refine gC ?_ | ((first | refine gsT (fun h => ?_) (fun h => ?_) | refine gsF (fun h => ?_) (fun h => ?_) | refine ⟨fun h => ?_, fun h => ?_⟩) <;> (have hs := h; try simp only [cs, reduceCtorEq, Int.reduceEq, Int.reduceNe, Int.reduceLT, Int.reduceLE, Int.reduceBEq, Int.reduceBNe] at hs)) | (refine .inl ⟨_, _, c_Contains (by omega), ?_⟩) | ((with_reducible show _ ∧ _ ∧ Weak _ _ _); refine ⟨?_, ?_, Weak.go⟩; (omega)) | ((with_reducible show (_ ∧ _ ∧ _) ∧ _); refine ⟨⟨by kernel_rfl, by kernel_rfl, by rfl⟩, ?_⟩) | ((with_reducible show AV.pf _ = true ∧ _); refine pfA ?_) | (refine ⟨rfl, ?_, ?_, ?_⟩; exact okG; exact okG) | ((with_reducible show (_ ∨ _) ∧ _ ∧ retA _ _ _ _ _); refine ⟨?_, rfl, ?_⟩; (first | exact .inr rfl | exact .inl rfl)) | ((with_reducible show _ = _ ∧ _ = false ∧ _ = _); refine ⟨?_, rfl, rfl⟩; try (first | rfl | (conv => lhs; whnf))) | ((with_reducible show LeqD _ _); try (first | exact okN | (first | rfl | (conv => lhs; whnf))); done) | ((with_reducible show _ = _ ∧ (_ → _)); refine ⟨?_, ?_⟩; try (first | rfl | (conv => lhs; whnf))) | exact fun h => h | exact fun _ => rfl | refine ⟨rfl, ?_⟩ | (refine ⟨Nat.le_of_ble_eq_true rfl, ?_⟩) | (refine ⟨?_, ?_, ?_⟩; exact okS; exact okS) | (refine ⟨?_, ?_⟩; exact okS) | rw [getD_mapI (ByteArray.empty) (by omega)] | rw [getD_map (ByteArray.empty) (by omega)] | rw [wrapId (by omega) (by omega)] | fail)
  · refine ⟨(i + 1, out ++ [l.getD i .empty]), by dsimp only; omega, ⟨by dsimp only; omega, by simp only [List.length_append, List.length_cons, List.length_nil]; omega, ?_⟩, Weak.go⟩
    dsimp only
    rw [← hA, uniqGo_step (i := i) (out := out) (by assumption), if_neg (by rw [hs]; simp)]
  · refine ⟨(i + 1, out), by dsimp only; omega, ⟨by dsimp only; omega, by dsimp only; omega, ?_⟩, Weak.go⟩
    dsimp only
    rw [← hA, uniqGo_step (i := i) (out := out) (by assumption), if_pos hs]
  · have e : uniqGo [] l = out := by rw [← hA, List.drop_eq_nil_of_le (by omega)]; rfl
    rw [e]; exact LeqD.refl _
end Go.Proofs.YtepdiooaoegpfaaGreatDoor.Fx
end
section
/- The other methods of commands. Conditions: those in each statement. -/
namespace Go.Proofs.YtepdiooaoegpfaaGreatDoor.Fx
open Go Go.Proofs Go.Ev Go.RowKit
set_option maxRecDepth 100000
set_option maxHeartbeats 1600000
set_option linter.unusedSimpArgs false
set_option linter.unusedVariables false
theorem c_joining_reads {d : ByteArray} {l : List ByteArray} (hl : l.length ≤ 1000000000) : XPure Tryz.prog 175 [.agg [str d, eS l]] (eS (uniqGo [] l)) false := by
  refine XPure.body ⟨_, Tryz.func175, rfl, by kernel_rfl⟩ Tryz.func175 rfl (Nat.le_of_ble_eq_true (by rfl)) (pf_of1 rfl) fun env => ?_
  repeat' ((conv => whnf); (fail_if_success (with_reducible show ∃ _, _ ∧ _ ∧ Weak _ _ _)); first | ((with_reducible show guardA _ _ _ _ _ _ ∨ _); first | (refine .inr ?_; (conv => whnf); refine ⟨_, ?_, fun h => rfl, rfl, ?_⟩; ((conv => whnf); first | exact trivial | (refine ⟨?_, trivial⟩; exact okG))) | (refine .inr ?_; (conv => whnf); refine ⟨_, trivial, fun h => ⟨?_, ?_, ?_, rfl⟩, rfl, ?_⟩; (first | exact h | rfl); exact okG; exact okG) | refine .inl ?_) | refine cY ?_ | refine cN ?_ | refine gA ?_ | refine gB ?_ | refine gC ?_ | ((first | refine gsT (fun h => ?_) (fun h => ?_) | refine gsF (fun h => ?_) (fun h => ?_) | refine ⟨fun h => ?_, fun h => ?_⟩) <;> (have hs := h; try simp only [cs, reduceCtorEq, Int.reduceEq, Int.reduceNe, Int.reduceLT, Int.reduceLE, Int.reduceBEq, Int.reduceBNe] at hs)) | (refine .inl ⟨_, _, c_Unique hl, ?_⟩) | ((with_reducible show _ ∧ _ ∧ Weak _ _ _); refine ⟨?_, ?_, Weak.go⟩; (omega)) | ((with_reducible show (_ ∧ _ ∧ _) ∧ _); refine ⟨⟨by kernel_rfl, by kernel_rfl, by rfl⟩, ?_⟩) | ((with_reducible show AV.pf _ = true ∧ _); refine pfA ?_) | (refine ⟨rfl, ?_, ?_, ?_⟩; exact okG; exact okG) | ((with_reducible show (_ ∨ _) ∧ _ ∧ retA _ _ _ _ _); refine ⟨?_, rfl, ?_⟩; (first | exact .inr rfl | exact .inl rfl)) | ((with_reducible show _ = _ ∧ _ = false ∧ _ = _); refine ⟨?_, rfl, rfl⟩; try (first | rfl | (conv => lhs; whnf))) | ((with_reducible show LeqD _ _); try (first | exact okN | (first | rfl | (conv => lhs; whnf))); done) | ((with_reducible show _ = _ ∧ (_ → _)); refine ⟨?_, ?_⟩; try (first | rfl | (conv => lhs; whnf))) | exact fun h => h | exact fun _ => rfl | refine ⟨rfl, ?_⟩ | (refine ⟨Nat.le_of_ble_eq_true rfl, ?_⟩) | (refine ⟨?_, ?_, ?_⟩; exact okS; exact okS) | (refine ⟨?_, ?_⟩; exact okS) | rw [wrapId (by omega) (by omega)] | fail)
end Go.Proofs.YtepdiooaoegpfaaGreatDoor.Fx
end
section
/- Copies of rows. Conditions: those in each statement. -/
namespace Go.Proofs.YtepdiooaoegpfaaGreatDoor.Fx
open Go Go.Proofs Go.Ev Go.RowKit
set_option maxRecDepth 100000
set_option maxHeartbeats 1600000
set_option linter.unusedSimpArgs false
set_option linter.unusedVariables false
abbrev eStr (x : ByteArray) : AV := .v (.string x)
theorem els_F (l : List File) : Els 3 (l.map eF) := fun x hx => by
  obtain ⟨y, _, rfl⟩ := List.mem_map.1 hx
  exact ⟨rfl, rfl⟩
theorem call_CloneF : Callable Tryz.prog 27 := ⟨_, Tryz.func27, rfl, by kernel_rfl⟩
theorem c_CloneFB {l : List AV} (hl : l.length ≤ 1000000000) (hx : Els 3 l) (env : List Bx) : XCalls Tryz.prog 27 [.sl 3 l] env (NewBox env 3 l) := by
  refine XCalls.newBox hx ?_
  refine XCalls.bodyB Tryz.func27 rfl (Nat.le_of_ble_eq_true (by rfl)) ?_
  conv => whnf
  refine ⟨fun hn => ?_, ?_⟩
  · conv => whnf
    refine cTrue rfl ?_
    conv => whnf
    refine ⟨.inr rfl, rfl, ?_⟩
    conv => whnf
    exact ⟨rfl, .inl ⟨rfl, hn, List.append_nil env⟩⟩
  · conv => whnf
    refine cFalse rfl ?_
    conv => whnf
    refine .inr ?_
    conv => whnf
    refine ⟨?_, ?_, ?_, ?_, ?_, ?_⟩
    · show (0 + l.length) * 40 ≤ _; omega
    · show 0 + l.length ≤ _; omega
    · show 0 + 0 * 3 ≤ 0; omega
    · exact .inl rfl
    · intro h0
      conv => whnf
      refine ⟨.inr rfl, rfl, ?_⟩
      conv => whnf
      have : l = [] := List.eq_nil_of_length_eq_zero (by have : 0 + l.length ≤ 0 := h0; omega)
      subst this
      exact ⟨rfl, newSl_of (own := [.cells [] []]) (i := 0) (n := 0 + 0) (c := 0) (zs := []) hx rfl rfl (by decide) (by decide) rfl rfl⟩
    · intro h0 c' h1 h2
      conv => whnf
      refine ⟨.inr rfl, rfl, ?_⟩
      conv => whnf
      exact ⟨rfl, newSl_of (own := [.cells [] [], .cells (grownL [] (l.flatMap AV.leaves) (c' - (0 + l.length)) (.agg #[.string .empty, .string .empty, .int .i64 0])) []]) (i := 1) (n := 0 + l.length) (c := c')
        (zs := (List.replicate (c' - (0 + l.length)) [.v (.string .empty), .v (.string .empty), .v (.int .i64 0)]).flatten) hx (pfL_rep rfl _) (Nat.zero_add _) h1 h2 rfl (by rw [repLen]; rfl)⟩
theorem c_CloneF {l : List File} (hl : l.length ≤ 1000000000) : XPure Tryz.prog 27 [.sl 3 (l.map eF)] (.sl 3 (l.map eF)) false :=
  XPure.shut call_CloneF rfl (fun env => c_CloneFB (by simpa using hl) (els_F l) env) fun env r ow env' h => h.shut (by decide) (els_F l) (by simp; omega)
theorem els_S (l : List ByteArray) : Els 1 (l.map eStr) := fun x hx => by
  obtain ⟨y, _, rfl⟩ := List.mem_map.1 hx
  exact ⟨rfl, rfl⟩
theorem call_CloneS : Callable Tryz.prog 89 := ⟨_, Tryz.func89, rfl, by kernel_rfl⟩
theorem c_CloneSB {l : List AV} (hl : l.length ≤ 1000000000) (hx : Els 1 l) (env : List Bx) : XCalls Tryz.prog 89 [.sl 1 l] env (NewBox env 1 l) := by
  refine XCalls.newBox hx ?_
  refine XCalls.bodyB Tryz.func89 rfl (Nat.le_of_ble_eq_true (by rfl)) ?_
  conv => whnf
  refine ⟨fun hn => ?_, ?_⟩
  · conv => whnf
    refine cTrue rfl ?_
    conv => whnf
    refine ⟨.inr rfl, rfl, ?_⟩
    conv => whnf
    exact ⟨rfl, .inl ⟨rfl, hn, List.append_nil env⟩⟩
  · conv => whnf
    refine cFalse rfl ?_
    conv => whnf
    refine .inr ?_
    conv => whnf
    refine ⟨?_, ?_, ?_, ?_, ?_, ?_⟩
    · show (0 + l.length) * 16 ≤ _; omega
    · show 0 + l.length ≤ _; omega
    · show 0 + 0 * 1 ≤ 0; omega
    · exact .inl rfl
    · intro h0
      conv => whnf
      refine ⟨.inr rfl, rfl, ?_⟩
      conv => whnf
      have : l = [] := List.eq_nil_of_length_eq_zero (by have : 0 + l.length ≤ 0 := h0; omega)
      subst this
      exact ⟨rfl, newSl_of (own := [.cells [] []]) (i := 0) (n := 0 + 0) (c := 0) (zs := []) hx rfl rfl (by decide) (by decide) rfl rfl⟩
    · intro h0 c' h1 h2
      conv => whnf
      refine ⟨.inr rfl, rfl, ?_⟩
      conv => whnf
      exact ⟨rfl, newSl_of (own := [.cells [] [], .cells (grownL [] (l.flatMap AV.leaves) (c' - (0 + l.length)) (.string .empty)) []]) (i := 1) (n := 0 + l.length) (c := c')
        (zs := (List.replicate (c' - (0 + l.length)) [.v (.string .empty)]).flatten) hx (pfL_rep rfl _) (Nat.zero_add _) h1 h2 rfl (by rw [repLen]; rfl)⟩
theorem c_CloneS {l : List ByteArray} (hl : l.length ≤ 1000000000) : XPure Tryz.prog 89 [.sl 1 (l.map eStr)] (.sl 1 (l.map eStr)) false :=
  XPure.shut call_CloneS rfl (fun env => c_CloneSB (by simpa using hl) (els_S l) env) fun env r ow env' h => h.shut (by decide) (els_S l) (by simp; omega)
end Go.Proofs.YtepdiooaoegpfaaGreatDoor.Fx
end
section
/- A file is put into a row. Conditions: those in each statement. -/
namespace Go.Proofs.YtepdiooaoegpfaaGreatDoor.Fx
open Go Go.Proofs Go.Ev Go.RowKit
set_option maxRecDepth 100000
set_option maxHeartbeats 1600000
set_option linter.unusedSimpArgs false
set_option linter.unusedVariables false
/-- What a file put into a row comes to: the row's own box, or a new one. -/
@[irreducible] def InsR (q n i : Nat) (B F : List AV) (env : List Bx) (r : AV) (ow : Bool) (env' : List Bx) : Prop :=
  ow = false ∧ ∃ B' c', pfL B' = true ∧ n + 1 ≤ c' ∧ c' ≤ 9223372036854775807 ∧ B'.length = c' * 3 ∧ B'.take ((n + 1) * 3) = B.take (i * 3) ++ F ++ (B.take (n * 3)).drop (i * 3) ∧
      ((r = .xs q 0 3 (n + 1) c' ∧ env' = env.set q (.cells B' [])) ∨ ∃ new j, r = .xs (env.length + j) 0 3 (n + 1) c' ∧ env' = env ++ new ∧ new[j]? = some (.cells B' []))
theorem InsR.set {q n i cp : Nat} {B F B' : List AV} {env : List Bx} (h1 : pfL B' = true) (h2 : n + 1 ≤ cp) (h3 : cp ≤ 9223372036854775807) (h4 : B'.length = cp * 3) (h5 : B'.take ((n + 1) * 3) = B.take (i * 3) ++ F ++ (B.take (n * 3)).drop (i * 3)) :
    InsR q n i B F env (.xs q 0 3 (n + 1) cp) false (env.set q (.cells B' []) ++ []) := by
  unfold InsR
  exact ⟨rfl, B', cp, h1, h2, h3, h4, h5, .inl ⟨rfl, by simp⟩⟩
theorem InsR.new {q n i cp j base : Nat} {B F B' : List AV} {env own : List Bx} (h1 : pfL B' = true) (h2 : n + 1 ≤ cp) (h3 : cp ≤ 9223372036854775807) (h4 : B'.length = cp * 3) (h5 : B'.take ((n + 1) * 3) = B.take (i * 3) ++ F ++ (B.take (n * 3)).drop (i * 3)) (h6 : own[j]? = some (.cells B' [])) :
    InsR q n i B F env (.xs (env.length + j) 0 3 (n + 1) cp) false (env ++ own.map (Bx.up base)) := by
  unfold InsR
  exact ⟨rfl, B', cp, h1, h2, h3, h4, h5, .inr ⟨_, j, rfl, rfl, by rw [List.getElem?_map, h6]; simp only [Option.map_some, Bx.up, upL_pf _ _ h1]⟩⟩
theorem wrL_len {α : Type} {l : List α} {off : Nat} {xs : List α} (h : off + xs.length ≤ l.length) : (wrL l off xs).length = l.length := by
  unfold wrL; simp only [List.length_append, List.length_take, List.length_drop]; omega
theorem pfL_drop {l : List AV} (k : Nat) (h : pfL l = true) : pfL (l.drop k) = true := by
  induction k generalizing l with
  | zero => exact h
  | succ k ih =>
    cases l with
    | nil => exact h
    | cons x l => simp only [pfL, Bool.and_eq_true] at h; exact ih h.2
theorem pfL_wrL {l xs : List AV} {off : Nat} (h1 : pfL l = true) (h2 : pfL xs = true) : pfL (wrL l off xs) = true := pfL_append (pfL_append (pfL_take _ h1) h2) (pfL_drop _ h1)
theorem s41 : Tryz.prog.types[41].size = 3 := rfl
theorem b41 : Tryz.prog.types[41].bytes = 40 := rfl
theorem co41 : Tryz.prog.cellsOf 41 = 3 := rfl
theorem zl41 : (cst (.agg #[.string { data := #[] }, .string { data := #[] }, .int .i64 0])).leaves.length = 3 := rfl
theorem wrL_len' {α : Type} {l : List α} {off : Nat} {xs : List α} : (wrL l off xs).length = min off l.length + xs.length + (l.length - (off + xs.length)) := by
  unfold wrL; simp only [List.length_append, List.length_take, List.length_drop]
theorem toNat_i1 (i : Nat) : ((i : Int) + ((1 : Nat) : Int)).toNat = i + 1 := rfl
theorem nmin (a b : Nat) : Nat.min a b = min a b := rfl
theorem toNat_i (i : Nat) : (i : Int).toNat = i := rfl
theorem zl42 : (cst (.agg #[.string .empty, .string .empty, .int .i64 0])).leaves.length = 3 := rfl
theorem dropEnd {B : List AV} {k : Nat} : (B.take k).drop k = [] := List.drop_eq_nil_of_le (by simp only [List.length_take]; omega)
theorem takeF {F : List AV} (hF : F.length = 3) : (F.drop 0).take (1 * 3) = F := by rw [List.drop_zero, List.take_of_length_le (by omega)]
theorem insTake0 {B F Z : List AV} {i : Nat} (hF : F.length = 3) (hB : i * 3 ≤ B.length) : (B.take (i * 3) ++ F ++ Z).take ((i + 1) * 3) = B.take (i * 3) ++ F ++ (B.take (i * 3)).drop (i * 3) := by
  rw [dropEnd, List.append_nil, List.take_left' (by simp only [List.length_append, List.length_take]; omega)]
theorem insTake1 {B F G Y : List AV} {n i : Nat} (hF : F.length = 3) (hG : G.take (i * 3) = B.take (i * 3)) (hGl : (n + 1) * 3 ≤ G.length) (hBl : n * 3 ≤ B.length) (hi : i < n) (hY : Y = (B.take (n * 3)).drop (i * 3)) :
    (wrL (wrL G (i * 3) F) ((i + 1) * 3) Y).take ((n + 1) * 3) = B.take (i * 3) ++ F ++ (B.take (n * 3)).drop (i * 3) := by
  have h1 : (wrL G (i * 3) F).take ((i + 1) * 3) = B.take (i * 3) ++ F := by
    unfold wrL
    rw [hG, List.take_left' (by simp only [List.length_append, List.length_take]; omega)]
  show (List.take _ (wrL G (i * 3) F) ++ Y ++ _).take _ = _
  rw [h1, List.take_left' (by rw [hY]; simp only [List.length_append, List.length_take, List.length_drop]; omega), hY]
theorem insTake2 {B F Y : List AV} {n i : Nat} (hF : F.length = 3) (hBl : (n + 1) * 3 ≤ B.length) (hi : i < n) (hY : Y = (B.take (n * 3)).drop (i * 3)) :
    (wrL (wrL B ((i + 1) * 3) Y) (i * 3) F).take ((n + 1) * 3) = B.take (i * 3) ++ F ++ (B.take (n * 3)).drop (i * 3) := by
  have hYl : Y.length = (n - i) * 3 := by rw [hY]; simp only [List.length_take, List.length_drop]; omega
  have h1 : (wrL B ((i + 1) * 3) Y).take (i * 3) = B.take (i * 3) := by
    unfold wrL
    rw [List.append_assoc, List.take_append_of_le_length (by simp only [List.length_take]; omega), List.take_take, Nat.min_eq_left (by omega)]
  have h2 : (wrL B ((i + 1) * 3) Y).drop (i * 3 + F.length) = Y ++ B.drop ((i + 1) * 3 + Y.length) := by
    unfold wrL
    rw [List.append_assoc, List.drop_left' (by simp only [List.length_take]; omega)]
  show (List.take _ (wrL B ((i + 1) * 3) Y) ++ F ++ List.drop _ (wrL B ((i + 1) * 3) Y)).take _ = _
  rw [h1, h2, ← List.append_assoc, List.take_left' (by simp only [List.length_append, List.length_take, hYl]; omega), hY]
theorem c_InsertB {q q2 n cp i : Nat} {B F : List AV} {env : List Bx} (h1 : env[q]? = some (.cells B [])) (h2 : env[q2]? = some (.cells F [])) (hF : F.length = 3) (hq : q ≠ q2) (hB : B.length = cp * 3) (pB : pfL B = true) (pF : pfL F = true) (hn : n ≤ cp) (hn9 : n ≤ 1000000000) (hc : cp ≤ 9223372036854775807) (hi : i ≤ n) :
    XCalls Tryz.prog 118 [.xs q 0 3 n cp, i64 i, .xs q2 0 3 1 1] env (InsR q n i B F env) := by
  refine XCalls.bodyB Tryz.func118 rfl (Nat.le_of_ble_eq_true (by rfl)) ?_
  iterate 40 any_goals try ((conv => whnf); (fail_if_success (with_reducible show ∃ _, _ ∧ _ ∧ Weak _ _ _)); first | ((with_reducible show guardA _ _ _ _ _ _ ∨ _); first | (refine .inr ?_; (conv => whnf); refine ⟨_, ?_, fun h => rfl, rfl, ?_⟩; ((conv => whnf); first | exact trivial | (refine ⟨?_, trivial⟩; exact okG))) | (refine .inr ?_; (conv => whnf); refine ⟨_, trivial, fun h => ⟨?_, ?_, ?_, rfl⟩, rfl, ?_⟩; (first | exact h | rfl); exact okG; exact okG) | refine .inl ?_) | refine cY ?_ | refine cN ?_ | refine gA ?_ | refine gB ?_ | refine gC ?_ | ((first | refine gsT (fun h => ?_) (fun h => ?_) | refine gsF (fun h => ?_) (fun h => ?_) | refine ⟨fun h => ?_, fun h => ?_⟩) <;> (have hs := h; try simp only [cs, reduceCtorEq, Int.reduceEq, Int.reduceNe, Int.reduceLT, Int.reduceLE, Int.reduceBEq, Int.reduceBNe] at hs)) | ((with_reducible show _ ∧ _ ∧ Weak _ _ _); refine ⟨?_, ?_, Weak.go⟩; (omega)) | (first | rw [h1] | rw [h2] | (refine ⟨.inr (by first | exact pfL_take _ pF), ?_⟩)) | ((with_reducible show (_ ∧ _ ∧ _) ∧ _); refine ⟨⟨by kernel_rfl, by kernel_rfl, by rfl⟩, ?_⟩) | ((with_reducible show AV.pf _ = true ∧ _); refine pfA ?_) | (refine ⟨rfl, ?_, ?_, ?_⟩; exact okG; exact okG) | ((with_reducible show (_ ∨ _) ∧ _ ∧ retA _ _ _ _ _); refine ⟨?_, rfl, ?_⟩; (first | exact .inr rfl | exact .inl rfl)) | ((with_reducible show _ = _ ∧ _ = false ∧ _ = _); refine ⟨?_, rfl, rfl⟩; try (first | rfl | (conv => lhs; whnf))) | ((with_reducible show LeqD _ _); try (first | exact okN | (first | rfl | (conv => lhs; whnf))); done) | ((with_reducible show _ = _ ∧ (_ → _)); refine ⟨?_, ?_⟩; try (first | rfl | (conv => lhs; whnf))) | exact fun h => h | exact fun _ => rfl | refine ⟨rfl, ?_⟩ | (refine ⟨Nat.le_of_ble_eq_true rfl, ?_⟩) | (refine ⟨?_, ?_, ?_⟩; ((try dsimp only); first | omega | (simp only [List.length_append, List.length_take, List.length_drop]; omega) | exact .inr (pfL_take _ pF)); ((try dsimp only); first | omega | (simp only [List.length_append, List.length_take, List.length_drop]; omega) | exact .inr (pfL_take _ pF))) | (refine ⟨?_, ?_⟩; ((try dsimp only); first | omega | (simp only [List.length_append, List.length_take, List.length_drop]; omega) | exact .inr (pfL_take _ pF))) | rw [wrapId (by omega) (by omega)] | fail)
  · conv => whnf
    refine ⟨by show 0 + 1 * 3 ≤ F.length; omega, by show (n + 1) * 40 ≤ _; omega, by show n + 1 ≤ _; omega, by show 0 + cp * 3 ≤ B.length; omega, .inr (pfL_take _ pF), fun hle => ?_, fun hgt c' k1 k2 => ?_⟩
    · repeat' ((conv => whnf); (fail_if_success (with_reducible show ∃ _, _ ∧ _ ∧ Weak _ _ _)); first | ((with_reducible show guardA _ _ _ _ _ _ ∨ _); first | (refine .inr ?_; (conv => whnf); refine ⟨_, ?_, fun h => rfl, rfl, ?_⟩; ((conv => whnf); first | exact trivial | (refine ⟨?_, trivial⟩; exact okG))) | (refine .inr ?_; (conv => whnf); refine ⟨_, trivial, fun h => ⟨?_, ?_, ?_, rfl⟩, rfl, ?_⟩; (first | exact h | rfl); exact okG; exact okG) | refine .inl ?_) | refine cY ?_ | refine cN ?_ | refine gA ?_ | refine gB ?_ | refine gC ?_ | ((first | refine gsT (fun h => ?_) (fun h => ?_) | refine gsF (fun h => ?_) (fun h => ?_) | refine ⟨fun h => ?_, fun h => ?_⟩) <;> (have hs := h; try simp only [cs, reduceCtorEq, Int.reduceEq, Int.reduceNe, Int.reduceLT, Int.reduceLE, Int.reduceBEq, Int.reduceBNe] at hs)) | ((with_reducible show _ ∧ _ ∧ Weak _ _ _); refine ⟨?_, ?_, Weak.go⟩; (omega)) | ((with_reducible show (_ ∧ _ ∧ _) ∧ _); refine ⟨⟨by kernel_rfl, by kernel_rfl, by rfl⟩, ?_⟩) | ((with_reducible show AV.pf _ = true ∧ _); refine pfA ?_) | (refine ⟨rfl, ?_, ?_, ?_⟩; exact okG; exact okG) | ((with_reducible show (_ ∨ _) ∧ _ ∧ retA _ _ _ _ _); refine ⟨?_, rfl, ?_⟩; (first | exact .inr rfl | exact .inl rfl)) | ((with_reducible show _ = _ ∧ _ = false ∧ _ = _); refine ⟨?_, rfl, rfl⟩; try (first | rfl | (conv => lhs; whnf))) | ((with_reducible show LeqD _ _); try (first | exact okN | (first | rfl | (conv => lhs; whnf))); done) | ((with_reducible show _ = _ ∧ (_ → _)); refine ⟨?_, ?_⟩; try (first | rfl | (conv => lhs; whnf))) | exact fun h => h | exact fun _ => rfl | refine ⟨rfl, ?_⟩ | (refine ⟨Nat.le_of_ble_eq_true rfl, ?_⟩) | (refine ⟨?_, ?_, ?_⟩; exact okS; exact okS) | (refine ⟨?_, ?_⟩; exact okS) | rw [wrapId (by omega) (by omega)] | fail)
      conv => whnf
      refine ⟨.inr rfl, List.length_set, ?_⟩
      conv => whnf
      obtain rfl : i = n := by omega
      exact InsR.set (B' := wrL B (0 + i * 3) ((F.drop 0).take (1 * 3))) (pfL_wrL pB (pfL_take _ (pfL_drop _ pF))) hle hc (by rw [wrL_len (by simp; omega)]; exact hB) (by rw [takeF hF, Nat.zero_add]; exact insTake0 hF (by omega))
    · repeat' ((conv => whnf); (fail_if_success (with_reducible show ∃ _, _ ∧ _ ∧ Weak _ _ _)); first | ((with_reducible show guardA _ _ _ _ _ _ ∨ _); first | (refine .inr ?_; (conv => whnf); refine ⟨_, ?_, fun h => rfl, rfl, ?_⟩; ((conv => whnf); first | exact trivial | (refine ⟨?_, trivial⟩; exact okG))) | (refine .inr ?_; (conv => whnf); refine ⟨_, trivial, fun h => ⟨?_, ?_, ?_, rfl⟩, rfl, ?_⟩; (first | exact h | rfl); exact okG; exact okG) | refine .inl ?_) | refine cY ?_ | refine cN ?_ | refine gA ?_ | refine gB ?_ | refine gC ?_ | ((first | refine gsT (fun h => ?_) (fun h => ?_) | refine gsF (fun h => ?_) (fun h => ?_) | refine ⟨fun h => ?_, fun h => ?_⟩) <;> (have hs := h; try simp only [cs, reduceCtorEq, Int.reduceEq, Int.reduceNe, Int.reduceLT, Int.reduceLE, Int.reduceBEq, Int.reduceBNe] at hs)) | ((with_reducible show _ ∧ _ ∧ Weak _ _ _); refine ⟨?_, ?_, Weak.go⟩; (omega)) | ((with_reducible show (_ ∧ _ ∧ _) ∧ _); refine ⟨⟨by kernel_rfl, by kernel_rfl, by rfl⟩, ?_⟩) | ((with_reducible show AV.pf _ = true ∧ _); refine pfA ?_) | (refine ⟨rfl, ?_, ?_, ?_⟩; exact okG; exact okG) | ((with_reducible show (_ ∨ _) ∧ _ ∧ retA _ _ _ _ _); refine ⟨?_, rfl, ?_⟩; (first | exact .inr rfl | exact .inl rfl)) | ((with_reducible show _ = _ ∧ _ = false ∧ _ = _); refine ⟨?_, rfl, rfl⟩; try (first | rfl | (conv => lhs; whnf))) | ((with_reducible show LeqD _ _); try (first | exact okN | (first | rfl | (conv => lhs; whnf))); done) | ((with_reducible show _ = _ ∧ (_ → _)); refine ⟨?_, ?_⟩; try (first | rfl | (conv => lhs; whnf))) | exact fun h => h | exact fun _ => rfl | refine ⟨rfl, ?_⟩ | (refine ⟨Nat.le_of_ble_eq_true rfl, ?_⟩) | (refine ⟨?_, ?_, ?_⟩; exact okS; exact okS) | (refine ⟨?_, ?_⟩; exact okS) | rw [wrapId (by omega) (by omega)] | fail)
      conv => whnf
      refine ⟨.inr rfl, rfl, ?_⟩
      conv => whnf
      obtain rfl : i = n := by omega
      exact InsR.new (j := 0) (B' := grownL ((B.drop 0).take (i * 3)) ((F.drop 0).take (1 * 3)) (c' - (i + 1)) (.agg #[.string .empty, .string .empty, .int .i64 0])) (pfL_append (pfL_append (pfL_take _ (pfL_drop _ pB)) (pfL_take _ (pfL_drop _ pF))) (pfL_rep rfl _)) k1 k2 (by simp only [grownL, List.length_append, List.length_take, List.length_drop, repLen, zl42, hF, hB]; omega) (by unfold grownL; rw [takeF hF, List.drop_zero]; exact insTake0 hF (by omega)) rfl
  · have w1 : IntKind.i64.wrap ((n : Int) + (1 : Nat)) = ((n + 1 : Nat) : Int) := by rw [wrapId (by omega) (by omega)]; omega
    have w2 : IntKind.i64.wrap (((n + 1 : Nat) : Int) - (i : Int)) = ((n + 1 - i : Nat) : Int) := by rw [wrapId (by omega) (by omega)]; omega
    have hgt : cp < n + 1 := by rw [w1] at hs; omega
    have hin : i < n := by omega
    have hb0 : Nat.beq cp 0 = false := by rw [← Bool.not_eq_true]; intro h; have := Nat.eq_of_beq_eq_true h; omega
    conv => whnf
    have e1 : (i : Int).toNat - 0 + ((n + 1 - i : Nat) : Int).toNat = n + 1 := by omega
    rw [w1, w2, hb0, e1]
    refine ⟨by show (0 : Int) < ((n + 1 - i : Nat) : Int); omega, by show (n + 1) * 40 ≤ _; omega, by show n + 1 ≤ _; omega, by show (0 + 0 * 3) + (cp - 0) * 3 ≤ _; omega, by show cp - 0 < n + 1; omega, fun c' k1 k2 => ?_⟩
    have hbj : Nat.beq c' (i + 1) = false := by rw [← Bool.not_eq_true]; intro h; have := Nat.eq_of_beq_eq_true h; omega
    have hbp : Nat.beq cp i = false := by rw [← Bool.not_eq_true]; intro h; have := Nat.eq_of_beq_eq_true h; omega
    have hbi : Nat.beq c' i = false := by rw [← Bool.not_eq_true]; intro h; have := Nat.eq_of_beq_eq_true h; omega
    repeat' ((conv => whnf); (fail_if_success (with_reducible show ∃ _, _ ∧ _ ∧ Weak _ _ _)); first | ((with_reducible show guardA _ _ _ _ _ _ ∨ _); first | (refine .inr ?_; (conv => whnf); refine ⟨_, ?_, fun h => rfl, rfl, ?_⟩; ((conv => whnf); first | exact trivial | (refine ⟨?_, trivial⟩; exact okG))) | (refine .inr ?_; (conv => whnf); refine ⟨_, trivial, fun h => ⟨?_, ?_, ?_, rfl⟩, rfl, ?_⟩; (first | exact h | rfl); exact okG; exact okG) | refine .inl ?_) | refine cY ?_ | refine cN ?_ | refine gA ?_ | refine gB ?_ | refine gC ?_ | ((first | refine gsT (fun h => ?_) (fun h => ?_) | refine gsF (fun h => ?_) (fun h => ?_) | refine ⟨fun h => ?_, fun h => ?_⟩) <;> (have hs := h; try simp only [cs, reduceCtorEq, Int.reduceEq, Int.reduceNe, Int.reduceLT, Int.reduceLE, Int.reduceBEq, Int.reduceBNe] at hs)) | ((with_reducible show _ ∧ _ ∧ Weak _ _ _); refine ⟨?_, ?_, Weak.go⟩; (omega)) | refine XW.dr (m := 8) ?_ | (first | rw [h2] | rw [h1] | (refine ⟨.inl rfl, ?_⟩)) | ((with_reducible show (_ ∧ _ ∧ _) ∧ _); refine ⟨⟨by kernel_rfl, by kernel_rfl, by rfl⟩, ?_⟩) | ((with_reducible show AV.pf _ = true ∧ _); refine pfA ?_) | (refine ⟨rfl, ?_, ?_, ?_⟩; exact okG; exact okG) | ((with_reducible show (_ ∨ _) ∧ _ ∧ retA _ _ _ _ _); refine ⟨?_, rfl, ?_⟩; (first | exact .inr rfl | exact .inl rfl)) | ((with_reducible show _ = _ ∧ _ = false ∧ _ = _); refine ⟨?_, rfl, rfl⟩; try (first | rfl | (conv => lhs; whnf))) | ((with_reducible show LeqD _ _); try (first | exact okN | (first | rfl | (conv => lhs; whnf))); done) | ((with_reducible show _ = _ ∧ (_ → _)); refine ⟨?_, ?_⟩; try (first | rfl | (conv => lhs; whnf))) | exact fun h => h | exact fun _ => rfl | refine ⟨rfl, ?_⟩ | (refine ⟨Nat.le_of_ble_eq_true rfl, ?_⟩) | (refine ⟨?_, ?_, ?_⟩; ((try simp only [s41, co41, b41, zl41, hb0, Nat.sub_zero, grownL, repLen, toNat_i, toNat_i1, nmin, hbj, hbp, cond_false, hbi, wrL_len', hF, hB, List.length_append, List.length_take, List.length_drop]); omega); ((try simp only [s41, co41, b41, zl41, hb0, Nat.sub_zero, grownL, repLen, toNat_i, toNat_i1, nmin, hbj, hbp, cond_false, hbi, wrL_len', hF, hB, List.length_append, List.length_take, List.length_drop]); omega)) | (refine ⟨?_, ?_⟩; ((try simp only [s41, co41, b41, zl41, hb0, Nat.sub_zero, grownL, repLen, toNat_i, toNat_i1, nmin, hbj, hbp, cond_false, hbi, wrL_len', hF, hB, List.length_append, List.length_take, List.length_drop]); omega)) | rw [wrapId (by omega) (by omega)] | fail)
    conv => whnf
    refine ⟨.inr rfl, rfl, ?_⟩
    conv => whnf
    refine InsR.new (j := 0) ?_ k1 k2 ?_ ?_ rfl
    all_goals simp only [s41, co41, hbj, hbp, hbi, toNat_i, toNat_i1, cond_false, Nat.sub_zero, Nat.zero_add, Nat.zero_mul, List.drop_zero, nmin]
    · repeat' (first | assumption | apply pfL_wrL | apply pfL_append | apply pfL_take | apply pfL_drop | exact pfL_rep rfl _)
    · simp only [wrL_len', grownL, List.length_append, List.length_take, List.length_drop, repLen, zl41, hF, hB]; omega
    · rw [show List.take (min 1 (n + 1 - i) * 3) (List.take (1 * 3) F) = F from by rw [List.take_of_length_le (by simp only [List.length_take]; omega), List.take_of_length_le (by omega)]]
      refine insTake1 (B := B) hF ?_ ?_ (by omega) hin ?_
      · unfold grownL
        rw [List.append_assoc, List.take_append_of_le_length (by simp only [List.length_take]; omega), List.take_take, Nat.min_self]
      · simp only [grownL, List.length_append, List.length_take, repLen, zl41]; omega
      · rw [List.take_take, List.drop_take]; congr 1; omega
  · have w1 : IntKind.i64.wrap ((n : Int) + (1 : Nat)) = ((n + 1 : Nat) : Int) := by rw [wrapId (by omega) (by omega)]; omega
    have hgt : n + 1 ≤ cp := by rw [w1] at hs; omega
    have hin : i < n := by omega
    have hbj : Nat.beq cp (i + 1) = false := by rw [← Bool.not_eq_true]; intro h; have := Nat.eq_of_beq_eq_true h; omega
    have hbp := hbj
    have hbi : Nat.beq cp i = false := by rw [← Bool.not_eq_true]; intro h; have := Nat.eq_of_beq_eq_true h; omega
    have hb0 : Nat.beq cp 0 = false := by rw [← Bool.not_eq_true]; intro h; have := Nat.eq_of_beq_eq_true h; omega
    repeat' ((conv => whnf); (fail_if_success (with_reducible show ∃ _, _ ∧ _ ∧ Weak _ _ _)); first | ((with_reducible show guardA _ _ _ _ _ _ ∨ _); first | (refine .inr ?_; (conv => whnf); refine ⟨_, ?_, fun h => rfl, rfl, ?_⟩; ((conv => whnf); first | exact trivial | (refine ⟨?_, trivial⟩; exact okG))) | (refine .inr ?_; (conv => whnf); refine ⟨_, trivial, fun h => ⟨?_, ?_, ?_, rfl⟩, rfl, ?_⟩; (first | exact h | rfl); exact okG; exact okG) | refine .inl ?_) | refine cY ?_ | refine cN ?_ | refine gA ?_ | refine gB ?_ | refine gC ?_ | ((first | refine gsT (fun h => ?_) (fun h => ?_) | refine gsF (fun h => ?_) (fun h => ?_) | refine ⟨fun h => ?_, fun h => ?_⟩) <;> (have hs := h; try simp only [cs, reduceCtorEq, Int.reduceEq, Int.reduceNe, Int.reduceLT, Int.reduceLE, Int.reduceBEq, Int.reduceBNe] at hs)) | ((with_reducible show _ ∧ _ ∧ Weak _ _ _); refine ⟨?_, ?_, Weak.go⟩; (omega)) | refine XW.dr (m := 8) ?_ | (first | (refine ⟨_, ExtAt.overlaps (qx := q2) (qy := q) rfl rfl rfl rfl rfl rfl rfl rfl rfl (Ne.symm hq) (by simpa using h2) (by simpa using h1) (by intro e; rw [e] at hB; simp at hB; omega), ?_⟩) | rw [h2] | rw [h1] | rw [List.getElem?_set_self (List.getElem?_eq_some_iff.1 h1).1] | rw [List.getElem?_set_ne hq] | rw [w1] | (refine ⟨.inr (pfL_take _ (pfL_drop _ pB)), ?_⟩) | (refine ⟨.inr (pfL_take _ (pfL_drop _ pF)), ?_⟩)) | ((with_reducible show (_ ∧ _ ∧ _) ∧ _); refine ⟨⟨by kernel_rfl, by kernel_rfl, by rfl⟩, ?_⟩) | ((with_reducible show AV.pf _ = true ∧ _); refine pfA ?_) | (refine ⟨rfl, ?_, ?_, ?_⟩; exact okG; exact okG) | ((with_reducible show (_ ∨ _) ∧ _ ∧ retA _ _ _ _ _); refine ⟨?_, rfl, ?_⟩; (first | exact .inr rfl | exact .inl rfl)) | ((with_reducible show _ = _ ∧ _ = false ∧ _ = _); refine ⟨?_, rfl, rfl⟩; try (first | rfl | (conv => lhs; whnf))) | ((with_reducible show LeqD _ _); try (first | exact okN | (first | rfl | (conv => lhs; whnf))); done) | ((with_reducible show _ = _ ∧ (_ → _)); refine ⟨?_, ?_⟩; try (first | rfl | (conv => lhs; whnf))) | exact fun h => h | exact fun _ => rfl | refine ⟨rfl, ?_⟩ | (refine ⟨Nat.le_of_ble_eq_true rfl, ?_⟩) | (refine ⟨?_, ?_, ?_⟩; ((try simp only [s41, co41, b41, zl41, hb0, Nat.sub_zero, grownL, repLen, toNat_i, toNat_i1, nmin, hbj, hbp, cond_false, hbi, wrL_len', hF, hB, List.length_append, List.length_take, List.length_drop]); omega); ((try simp only [s41, co41, b41, zl41, hb0, Nat.sub_zero, grownL, repLen, toNat_i, toNat_i1, nmin, hbj, hbp, cond_false, hbi, wrL_len', hF, hB, List.length_append, List.length_take, List.length_drop]); omega)) | (refine ⟨?_, ?_⟩; ((try simp only [s41, co41, b41, zl41, hb0, Nat.sub_zero, grownL, repLen, toNat_i, toNat_i1, nmin, hbj, hbp, cond_false, hbi, wrL_len', hF, hB, List.length_append, List.length_take, List.length_drop]); omega)) | rw [wrapId (by omega) (by omega)] | fail)
    conv => whnf
    refine ⟨.inr rfl, by simp only [List.length_set], ?_⟩
    conv => whnf
    rw [hb0, List.set_set]
    refine InsR.set (B' := wrL (wrL B _ _) _ _) ?_ hgt hc ?_ ?_
    all_goals simp only [s41, co41, hb0, hbj, hbp, hbi, toNat_i, toNat_i1, cond_false, Nat.sub_zero, Nat.zero_add, List.drop_zero, nmin, Nat.zero_mul]
    · repeat' (first | assumption | apply pfL_wrL | apply pfL_append | apply pfL_take | apply pfL_drop)
    · simp only [wrL_len', List.length_append, List.length_take, List.length_drop, hF, hB]; omega
    · rw [show List.take (min 1 (n + 1 - i) * 3) (List.take (1 * 3) F) = F from by rw [List.take_of_length_le (by simp only [List.length_take]; omega), List.take_of_length_le (by omega)]]
      refine insTake2 hF (by omega) hin ?_
      rw [List.take_take, List.drop_take]; congr 1; omega
end Go.Proofs.YtepdiooaoegpfaaGreatDoor.Fx
end
