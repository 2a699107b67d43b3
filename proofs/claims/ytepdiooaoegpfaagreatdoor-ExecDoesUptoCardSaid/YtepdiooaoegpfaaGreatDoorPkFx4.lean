/- Written by programs of this session: laws and contracts that the law's proof stands on, merged into one text. Conditions: none beyond those in each statement. -/
import Derived.Test.YtepdiooaoegpfaaGreatDoorPkFx3
import Derived.Test.YtepdiooaoegpfaaGreatDoorPkEv19
section
/- What commands do, each by itself. Conditions: those in each statement. -/
namespace Go.Proofs.YtepdiooaoegpfaaGreatDoor.Fx
open Go Go.Proofs Go.Ev Go.RowKit
set_option maxRecDepth 100000
set_option maxHeartbeats 1600000
set_option linter.unusedSimpArgs false
set_option linter.unusedVariables false
theorem sz2 {a b : ByteArray} (ha : a.size ≤ 140737488355328) (hb : b.size ≤ 140737488355328) : ∀ i, i < [a, b].length → ([a, b].getD i .empty).size ≤ 140737488355328
  | 0, _ => ha
  | 1, _ => hb
  | i + 2, h => absurd h (by simp)
theorem sz1 {a : ByteArray} (ha : a.size ≤ 140737488355328) : ∀ i, i < [a].length → ([a].getD i .empty).size ≤ 140737488355328
  | 0, _ => ha
  | i + 1, h => absurd h (by simp)
theorem c_copying_right {s d : ByteArray} (hz1 : s.size ≤ 140737488355328) (hz2 : d.size ≤ 140737488355328) : XPure Tryz.prog 171 [.agg [str s, str d]] (i64 (errIf ([d, s].all isName) 3)) false := by
  refine XPure.body ⟨_, Tryz.func171, rfl, by kernel_rfl⟩ Tryz.func171 rfl (Nat.le_of_ble_eq_true (by rfl)) (pf_of1 rfl) fun env => ?_
  repeat' ((conv => whnf); (fail_if_success refine zC ?_); first | refine zS ?_ | refine zB (fun h hs => ?_) (fun h hs => ?_) <;> try exact hs.elim | refine .inl ⟨_, _, c_cmd_files (l := [d, s]) (Nat.le_of_ble_eq_true rfl) (sz2 hz2 hz1), ?_⟩ | (refine .inl ?_) | exact zE | refine zZ ?_ | fail)
theorem c_joining_writes {d : ByteArray} {l : List ByteArray} : XPure Tryz.prog 179 [.agg [str d, eS l]] (.tup [str d, bln true]) false := by
  refine XPure.body ⟨_, Tryz.func179, rfl, by kernel_rfl⟩ Tryz.func179 rfl (Nat.le_of_ble_eq_true (by rfl)) (pf_of1 rfl) fun env => ?_
  repeat' ((conv => whnf); (fail_if_success refine zC ?_); first | refine zS ?_ | refine zB (fun h hs => ?_) (fun h hs => ?_) <;> try exact hs.elim | exact zE | refine zZ ?_ | fail)
theorem c_echoing_writes {d : ByteArray} {l : List ByteArray} : XPure Tryz.prog 186 [.agg [str d, eS l]] (.tup [str d, bln true]) false := by
  refine XPure.body ⟨_, Tryz.func186, rfl, by kernel_rfl⟩ Tryz.func186 rfl (Nat.le_of_ble_eq_true (by rfl)) (pf_of1 rfl) fun env => ?_
  repeat' ((conv => whnf); (fail_if_success refine zC ?_); first | refine zS ?_ | refine zB (fun h hs => ?_) (fun h hs => ?_) <;> try exact hs.elim | exact zE | refine zZ ?_ | fail)
theorem c_echoing_reads {d : ByteArray} {l : List ByteArray} : XPure Tryz.prog 182 [.agg [str d, eS l]] (eS []) false := by
  refine XPure.bodyN ⟨_, Tryz.func182, rfl, by kernel_rfl⟩ Tryz.func182 rfl (Nat.le_of_ble_eq_true (by rfl)) (pf_of1 rfl) fun env => ?_
  repeat' ((conv => whnf); (fail_if_success refine zC ?_); first | refine zS ?_ | refine zB (fun h hs => ?_) (fun h hs => ?_) <;> try exact hs.elim | exact zE | refine zZ ?_ | fail)
theorem c_touching_right {d : ByteArray} (hz : d.size ≤ 140737488355328) : XPure Tryz.prog 190 [.agg [str d]] (i64 (errIf ([d].all isName) 3)) false := by
  refine XPure.body ⟨_, Tryz.func190, rfl, by kernel_rfl⟩ Tryz.func190 rfl (Nat.le_of_ble_eq_true (by rfl)) (pf_of1 rfl) fun env => ?_
  repeat' ((conv => whnf); (fail_if_success refine zC ?_); first | refine zS ?_ | refine zB (fun h hs => ?_) (fun h hs => ?_) <;> try exact hs.elim | refine .inl ⟨_, _, c_cmd_files (l := [d]) (Nat.le_of_ble_eq_true rfl) (sz1 hz), ?_⟩ | (refine .inl ?_) | exact zE | refine zZ ?_ | fail)
theorem c_removing_right {d : ByteArray} (hz : d.size ≤ 140737488355328) : XPure Tryz.prog 195 [.agg [str d]] (i64 (errIf ([d].all isName) 3)) false := by
  refine XPure.body ⟨_, Tryz.func195, rfl, by kernel_rfl⟩ Tryz.func195 rfl (Nat.le_of_ble_eq_true (by rfl)) (pf_of1 rfl) fun env => ?_
  repeat' ((conv => whnf); (fail_if_success refine zC ?_); first | refine zS ?_ | refine zB (fun h hs => ?_) (fun h hs => ?_) <;> try exact hs.elim | refine .inl ⟨_, _, c_cmd_files (l := [d]) (Nat.le_of_ble_eq_true rfl) (sz1 hz), ?_⟩ | (refine .inl ?_) | exact zE | refine zZ ?_ | fail)
theorem c_testing_right {d : ByteArray} (hz : d.size ≤ 140737488355328) : XPure Tryz.prog 200 [.agg [str d]] (i64 (errIf ([d].all isName) 3)) false := by
  refine XPure.body ⟨_, Tryz.func200, rfl, by kernel_rfl⟩ Tryz.func200 rfl (Nat.le_of_ble_eq_true (by rfl)) (pf_of1 rfl) fun env => ?_
  repeat' ((conv => whnf); (fail_if_success refine zC ?_); first | refine zS ?_ | refine zB (fun h hs => ?_) (fun h hs => ?_) <;> try exact hs.elim | refine .inl ⟨_, _, c_cmd_files (l := [d]) (Nat.le_of_ble_eq_true rfl) (sz1 hz), ?_⟩ | (refine .inl ?_) | exact zE | refine zZ ?_ | fail)
theorem c_saying_right {l : List ByteArray} : XPure Tryz.prog 210 [.agg [eS l]] (i64 (if 512 < l.length then 160 else 0)) false := by
  refine XPure.body ⟨_, Tryz.func210, rfl, by kernel_rfl⟩ Tryz.func210 rfl (Nat.le_of_ble_eq_true (by rfl)) (pf_of1 rfl) fun env => ?_
  repeat' ((conv => whnf); (fail_if_success refine zC ?_); first | refine zS ?_ | refine zB (fun h hs => ?_) (fun h hs => ?_) <;> try exact hs.elim | refine .inl ⟨_, _, c_cmd_few, ?_⟩ | exact zE | refine zZ ?_ | fail)
theorem c_failing_right {n : Int} : XPure Tryz.prog 205 [.agg [i64 n]] (i64 (if n < 1 ∨ 255 < n then 160 else 0)) false := by
  refine XPure.body ⟨_, Tryz.func205, rfl, by kernel_rfl⟩ Tryz.func205 rfl (Nat.le_of_ble_eq_true (by rfl)) (pf_of1 rfl) fun env => ?_
  repeat' ((conv => whnf); (fail_if_success refine zC ?_); first | refine zS ?_ | refine zB (fun h hs => ?_) (fun h hs => ?_) <;> try exact hs.elim | exact zE | refine zZ ?_ | fail)
  all_goals refine congrArg i64 ?_
  all_goals (simp only [cs, reduceCtorEq, Int.reduceEq, Int.reduceNe, Int.reduceLT, Int.reduceLE, Int.reduceBEq, Int.reduceBNe] at *; grind)
theorem methods1 : (∀ {s d : ByteArray}, XPure Tryz.prog 170 [.agg [str s, str d]] (eS [s]) false) ∧ (∀ {d : ByteArray}, XPure Tryz.prog 199 [.agg [str d]] (eS [d]) false) := by
  refine ⟨?_, ?_⟩ <;> intros
  all_goals first
    | refine XPure.body ⟨_, Tryz.func170, rfl, by kernel_rfl⟩ Tryz.func170 rfl (Nat.le_of_ble_eq_true (by rfl)) (pf_of1 rfl) fun env => ?_
    | refine XPure.body ⟨_, Tryz.func199, rfl, by kernel_rfl⟩ Tryz.func199 rfl (Nat.le_of_ble_eq_true (by rfl)) (pf_of1 rfl) fun env => ?_
  all_goals
    repeat' ((conv => whnf); (fail_if_success refine zC ?_); first | refine zS ?_ | refine zB (fun h hs => ?_) (fun h hs => ?_) <;> try exact hs.elim | (refine .inl ?_) | exact zE | refine zZ ?_ | fail)
theorem c_copying_reads {s d : ByteArray} : XPure Tryz.prog 170 [.agg [str s, str d]] (eS [s]) false := methods1.1
theorem c_testing_reads {d : ByteArray} : XPure Tryz.prog 199 [.agg [str d]] (eS [d]) false := methods1.2
theorem methods2 : (∀ {s d : ByteArray}, XPure Tryz.prog 174 [.agg [str s, str d]] (.tup [str d, bln true]) false) ∧ (∀ {s d : ByteArray}, XPure Tryz.prog 172 [.agg [str s, str d]] (str .empty) false) ∧ (∀ {d : ByteArray}, XPure Tryz.prog 193 [.agg [str d]] (.tup [str d, bln true]) false) ∧ (∀ {d : ByteArray}, XPure Tryz.prog 191 [.agg [str d]] (str .empty) false) ∧ (∀ {d : ByteArray}, XPure Tryz.prog 198 [.agg [str d]] (.tup [str d, bln true]) false) ∧ (∀ {d : ByteArray}, XPure Tryz.prog 196 [.agg [str d]] (str .empty) false) ∧ (∀ {d : ByteArray}, XPure Tryz.prog 203 [.agg [str d]] (.tup [str .empty, bln false]) false) ∧ (∀ {d : ByteArray}, XPure Tryz.prog 201 [.agg [str d]] (str .empty) false) ∧ (∀ {n : Int}, XPure Tryz.prog 208 [.agg [i64 n]] (.tup [str .empty, bln false]) false) ∧ (∀ {n : Int}, XPure Tryz.prog 206 [.agg [i64 n]] (str .empty) false) ∧ (∀ {l : List ByteArray}, XPure Tryz.prog 213 [.agg [eS l]] (.tup [str .empty, bln false]) false) := by
  refine ⟨?_, ?_, ?_, ?_, ?_, ?_, ?_, ?_, ?_, ?_, ?_⟩ <;> intros
  all_goals first
    | refine XPure.body ⟨_, Tryz.func174, rfl, by kernel_rfl⟩ Tryz.func174 rfl (Nat.le_of_ble_eq_true (by rfl)) (pf_of1 rfl) fun env => ?_
    | refine XPure.body ⟨_, Tryz.func172, rfl, by kernel_rfl⟩ Tryz.func172 rfl (Nat.le_of_ble_eq_true (by rfl)) (pf_of1 rfl) fun env => ?_
    | refine XPure.body ⟨_, Tryz.func193, rfl, by kernel_rfl⟩ Tryz.func193 rfl (Nat.le_of_ble_eq_true (by rfl)) (pf_of1 rfl) fun env => ?_
    | refine XPure.body ⟨_, Tryz.func191, rfl, by kernel_rfl⟩ Tryz.func191 rfl (Nat.le_of_ble_eq_true (by rfl)) (pf_of1 rfl) fun env => ?_
    | refine XPure.body ⟨_, Tryz.func198, rfl, by kernel_rfl⟩ Tryz.func198 rfl (Nat.le_of_ble_eq_true (by rfl)) (pf_of1 rfl) fun env => ?_
    | refine XPure.body ⟨_, Tryz.func196, rfl, by kernel_rfl⟩ Tryz.func196 rfl (Nat.le_of_ble_eq_true (by rfl)) (pf_of1 rfl) fun env => ?_
    | refine XPure.body ⟨_, Tryz.func203, rfl, by kernel_rfl⟩ Tryz.func203 rfl (Nat.le_of_ble_eq_true (by rfl)) (pf_of1 rfl) fun env => ?_
    | refine XPure.body ⟨_, Tryz.func201, rfl, by kernel_rfl⟩ Tryz.func201 rfl (Nat.le_of_ble_eq_true (by rfl)) (pf_of1 rfl) fun env => ?_
    | refine XPure.body ⟨_, Tryz.func208, rfl, by kernel_rfl⟩ Tryz.func208 rfl (Nat.le_of_ble_eq_true (by rfl)) (pf_of1 rfl) fun env => ?_
    | refine XPure.body ⟨_, Tryz.func206, rfl, by kernel_rfl⟩ Tryz.func206 rfl (Nat.le_of_ble_eq_true (by rfl)) (pf_of1 rfl) fun env => ?_
    | refine XPure.body ⟨_, Tryz.func213, rfl, by kernel_rfl⟩ Tryz.func213 rfl (Nat.le_of_ble_eq_true (by rfl)) (pf_of1 rfl) fun env => ?_
  all_goals
    repeat' ((conv => whnf); (fail_if_success refine zC ?_); first | refine zS ?_ | refine zB (fun h hs => ?_) (fun h hs => ?_) <;> try exact hs.elim | exact zE | refine zZ ?_ | fail)
theorem c_copying_writes {s d : ByteArray} : XPure Tryz.prog 174 [.agg [str s, str d]] (.tup [str d, bln true]) false := methods2.1
theorem c_touching_writes {d : ByteArray} : XPure Tryz.prog 193 [.agg [str d]] (.tup [str d, bln true]) false := methods2.2.2.1
theorem c_removing_writes {d : ByteArray} : XPure Tryz.prog 198 [.agg [str d]] (.tup [str d, bln true]) false := methods2.2.2.2.2.1
theorem c_testing_writes {d : ByteArray} : XPure Tryz.prog 203 [.agg [str d]] (.tup [str .empty, bln false]) false := methods2.2.2.2.2.2.2.1
theorem c_failing_writes {n : Int} : XPure Tryz.prog 208 [.agg [i64 n]] (.tup [str .empty, bln false]) false := methods2.2.2.2.2.2.2.2.2.1
theorem c_saying_writes {l : List ByteArray} : XPure Tryz.prog 213 [.agg [eS l]] (.tup [str .empty, bln false]) false := methods2.2.2.2.2.2.2.2.2.2.2
theorem methods3 : (∀ {d : ByteArray}, XPure Tryz.prog 189 [.agg [str d]] (eS []) false) ∧ (∀ {d : ByteArray}, XPure Tryz.prog 194 [.agg [str d]] (eS []) false) ∧ (∀ {n : Int}, XPure Tryz.prog 204 [.agg [i64 n]] (eS []) false) ∧ (∀ {l : List ByteArray}, XPure Tryz.prog 209 [.agg [eS l]] (eS []) false) := by
  refine ⟨?_, ?_, ?_, ?_⟩ <;> intros
  all_goals first
    | refine XPure.bodyN ⟨_, Tryz.func189, rfl, by kernel_rfl⟩ Tryz.func189 rfl (Nat.le_of_ble_eq_true (by rfl)) (pf_of1 rfl) fun env => ?_
    | refine XPure.bodyN ⟨_, Tryz.func194, rfl, by kernel_rfl⟩ Tryz.func194 rfl (Nat.le_of_ble_eq_true (by rfl)) (pf_of1 rfl) fun env => ?_
    | refine XPure.bodyN ⟨_, Tryz.func204, rfl, by kernel_rfl⟩ Tryz.func204 rfl (Nat.le_of_ble_eq_true (by rfl)) (pf_of1 rfl) fun env => ?_
    | refine XPure.bodyN ⟨_, Tryz.func209, rfl, by kernel_rfl⟩ Tryz.func209 rfl (Nat.le_of_ble_eq_true (by rfl)) (pf_of1 rfl) fun env => ?_
  all_goals
    repeat' ((conv => whnf); (fail_if_success refine zC ?_); first | refine zS ?_ | refine zB (fun h hs => ?_) (fun h hs => ?_) <;> try exact hs.elim | exact zE | refine zZ ?_ | fail)
theorem c_touching_reads {d : ByteArray} : XPure Tryz.prog 189 [.agg [str d]] (eS []) false := methods3.1
theorem c_removing_reads {d : ByteArray} : XPure Tryz.prog 194 [.agg [str d]] (eS []) false := methods3.2.1
theorem c_failing_reads {n : Int} : XPure Tryz.prog 204 [.agg [i64 n]] (eS []) false := methods3.2.2.1
theorem c_saying_reads {l : List ByteArray} : XPure Tryz.prog 209 [.agg [eS l]] (eS []) false := methods3.2.2.2
end Go.Proofs.YtepdiooaoegpfaaGreatDoor.Fx
end
section
/- Plans. Conditions: those in each statement. -/
namespace Go.Proofs.YtepdiooaoegpfaaGreatDoor.Fx
open Go Go.Proofs Go.Ev Go.RowKit
set_option maxRecDepth 100000
set_option maxHeartbeats 1600000
set_option linter.unusedSimpArgs false
set_option linter.unusedVariables false
theorem env_own {env own : List Bx} {b i : Nat} {l : List (ByteArray × AV)} (h : own[i]? = some (.map l)) : (env ++ own.map (Bx.up b))[env.length + i]? = some (.map l) := by
  rw [List.getElem?_append_right (by omega), Nat.add_sub_cancel_left, List.getElem?_map, h]; rfl
theorem getD_mem {α : Type} {l : List α} {i : Nat} (d : α) (h : i < l.length) : l.getD i d ∈ l := by simp [List.getD_eq_getElem?_getD, h]
theorem planOk_bad {nodes : List Node} {goals : List ByteArray} (h : 256 < nodes.length ∨ goals.length < 1 ∨ 512 < goals.length) : planOk nodes goals = false := by
  rw [← Bool.not_eq_true]; simp only [planOk, Bool.and_eq_true, decide_eq_true_eq]; omega
theorem map_next {l : List Node} {i : Nat} (h : i < l.length) (hr : rightN (targets (l.take i)) (l.getD i default) = true) : setM (mOf (targets (l.take i))) (l.getD i default).target (i64 1) = mOf (targets (l.take (i + 1))) := by
  rw [setM_mOf _ _ (rightN_target hr), ← targets_succ h]
theorem c_resolve_Check {nodes : List Node} {goals : List ByteArray} (hz : ∀ n ∈ nodes, SzN n) : XPure Tryz.prog 42 [eP nodes goals] (i64 (errIf (planOk nodes goals) 7)) false := by
  refine XPure.body ⟨_, Tryz.func42, rfl, by kernel_rfl⟩ Tryz.func42 rfl (Nat.le_of_ble_eq_true (by rfl)) (pf_of1 rfl) fun env => ?_
  repeat' ((conv => whnf); (fail_if_success refine zC ?_); first | refine zS ?_ | refine zB (fun h hs => ?_) (fun h hs => ?_) <;> try exact hs.elim | exact zE | refine zZ ?_ | fail)
  all_goals try (rw [planOk_bad (by omega)]; rfl)
  have hF : planOk nodes goals = (nodesOk [] nodes && goalsOk (targets nodes) [] goals) := by
    have : decide (nodes.length ≤ 256) = true ∧ decide (1 ≤ goals.length) = true ∧ decide (goals.length ≤ 512) = true := ⟨decide_eq_true (by omega), decide_eq_true (by omega), decide_eq_true (by omega)⟩
    simp [planOk, this]
  refine XW.countL nodes.length [1, 3, 26, 27] (fun i => [(28, i64 i)]) (fun _ => []) (fun i => [.cells (eP nodes goals).leaves [], .map (mOf (targets (nodes.take i)))]) (fun i => nodesOk [] nodes = nodesOk (targets (nodes.take i)) (nodes.drop i)) Weak.go rfl ?_
  intro i hi hA
  refine codeS ?_
  repeat' ((conv => whnf); first | ((with_reducible show _ ∧ _ ∧ Weak _ _ _); have hM := map_next ‹i < nodes.length› (by assumption); refine ⟨?_, ?_, Weak.go⟩; omega) | refine zS ?_ | refine zB (fun h hs => ?_) (fun h hs => ?_) <;> try exact hs.elim | (refine callG_same ⟨_, Tryz.func64, rfl, by kernel_rfl⟩ (by rfl) (c_right (n := nodes.getD i default) (ahead := targets (nodes.take i)) (env_own rfl) (hz _ (getD_mem _ (by assumption)))) ?_) | exact zE | refine zZ ?_ | rw [getD_mapI ((default : Node)) (by omega)] | rw [getD_map ((default : Node)) (by omega)] | fail)
  · have e : planOk nodes goals = false := by rw [hF, hA, nodesOk_step ‹_›, hs]; rfl
    rw [e]; rfl
  · rw [hA, nodesOk_step ‹_›, hs, Bool.true_and]
  have hN : nodesOk [] nodes = true := by rw [hA, nodesOk_end hs]
  have hT : targets (nodes.take i) = targets nodes := by rw [List.take_of_length_le (by omega)]
  rw [hT]
  refine XW.countL goals.length [1, 3, 41, 42] (fun i => [(43, i64 i)]) (fun _ => []) (fun _ => [.cells (eP nodes goals).leaves [], .map (mOf (targets nodes))]) (fun i => goalsOk (targets nodes) [] goals = goalsOk (targets nodes) (goals.take i) (goals.drop i)) Weak.go rfl ?_
  intro k hk hB
  refine codeS ?_
  repeat' ((conv => whnf); first | ((with_reducible show (∀ _ : AV, _) ∧ _); refine ⟨fun x hx => ?_, fun hx => ?_⟩; (obtain ⟨rfl, hx⟩ := getM_some hx)) | refine zS ?_ | refine zB (fun h hs => ?_) (fun h hs => ?_) <;> try exact hs.elim | refine .inl ⟨_, _, c_ContainsT (by omega), ?_⟩ | ((refine ⟨_, rfl, ?_⟩)) | exact zE | refine zZ ?_ | rw [getD_mapI (ByteArray.empty) (by omega)] | rw [getD_map (ByteArray.empty) (by omega)] | fail)
  all_goals clear hz hA
  all_goals try (replace hx := getM_none ‹_›)
  all_goals try (have e : planOk nodes goals = true := by (rw [hF, hN, hB, goalsOk_end (by assumption)]; rfl))
  all_goals try (rw [e]; done)
  all_goals try (rw [e]; rfl)
  all_goals have hk' : k < goals.length := by assumption
  all_goals try (have e : planOk nodes goals = false := by (rw [hF, hN, hB, goalsOk_step hk']; grind))
  all_goals try (rw [e]; rfl)
  all_goals (rw [hB, goalsOk_step hk']; grind)
end Go.Proofs.YtepdiooaoegpfaaGreatDoor.Fx
end
section
/- Names without doubles; operations of words. Conditions: those in each statement. -/
namespace Go.Proofs.YtepdiooaoegpfaaGreatDoor.Fx
open Go Go.Proofs Go.Ev Go.RowKit
set_option maxRecDepth 100000
set_option maxHeartbeats 1600000
set_option linter.unusedSimpArgs false
set_option linter.unusedVariables false
theorem map_snoc {α : Type} (f : α → AV) (l : List α) (x : α) : l.map f ++ [f x] = (l ++ [x]).map f := by simp
/-- Texts without doubles, behind those that are there. -/
def uniqGo (out : List ByteArray) : List ByteArray → List ByteArray
  | [] => out
  | x :: r => if hasS out x then uniqGo out r else uniqGo (out ++ [x]) r
theorem uniqGo_step {out l : List ByteArray} {i : Nat} (h : i < l.length) : uniqGo out (l.drop i) = if hasS out (l.getD i .empty) = true then uniqGo out (l.drop (i + 1)) else uniqGo (out ++ [l.getD i .empty]) (l.drop (i + 1)) := by
  rw [drop_getD .empty h]; rfl
theorem c_Unique {l : List ByteArray} (hl : l.length ≤ 1000000000) : XPure Tryz.prog 180 [eS l] (eS (uniqGo [] l)) false := by
  refine XPure.bodyN ⟨_, Tryz.func180, rfl, by kernel_rfl⟩ Tryz.func180 rfl (Nat.le_of_ble_eq_true (by rfl)) (pf_of1 rfl) fun env => ?_
  repeat' ((conv => whnf); (fail_if_success refine zC ?_); first | refine zS ?_ | refine zB (fun h hs => ?_) (fun h hs => ?_) <;> try exact hs.elim | exact zE | refine zZ ?_ | fail)
  refine XW.overL [2, 6, 7] (fun (p : Nat × List ByteArray) => [(3, eS p.2), (8, i64 p.1)]) (fun _ => [3]) (fun _ => []) (fun p => p.1 ≤ l.length ∧ p.2.length ≤ p.1 ∧ uniqGo p.2 (l.drop p.1) = uniqGo [] l) (fun p => l.length - p.1) (0, []) Weak.go ⟨Nat.zero_le _, Nat.zero_le _, rfl⟩ ?_
  rintro ⟨i, out⟩ ⟨hi, ho, hA⟩
  dsimp only at hi ho hA ⊢
  refine codeS ?_
  have hM := map_snoc (fun x : ByteArray => AV.v (.string x)) out (l.getD i .empty)
  iterate 14 any_goals try ((conv => whnf); (fail_if_success refine zC ?_); first | refine zS ?_ | refine zB (fun h hs => ?_) (fun h hs => ?_) <;> try exact hs.elim | refine .inl ⟨_, _, c_Contains (by omega), ?_⟩ | exact zE | refine zZ ?_ | rw [getD_mapI (ByteArray.empty) (by omega)] | rw [getD_map (ByteArray.empty) (by omega)] | fail)
  · refine ⟨(i + 1, out ++ [l.getD i .empty]), by dsimp only; omega, ⟨by dsimp only; omega, by simp only [List.length_append, List.length_cons, List.length_nil]; omega, ?_⟩, Weak.go⟩
    dsimp only
    rw [← hA, uniqGo_step (i := i) (out := out) (by assumption), if_neg (by rw [hs]; simp)]
  · refine ⟨(i + 1, out), by dsimp only; omega, ⟨by dsimp only; omega, by dsimp only; omega, ?_⟩, Weak.go⟩
    dsimp only
    rw [← hA, uniqGo_step (i := i) (out := out) (by assumption), if_pos hs]
  · have e : uniqGo [] l = out := by rw [← hA, List.drop_eq_nil_of_le (by omega)]; rfl
    rw [e]; exact LeqD.refl _
end Go.Proofs.YtepdiooaoegpfaaGreatDoor.Fx
end
section
/- The other methods of commands. Conditions: those in each statement. -/
namespace Go.Proofs.YtepdiooaoegpfaaGreatDoor.Fx
open Go Go.Proofs Go.Ev Go.RowKit
set_option maxRecDepth 100000
set_option maxHeartbeats 1600000
set_option linter.unusedSimpArgs false
set_option linter.unusedVariables false
theorem c_joining_reads {d : ByteArray} {l : List ByteArray} (hl : l.length ≤ 1000000000) : XPure Tryz.prog 175 [.agg [str d, eS l]] (eS (uniqGo [] l)) false := by
  refine XPure.body ⟨_, Tryz.func175, rfl, by kernel_rfl⟩ Tryz.func175 rfl (Nat.le_of_ble_eq_true (by rfl)) (pf_of1 rfl) fun env => ?_
  repeat' ((conv => whnf); (fail_if_success refine zC ?_); first | refine zS ?_ | refine zB (fun h hs => ?_) (fun h hs => ?_) <;> try exact hs.elim | refine .inl ⟨_, _, c_Unique hl, ?_⟩ | exact zE | refine zZ ?_ | fail)
end Go.Proofs.YtepdiooaoegpfaaGreatDoor.Fx
end
section
/- Copies of rows. Conditions: those in each statement. -/
namespace Go.Proofs.YtepdiooaoegpfaaGreatDoor.Fx
open Go Go.Proofs Go.Ev Go.RowKit
set_option maxRecDepth 100000
set_option maxHeartbeats 1600000
set_option linter.unusedSimpArgs false
set_option linter.unusedVariables false
abbrev eStr (x : ByteArray) : AV := .v (.string x)
theorem els_F (l : List File) : Els 3 (l.map eF) := fun x hx => by
  obtain ⟨y, _, rfl⟩ := List.mem_map.1 hx
  exact ⟨rfl, rfl⟩
theorem call_CloneF : Callable Tryz.prog 27 := ⟨_, Tryz.func27, rfl, by kernel_rfl⟩
theorem c_CloneFB {l : List AV} (hl : l.length ≤ 1000000000) (hx : Els 3 l) (env : List Bx) : XCalls Tryz.prog 27 [.sl 3 l] env (NewBox env 3 l) := by
  refine XCalls.newBox hx ?_
  refine XCalls.bodyB Tryz.func27 rfl (Nat.le_of_ble_eq_true (by rfl)) ?_
  conv => whnf
  refine ⟨fun hn => ?_, ?_⟩
  · conv => whnf
    refine cTrue rfl ?_
    conv => whnf
    refine ⟨.inr rfl, rfl, ?_⟩
    conv => whnf
    exact ⟨rfl, .inl ⟨rfl, hn, List.append_nil env⟩⟩
  · conv => whnf
    refine cFalse rfl ?_
    conv => whnf
    refine .inr ?_
    conv => whnf
    refine ⟨?_, ?_, ?_, ?_, ?_, ?_⟩
    · show (0 + l.length) * 40 ≤ _; omega
    · show 0 + l.length ≤ _; omega
    · show 0 + 0 * 3 ≤ 0; omega
    · exact .inl rfl
    · intro h0
      conv => whnf
      refine ⟨.inr rfl, rfl, ?_⟩
      conv => whnf
      have : l = [] := List.eq_nil_of_length_eq_zero (by have : 0 + l.length ≤ 0 := h0; omega)
      subst this
      exact ⟨rfl, newSl_of (own := [.cells [] []]) (i := 0) (n := 0 + 0) (c := 0) (zs := []) hx rfl rfl (by decide) (by decide) rfl rfl⟩
    · intro h0 c' h1 h2
      conv => whnf
      refine ⟨.inr rfl, rfl, ?_⟩
      conv => whnf
      exact ⟨rfl, newSl_of (own := [.cells [] [], .cells (grownL [] (l.flatMap AV.leaves) (c' - (0 + l.length)) (.agg #[.string .empty, .string .empty, .int .i64 0])) []]) (i := 1) (n := 0 + l.length) (c := c')
        (zs := (List.replicate (c' - (0 + l.length)) [.v (.string .empty), .v (.string .empty), .v (.int .i64 0)]).flatten) hx (pfL_rep rfl _) (Nat.zero_add _) h1 h2 rfl (by rw [repLen]; rfl)⟩
theorem c_CloneF {l : List File} (hl : l.length ≤ 1000000000) : XPure Tryz.prog 27 [.sl 3 (l.map eF)] (.sl 3 (l.map eF)) false :=
  XPure.shut call_CloneF rfl (fun env => c_CloneFB (by simpa using hl) (els_F l) env) fun env r ow env' h => h.shut (by decide) (els_F l) (by simp; omega)
theorem els_S (l : List ByteArray) : Els 1 (l.map eStr) := fun x hx => by
  obtain ⟨y, _, rfl⟩ := List.mem_map.1 hx
  exact ⟨rfl, rfl⟩
theorem call_CloneS : Callable Tryz.prog 89 := ⟨_, Tryz.func89, rfl, by kernel_rfl⟩
theorem c_CloneSB {l : List AV} (hl : l.length ≤ 1000000000) (hx : Els 1 l) (env : List Bx) : XCalls Tryz.prog 89 [.sl 1 l] env (NewBox env 1 l) := by
  refine XCalls.newBox hx ?_
  refine XCalls.bodyB Tryz.func89 rfl (Nat.le_of_ble_eq_true (by rfl)) ?_
  conv => whnf
  refine ⟨fun hn => ?_, ?_⟩
  · conv => whnf
    refine cTrue rfl ?_
    conv => whnf
    refine ⟨.inr rfl, rfl, ?_⟩
    conv => whnf
    exact ⟨rfl, .inl ⟨rfl, hn, List.append_nil env⟩⟩
  · conv => whnf
    refine cFalse rfl ?_
    conv => whnf
    refine .inr ?_
    conv => whnf
    refine ⟨?_, ?_, ?_, ?_, ?_, ?_⟩
    · show (0 + l.length) * 16 ≤ _; omega
    · show 0 + l.length ≤ _; omega
    · show 0 + 0 * 1 ≤ 0; omega
    · exact .inl rfl
    · intro h0
      conv => whnf
      refine ⟨.inr rfl, rfl, ?_⟩
      conv => whnf
      have : l = [] := List.eq_nil_of_length_eq_zero (by have : 0 + l.length ≤ 0 := h0; omega)
      subst this
      exact ⟨rfl, newSl_of (own := [.cells [] []]) (i := 0) (n := 0 + 0) (c := 0) (zs := []) hx rfl rfl (by decide) (by decide) rfl rfl⟩
    · intro h0 c' h1 h2
      conv => whnf
      refine ⟨.inr rfl, rfl, ?_⟩
      conv => whnf
      exact ⟨rfl, newSl_of (own := [.cells [] [], .cells (grownL [] (l.flatMap AV.leaves) (c' - (0 + l.length)) (.string .empty)) []]) (i := 1) (n := 0 + l.length) (c := c')
        (zs := (List.replicate (c' - (0 + l.length)) [.v (.string .empty)]).flatten) hx (pfL_rep rfl _) (Nat.zero_add _) h1 h2 rfl (by rw [repLen]; rfl)⟩
theorem c_CloneS {l : List ByteArray} (hl : l.length ≤ 1000000000) : XPure Tryz.prog 89 [.sl 1 (l.map eStr)] (.sl 1 (l.map eStr)) false :=
  XPure.shut call_CloneS rfl (fun env => c_CloneSB (by simpa using hl) (els_S l) env) fun env r ow env' h => h.shut (by decide) (els_S l) (by simp; omega)
end Go.Proofs.YtepdiooaoegpfaaGreatDoor.Fx
end
