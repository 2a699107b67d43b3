/- Written by programs of this session: laws and contracts that the law's proof stands on, merged into one text. Conditions: none beyond those in each statement. -/
import Derived.Test.YtepdiooaoegpfaaGreatDoorPkFx2
section
/- Names, nodes and plans. Conditions: those in each statement. -/
namespace Go.Proofs.YtepdiooaoegpfaaGreatDoor.Fx
open Go Go.Proofs Go.Ev Go.RowKit
set_option maxRecDepth 100000
set_option maxHeartbeats 1600000
set_option linter.unusedSimpArgs false
set_option linter.unusedVariables false
theorem c_names_letter {c : UInt8} : XPure Tryz.prog 106 [.v (.int .u8 c.toNat)] (bln (isLetter c.toNat)) false := by
  obtain ⟨f, hf, cI⟩ := x_IndexByte
  have key : isLetter c.toNat = (decide (c.toNat ≥ 65) && decide (c.toNat ≤ 90) || decide (c.toNat ≥ 97) && decide (c.toNat ≤ 122) || decide (c.toNat ≥ 48) && decide (c.toNat ≤ 57) || decide (f ⟨#[95, 45, 46, 47, 43]⟩ c.toNat ≥ 0)) := by
    rw [hf]; exact letterIB _ (UInt8.toNat_lt _)
  refine XPure.body ⟨_, Tryz.func106, rfl, by kernel_rfl⟩ Tryz.func106 rfl (Nat.le_of_ble_eq_true (by rfl)) (pf_of1 rfl) fun env => ?_
  repeat' ((conv => whnf); (fail_if_success refine zC ?_); first | refine zS ?_ | refine zB (fun h hs => ?_) (fun h hs => ?_) <;> try exact hs.elim | refine .inl ⟨_, _, cI _ _, ?_⟩ | exact zE | refine zZ ?_ | fail)
  · exact congrArg (fun b => bln b) (by rw [Bool.eq_iff_iff, key]; simp only [cs, reduceCtorEq, Int.reduceEq, Int.reduceNe, Int.reduceLT, Int.reduceLE, Int.reduceBEq, Int.reduceBNe]; omega)
  · exact congrArg (fun b => bln b) (by rw [key, eq_comm]; simp only [cs, reduceCtorEq, Int.reduceEq, Int.reduceNe, Int.reduceLT, Int.reduceLE, Int.reduceBEq, Int.reduceBNe]; omega)
theorem c_names_Check {s : ByteArray} (hz : s.size ≤ 140737488355328) : XPure Tryz.prog 80 [str s] (i64 (errIf (isName s) 3)) false := by
  refine XPure.body ⟨_, Tryz.func80, rfl, by kernel_rfl⟩ Tryz.func80 rfl (Nat.le_of_ble_eq_true (by rfl)) (pf_of1 rfl) fun env => ?_
  repeat' ((conv => whnf); (fail_if_success refine zC ?_); first | refine zS ?_ | refine zB (fun h hs => ?_) (fun h hs => ?_) <;> try exact hs.elim | exact zE | refine zZ ?_ | fail)
  · rw [isName_bad (by omega)]; rfl
  · refine XW.countL s.size [0, 13] (fun i => [(14, i64 i)]) (fun _ => []) (fun _ => []) (fun i => isName s = (s.data.toList.drop i).all fun c => isLetter c.toNat) Weak.go (isName_good (by omega)) ?_
    intro i hi hA
    refine codeS ?_
    repeat' ((conv => whnf); (fail_if_success refine zC ?_); first | refine zS ?_ | refine zB (fun h hs => ?_) (fun h hs => ?_) <;> try exact hs.elim | refine .inl ⟨_, _, c_names_letter, ?_⟩ | exact zE | refine zZ ?_ | fail)
    · rw [hA, all_no ‹_› hs]; rfl
    · exact hA.trans (all_yes ‹_› hs)
    · rw [hA, all_end hs]; rfl
def findP (p : ByteArray → Bool) (l : List ByteArray) (i : Nat) : Int := match l with
  | [] => -1
  | x :: r => if p x then i else findP p r (i + 1)
theorem findP_eq {p : ByteArray → Bool} {l : List ByteArray} {i : Nat} (h : i < l.length) : findP p (l.drop i) i = if p (l.getD i .empty) then (i : Int) else findP p (l.drop (i + 1)) (i + 1) := by
  rw [drop_getD .empty h]; rfl
theorem findP_end {p : ByteArray → Bool} {l : List ByteArray} {i : Nat} (h : ¬ i < l.length) : findP p (l.drop i) i = -1 := by
  rw [List.drop_eq_nil_of_le (by omega)]; rfl
theorem findP_any {p : ByteArray → Bool} {l : List ByteArray} : ∀ i : Nat, decide (findP p l i ≥ 0) = l.any p := by
  induction l with
  | nil => intro i; rfl
  | cons x r ih =>
    intro i
    show decide ((if p x then (i : Int) else findP p r (i + 1)) ≥ 0) = (p x || r.any p)
    cases p x with
    | true => simp
    | false => simpa using ih (i + 1)
theorem c_IndexFunc {g : Nat} {p : ByteArray → Bool} {l : List ByteArray} (hg : ∀ {s : ByteArray}, XPure Tryz.prog g [str s] (bln (p s)) false) (hl : l.length ≤ 1000000000) : XPure Tryz.prog 107 [eS l, .fn (.func g) [] []] (i64 (findP p l 0)) false := by
  refine XPure.body ⟨_, Tryz.func107, rfl, by kernel_rfl⟩ Tryz.func107 rfl (Nat.le_of_ble_eq_true (by rfl)) (pf_of1 rfl) fun env => ?_
  repeat' ((conv => whnf); (fail_if_success refine zC ?_); first | refine zS ?_ | refine zB (fun h hs => ?_) (fun h hs => ?_) <;> try exact hs.elim | exact zE | refine zZ ?_ | fail)
  refine XW.countL l.length [0, 1, 7] (fun i => [(8, i64 i)]) (fun _ => []) (fun _ => []) (fun i => findP p l 0 = findP p (l.drop i) i) Weak.go rfl ?_
  intro i hi hA
  refine codeS ?_
  repeat' ((conv => whnf); (fail_if_success refine zC ?_); first | refine zS ?_ | refine zB (fun h hs => ?_) (fun h hs => ?_) <;> try exact hs.elim | refine .inl ⟨_, _, hg, ?_⟩ | exact zE | refine zZ ?_ | rw [getD_mapI (ByteArray.empty) (by omega)] | rw [getD_map (ByteArray.empty) (by omega)] | fail)
  · rw [hA, findP_eq ‹_›, if_pos hs]
  · rw [hA, findP_eq ‹_›, if_neg (by rw [hs]; simp)]
  · rw [hA, findP_end hs]
theorem c_ContainsFunc {g : Nat} {p : ByteArray → Bool} {l : List ByteArray} (hg : ∀ {s : ByteArray}, XPure Tryz.prog g [str s] (bln (p s)) false) (hl : l.length ≤ 1000000000) : XPure Tryz.prog 81 [eS l, .fn (.func g) [] []] (bln (l.any p)) false := by
  refine XPure.body ⟨_, Tryz.func81, rfl, by kernel_rfl⟩ Tryz.func81 rfl (Nat.le_of_ble_eq_true (by rfl)) (pf_of1 rfl) fun env => ?_
  repeat' ((conv => whnf); (fail_if_success refine zC ?_); first | refine zS ?_ | refine zB (fun h hs => ?_) (fun h hs => ?_) <;> try exact hs.elim | refine .inl ⟨_, _, c_IndexFunc hg hl, ?_⟩ | exact zE | refine zZ ?_ | fail)
  rw [findP_any]

/-- What a node's parts are, but for what stands ahead of it. -/
def nodeIn (n : Node) : Bool :=
  isName n.target && decide (n.needs.length ≤ 65) && decide (n.recipe.length ≤ 64) && (n.has || decide (n.recipe.length = 0)) && !(n.recipe.any fun s => decide ((s.size : Int) > 65536)) &&
    (bif beqS n.source .empty then beqS n.stem .empty else decide (0 < n.needs.length) && beqS (n.needs.getD 0 .empty) n.source && decide (n.stem.size ≤ 64))
/-- Needs: names, all other ones, each of which p says. -/
def needsOk (p : ByteArray → Bool) (done : List ByteArray) : List ByteArray → Bool
  | [] => true
  | x :: r => isName x && !hasS done x && p x && needsOk p (done ++ [x]) r
theorem take_succD {l : List ByteArray} {i : Nat} (h : i < l.length) : l.take (i + 1) = l.take i ++ [l.getD i .empty] := by
  rw [List.take_succ_eq_append_getElem h]; simp [List.getD_eq_getElem?_getD, h]
theorem needsOk_step {p : ByteArray → Bool} {l : List ByteArray} {i : Nat} (h : i < l.length) : needsOk p (l.take i) (l.drop i) = (isName (l.getD i .empty) && !hasS (l.take i) (l.getD i .empty) && p (l.getD i .empty) && needsOk p (l.take (i + 1)) (l.drop (i + 1))) := by
  rw [drop_getD .empty h, take_succD h]; rfl
theorem needsOk_no {p : ByteArray → Bool} {l : List ByteArray} {i : Nat} (h : i < l.length) (h1 : isName (l.getD i .empty) = false ∨ hasS (l.take i) (l.getD i .empty) = true ∨ p (l.getD i .empty) = false) : needsOk p (l.take i) (l.drop i) = false := by
  rw [needsOk_step h]
  rcases h1 with h1 | h1 | h1 <;> rw [h1] <;> simp
theorem needsOk_yes {p : ByteArray → Bool} {l : List ByteArray} {i : Nat} (h : i < l.length) (h1 : isName (l.getD i .empty) = true) (h2 : hasS (l.take i) (l.getD i .empty) = false) (h3 : p (l.getD i .empty) = true) : needsOk p (l.take i) (l.drop i) = needsOk p (l.take (i + 1)) (l.drop (i + 1)) := by
  rw [needsOk_step h, h1, h2, h3]; rfl
theorem needsOk_end {p : ByteArray → Bool} {l : List ByteArray} {i : Nat} (h : ¬ i < l.length) : needsOk p (l.take i) (l.drop i) = true := by
  rw [List.drop_eq_nil_of_le (by omega)]; rfl
def nodeOk (n : Node) : Bool := nodeIn n && needsOk (fun x => !beqS x n.target) [] n.needs
theorem take_eS (l : List ByteArray) (n : Nat) : AV.sl 1 (((l.map fun x => .v (.string x)).take n).drop 0) = eS (l.take n) := by
  show AV.sl 1 (((l.map fun x => AV.v (.string x)).take n).drop 0) = AV.sl 1 ((l.take n).map _)
  rw [List.drop_zero, List.map_take]
theorem c_ref03_HasT {l : List ByteArray} {n : Nat} {s : ByteArray} (hl : l.length ≤ 1000000000) : XPure Tryz.prog 16 [.sl 1 (((l.map fun x => .v (.string x)).take n).drop 0), .v (.string s)] (.v (.bool (hasS (l.take n) s))) false := by
  rw [take_eS]; exact c_ref03_Has (by rw [List.length_take]; omega)
theorem c_ContainsT {l : List ByteArray} {n : Nat} {s : ByteArray} (hl : l.length ≤ 1000000000) : XPure Tryz.prog 46 [.sl 1 (((l.map fun x => .v (.string x)).take n).drop 0), .v (.string s)] (.v (.bool (hasS (l.take n) s))) false := by
  rw [take_eS]; exact c_Contains (by rw [List.length_take]; omega)
def SzL (l : List ByteArray) : Prop := l.length ≤ 1000000000 ∧ ∀ x ∈ l, x.size ≤ 140737488355328
theorem SzL.at {l : List ByteArray} (h : SzL l) {i : Nat} (hi : i < l.length) : (l.getD i .empty).size ≤ 140737488355328 :=
  h.2 _ (by simp [List.getD_eq_getElem?_getD, hi])
structure SzN (n : Node) : Prop where
  target : n.target.size ≤ 140737488355328
  needs : SzL n.needs
  recipe : SzL n.recipe
theorem nodeIn_iff {n : Node} : nodeIn n = true ↔ isName n.target = true ∧ n.needs.length ≤ 65 ∧ n.recipe.length ≤ 64 ∧ (n.has = true ∨ n.recipe.length = 0) ∧ (n.recipe.any fun s => decide ((s.size : Int) > 65536)) = false ∧
    ((n.source = .empty ∧ n.stem = .empty) ∨ (n.source ≠ .empty ∧ 0 < n.needs.length ∧ n.needs.getD 0 .empty = n.source ∧ n.stem.size ≤ 64)) := by
  unfold nodeIn
  cases h : beqS n.source .empty with
  | true =>
    have := beqS_iff.1 h
    simp [beqS_iff, this, and_assoc]
  | false =>
    have := beqS_no.1 h
    simp [beqS_iff, this, and_assoc]
end Go.Proofs.YtepdiooaoegpfaaGreatDoor.Fx
end
section
/- Plans. Conditions: those in each statement. -/
namespace Go.Proofs.YtepdiooaoegpfaaGreatDoor.Fx
open Go Go.Proofs Go.Ev Go.RowKit
set_option maxRecDepth 100000
set_option maxHeartbeats 1600000
set_option linter.unusedSimpArgs false
set_option linter.unusedVariables false
def mOf (l : List ByteArray) : List (ByteArray × AV) := l.map fun s => (s, i64 1)
theorem getM_mOf : ∀ (l : List ByteArray) (s : ByteArray), getM (mOf l) s = if hasS l s then some (i64 1) else none
  | [], _ => rfl
  | x :: l, s => by
    show (if s = x then some (i64 1) else getM (mOf l) s) = if (beqS x s || hasS l s) = true then some (i64 1) else none
    by_cases h : s = x
    · rw [if_pos h, beqS_iff.2 h.symm]; rfl
    · rw [if_neg h, beqS_no.2 (fun e => h e.symm), Bool.false_or]; exact getM_mOf l s
theorem getM_some {l : List ByteArray} {s : ByteArray} {x : AV} (h : getM (mOf l) s = some x) : x = i64 1 ∧ hasS l s = true := by
  rw [getM_mOf] at h
  split at h
  · rename_i e; exact ⟨(Option.some.inj h).symm, e⟩
  · cases h
theorem getM_none {l : List ByteArray} {s : ByteArray} (h : getM (mOf l) s = none) : hasS l s = false := by
  rw [getM_mOf] at h
  split at h
  · cases h
  · rename_i e; simpa using e
theorem setM_mOf : ∀ (l : List ByteArray) (s : ByteArray), hasS l s = false → setM (mOf l) s (i64 1) = mOf (l ++ [s])
  | [], _, _ => rfl
  | x :: l, s, h => by
    have h' : beqS x s = false ∧ hasS l s = false := by simpa [hasS] using h
    show (if s = x then (s, i64 1) :: mOf l else (x, i64 1) :: setM (mOf l) s (i64 1)) = (x, i64 1) :: mOf (l ++ [s])
    rw [if_neg (fun e => beqS_no.1 h'.1 e.symm), setM_mOf l s h'.2]
def rightN (ahead : List ByteArray) (n : Node) : Bool := nodeIn n && !hasS ahead n.target && needsOk (hasS ahead) [] n.needs
theorem errIf_0 {b : Bool} : errIf b 3 = 0 ↔ b = true := by cases b <;> simp [errIf]
theorem rightN_last {ahead : List ByteArray} {n : Node} (h1 : isName n.target = true ∧ n.needs.length ≤ 65 ∧ n.recipe.length ≤ 64 ∧ (n.has = true ∨ n.recipe.length = 0)) (h2 : hasS ahead n.target = false) (h3 : needsOk (hasS ahead) [] n.needs = true) (h4 : (n.recipe.any fun s => decide ((s.size : Int) > 65536)) = false) :
    rightN ahead n = bif beqS n.source .empty then beqS n.stem .empty else decide (0 < n.needs.length) && beqS (n.needs.getD 0 .empty) n.source && decide (n.stem.size ≤ 64) := by
  obtain ⟨q1, q2, q3, q4⟩ := h1
  have e : (n.has || decide (n.recipe.length = 0)) = true := by rcases q4 with q | q <;> simp [q]
  unfold rightN nodeIn
  rw [q1, h2, h3, h4, e, decide_eq_true q2, decide_eq_true q3]
  simp
theorem rightN_any {ahead : List ByteArray} {n : Node} (h4 : (n.recipe.any fun s => decide ((s.size : Int) > 65536)) = true) : rightN ahead n = false := by
  unfold rightN nodeIn; rw [h4]; simp
theorem c_right {n : Node} {ahead : List ByteArray} {env : List Bx} {k : Nat} (he : env[k]? = some (.map (mOf ahead))) (hz : SzN n) :
    XCalls Tryz.prog 64 [eN n, .mx k] env fun r ow env' => r = bln (rightN ahead n) ∧ ow = false ∧ env' = env := by
  have hn1 := hz.needs.1
  have hn2 := hz.recipe.1
  have hE0 : ByteArray.empty.size = 0 := rfl
  have hkk : k < env.length := (List.getElem?_eq_some_iff.1 he).1
  refine XCalls.body Tryz.func64 rfl (Nat.le_of_ble_eq_true (by rfl)) ?_
  repeat' ((conv => whnf); first | ((with_reducible show (∀ _ : AV, _) ∧ _); refine ⟨fun x hx => ?_, fun hx => ?_⟩; (obtain ⟨rfl, hx⟩ := getM_some hx)) | refine zS ?_ | refine zB (fun h hs => ?_) (fun h hs => ?_) <;> try exact hs.elim | refine .inl ⟨_, _, c_names_Check hz.target, ?_⟩ | ((refine ⟨_, mapOf_mx he, ?_⟩)) | exact zE | refine zZ ?_ | fail)
  all_goals try (have e : rightN ahead n = false := by rw [← Bool.not_eq_true]; simp only [rightN, Bool.and_eq_true, nodeIn_iff, errIf_0, Bool.not_eq_true'] at *; grind)
  all_goals try (rw [e])
  all_goals replace hx := getM_none ‹_›
  all_goals have hF : isName n.target = true ∧ n.needs.length ≤ 65 ∧ n.recipe.length ≤ 64 ∧ (n.has = true ∨ n.recipe.length = 0) := by simp only [errIf_0, cs, reduceCtorEq, Int.reduceEq, Int.reduceNe, Int.reduceLT, Int.reduceLE, Int.reduceBEq, Int.reduceBNe] at *; grind
  all_goals clear h hs
  all_goals refine XW.countL n.needs.length [1, 2, 42, 43] (fun i => [(44, i64 i)]) (fun _ => []) (fun _ => [.cells (eN n).leaves []]) (fun i => needsOk (hasS ahead) [] n.needs = needsOk (hasS ahead) (n.needs.take i) (n.needs.drop i)) Weak.go rfl ?_
  all_goals
    intro i hi hA
    refine codeS ?_
    repeat' ((conv => whnf); first | ((with_reducible show (∀ _ : AV, _) ∧ _); refine ⟨fun x hx => ?_, fun hx => ?_⟩; (obtain ⟨rfl, hx⟩ := getM_some hx)) | refine zS ?_ | refine zB (fun h hs => ?_) (fun h hs => ?_) <;> try exact hs.elim | refine .inl ⟨_, _, c_names_Check (hz.needs.at (by omega)), ?_⟩ | refine .inl ⟨_, _, c_ContainsT hn1, ?_⟩ | refine XW.dr (m := 20) ?_ | refine ⟨_, _, c_names_Check (hz.needs.at (by omega)), ?_⟩ | refine ⟨_, _, c_ContainsT hn1, ?_⟩ | ((refine ⟨_, mapOf_mx he, ?_⟩)) | exact zE | refine zZ ?_ | rw [getD_mapI (ByteArray.empty) (by omega)] | rw [getD_map (ByteArray.empty) (by omega)] | fail)
    all_goals try (have hi' : i < n.needs.length := by assumption)
    all_goals try simp only [cs, reduceCtorEq, Int.reduceEq, Int.reduceNe, Int.reduceLT, Int.reduceLE, Int.reduceBEq, Int.reduceBNe, errIf_0] at hs
    all_goals try (replace hx := getM_none ‹_›)
    all_goals try (have e : rightN ahead n = false := by unfold rightN; rw [hA, needsOk_no hi' (by simp only [cs, reduceCtorEq, Int.reduceEq, Int.reduceNe, Int.reduceLT, Int.reduceLE, Int.reduceBEq, Int.reduceBNe, errIf_0] at *; grind), Bool.and_false])
    all_goals try (rw [e])
    all_goals try exact hA.trans (needsOk_yes hi' (by grind) (by grind) (by grind))
    have hN : needsOk (hasS ahead) [] n.needs = true := by rw [hA, needsOk_end hs]
    repeat' ((conv => whnf); (fail_if_success refine zC ?_); first | refine zS ?_ | refine zB (fun h hs => ?_) (fun h hs => ?_) <;> try exact hs.elim | refine .inl ⟨_, _, c_ContainsFunc c_right_1 hn2, ?_⟩ | refine XW.dr (m := 20) ?_ | refine ⟨_, _, c_ContainsFunc c_right_1 hn2, ?_⟩ | exact zE | refine zZ ?_ | rw [getD_mapI (ByteArray.empty) (by omega)] | rw [getD_map (ByteArray.empty) (by omega)] | fail)
    · rw [rightN_any h]
    · rw [rightN_last hF hx hN ‹_›, show beqS n.source .empty = true from h, cond_true]; rfl
    all_goals rw [rightN_last hF hx hN ‹_›, show beqS n.source .empty = false from ‹_›, cond_false]
    all_goals clear hA he hkk
    all_goals refine congrArg (fun b => bln b) ?_
    all_goals rw [Bool.eq_iff_iff]
    all_goals simp only [cs, reduceCtorEq, Int.reduceEq, Int.reduceNe, Int.reduceLT, Int.reduceLE, Int.reduceBEq, Int.reduceBNe] at *
    all_goals grind
theorem rightN_target {ahead : List ByteArray} {n : Node} (h : rightN ahead n = true) : hasS ahead n.target = false := by
  simp only [rightN, Bool.and_eq_true, Bool.not_eq_true'] at h; exact h.1.2
def nodesOk (ahead : List ByteArray) : List Node → Bool
  | [] => true
  | n :: r => rightN ahead n && nodesOk (ahead ++ [n.target]) r
/-- The targets of nodes. -/
def targets (l : List Node) : List ByteArray := l.map Node.target
def goalsOk (all done : List ByteArray) : List ByteArray → Bool
  | [] => true
  | g :: r => hasS all g && !hasS done g && goalsOk all (done ++ [g]) r
def planOk (nodes : List Node) (goals : List ByteArray) : Bool := decide (nodes.length ≤ 256) && decide (1 ≤ goals.length) && decide (goals.length ≤ 512) && nodesOk [] nodes && goalsOk (targets nodes) [] goals
abbrev eP (nodes : List Node) (goals : List ByteArray) : AV := .agg [.sl 10 (nodes.map eN), eS goals]
theorem targets_succ {l : List Node} {i : Nat} (h : i < l.length) : targets (l.take (i + 1)) = targets (l.take i) ++ [(l.getD i default).target] := by
  unfold targets
  rw [List.take_succ_eq_append_getElem h, List.map_append]; simp [List.getD_eq_getElem?_getD, h]
theorem nodesOk_step {l : List Node} {i : Nat} (h : i < l.length) : nodesOk (targets (l.take i)) (l.drop i) = (rightN (targets (l.take i)) (l.getD i default) && nodesOk (targets (l.take (i + 1))) (l.drop (i + 1))) := by
  rw [drop_getD default h, targets_succ h]; rfl
theorem nodesOk_end {l : List Node} {i : Nat} (h : ¬ i < l.length) : nodesOk (targets (l.take i)) (l.drop i) = true := by
  rw [List.drop_eq_nil_of_le (by omega)]; rfl
theorem goalsOk_step {all l : List ByteArray} {i : Nat} (h : i < l.length) : goalsOk all (l.take i) (l.drop i) = (hasS all (l.getD i .empty) && !hasS (l.take i) (l.getD i .empty) && goalsOk all (l.take (i + 1)) (l.drop (i + 1))) := by
  rw [drop_getD .empty h, take_succD h]; rfl
theorem goalsOk_end {all l : List ByteArray} {i : Nat} (h : ¬ i < l.length) : goalsOk all (l.take i) (l.drop i) = true := by
  rw [List.drop_eq_nil_of_le (by omega)]; rfl
end Go.Proofs.YtepdiooaoegpfaaGreatDoor.Fx
end
section
/- Words: the document's answer joins them; what commands are. Conditions: those in each statement. -/
namespace Go.Proofs.YtepdiooaoegpfaaGreatDoor.Fx
open Go Go.Proofs Go.Ev Go.RowKit
set_option maxRecDepth 100000
set_option maxHeartbeats 1600000
set_option linter.unusedSimpArgs false
set_option linter.unusedVariables false
theorem c_ref15_blank {c : Int} : XPure Tryz.prog 100 [.v (.int .u8 c)] (bln (c == 32 || c == 9)) false := by
  refine XPure.body ⟨_, Tryz.func100, rfl, by kernel_rfl⟩ Tryz.func100 rfl (Nat.le_of_ble_eq_true (by rfl)) (pf_of1 rfl) fun env => ?_
  (repeat' ((conv => whnf); (fail_if_success refine zC ?_); first | refine zS ?_ | refine zB (fun h hs => ?_) (fun h hs => ?_) <;> try exact hs.elim | exact zEf | refine zZf ?_ | fail)) <;> try ((with_reducible show _ = _); (conv => lhs; whnf); simp only [Bool.cond_true_left])
theorem c_lex_blank {c : Int} : XPure Tryz.prog 84 [.v (.int .u8 c)] (bln (c == 32 || c == 9)) false := by
  refine XPure.body ⟨_, Tryz.func84, rfl, by kernel_rfl⟩ Tryz.func84 rfl (Nat.le_of_ble_eq_true (by rfl)) (pf_of1 rfl) fun env => ?_
  (repeat' ((conv => whnf); (fail_if_success refine zC ?_); first | refine zS ?_ | refine zB (fun h hs => ?_) (fun h hs => ?_) <;> try exact hs.elim | exact zEf | refine zZf ?_ | fail)) <;> try ((with_reducible show _ = _); (conv => lhs; whnf); simp only [Bool.cond_true_left])
theorem c_ref16_writes {op : Int} {dst : ByteArray} {src words : List ByteArray} {st : Int} : XPure Tryz.prog 122 [.agg [i64 op, str dst, eS src, eS words, i64 st]] (bln (decide (1 ≤ op) && decide (op ≤ 5))) false := by
  refine XPure.body ⟨_, Tryz.func122, rfl, by kernel_rfl⟩ Tryz.func122 rfl (Nat.le_of_ble_eq_true (by rfl)) (pf_of1 rfl) fun env => ?_
  repeat' ((conv => whnf); (fail_if_success refine zC ?_); first | refine zS ?_ | refine zB (fun h hs => ?_) (fun h hs => ?_) <;> try exact hs.elim | exact zE | refine zZ ?_ | fail)
  · exact congrArg (fun b => bln b) (Bool.cond_false_right ..)
  · exact congrArg (fun b => bln b) (by rw [decide_eq_false (by omega : ¬ 1 ≤ op)]; rfl)
theorem c_cmd_few {l : List ByteArray} : XPure Tryz.prog 187 [eS l] (i64 (if 512 < l.length then 160 else 0)) false := by
  refine XPure.body ⟨_, Tryz.func187, rfl, by kernel_rfl⟩ Tryz.func187 rfl (Nat.le_of_ble_eq_true (by rfl)) (pf_of1 rfl) fun env => ?_
  repeat' ((conv => whnf); (fail_if_success refine zC ?_); first | refine zS ?_ | refine zB (fun h hs => ?_) (fun h hs => ?_) <;> try exact hs.elim | exact zE | refine zZ ?_ | fail)
  · rw [if_pos (by omega)]
  · rw [if_neg (by omega)]
theorem c_ref17_Status {e : Int} : XPure Tryz.prog 22 [i64 e] (i64 (if e = 0 then 0 else if e = 171 then 1 else if e = 150 ∨ e = 9 ∨ e = 160 ∨ e = 3 then 2 else if e = 170 then 3 else if e = 21 then 4 else if e = 20 then 5 else if e = 22 then 6 else if e = 23 then 7 else 8)) false := by
  refine XPure.body ⟨_, Tryz.func22, rfl, by kernel_rfl⟩ Tryz.func22 rfl (Nat.le_of_ble_eq_true (by rfl)) (pf_of1 rfl) fun env => ?_
  repeat' ((conv => whnf); (fail_if_success refine zC ?_); first | refine zS ?_ | refine zB (fun h hs => ?_) (fun h hs => ?_) <;> try exact hs.elim | exact zE | refine zZ ?_ | fail)
  all_goals refine congrArg i64 ?_
  all_goals grind
theorem c_exec_Status {e : Int} : XPure Tryz.prog 21 [i64 e] (i64 (if e = 0 then 0 else if e = 171 then 1 else if e = 150 ∨ e = 9 ∨ e = 160 ∨ e = 3 then 2 else if e = 170 then 3 else if e = 21 then 4 else if e = 20 then 5 else if e = 22 then 6 else if e = 23 then 7 else 8)) false := by
  refine XPure.body ⟨_, Tryz.func21, rfl, by kernel_rfl⟩ Tryz.func21 rfl (Nat.le_of_ble_eq_true (by rfl)) (pf_of1 rfl) fun env => ?_
  repeat' ((conv => whnf); (fail_if_success refine zC ?_); first | refine zS ?_ | refine zB (fun h hs => ?_) (fun h hs => ?_) <;> try exact hs.elim | exact zE | refine zZ ?_ | fail)
  all_goals refine congrArg i64 ?_
  all_goals grind
def opName (op : Int) : ByteArray := if op = 1 then ⟨#[99, 111, 112, 121]⟩ else if op = 2 then ⟨#[99, 111, 110, 99, 97, 116]⟩ else if op = 3 then ⟨#[101, 99, 104, 111, 45, 116, 111]⟩ else if op = 4 then ⟨#[116, 111, 117, 99, 104]⟩ else if op = 5 then ⟨#[114, 101, 109, 111, 118, 101]⟩ else if op = 6 then ⟨#[116, 101, 115, 116, 45, 101, 120, 105, 115, 116, 115]⟩ else if op = 7 then ⟨#[102, 97, 105, 108]⟩ else if op = 8 then ⟨#[115, 97, 121]⟩ else .empty
theorem c_ref16_Name {op : Int} : XPure Tryz.prog 121 [i64 op] (str (opName op)) false := by
  refine XPure.body ⟨_, Tryz.func121, rfl, by kernel_rfl⟩ Tryz.func121 rfl (Nat.le_of_ble_eq_true (by rfl)) (pf_of1 rfl) fun env => ?_
  repeat' ((conv => whnf); (fail_if_success refine zC ?_); first | refine zS ?_ | refine zB (fun h hs => ?_) (fun h hs => ?_) <;> try exact hs.elim | exact zE | refine zZ ?_ | fail)
  all_goals refine congrArg str ?_
  all_goals (simp only [opName]; simp_all)
  all_goals rfl
def manyOk (op n : Int) : Bool := if op = 1 then decide (n = 2) else if op = 2 then decide (n ≥ 2) && decide (n ≤ 65) else if op = 3 then decide (n ≥ 1) && decide (n ≤ 513) else if op = 4 ∨ op = 5 ∨ op = 6 then decide (n = 1) else if op = 7 then decide (n ≤ 1) else if op = 8 then decide (n ≤ 512) else false
theorem c_ref16_many {op n : Int} : XPure Tryz.prog 103 [i64 op, i64 n] (bln (manyOk op n)) false := by
  refine XPure.body ⟨_, Tryz.func103, rfl, by kernel_rfl⟩ Tryz.func103 rfl (Nat.le_of_ble_eq_true (by rfl)) (pf_of1 rfl) fun env => ?_
  repeat' ((conv => whnf); (fail_if_success refine zC ?_); first | refine zS ?_ | refine zB (fun h hs => ?_) (fun h hs => ?_) <;> try exact hs.elim | exact zE | refine zZ ?_ | fail)
  all_goals refine congrArg (fun b => bln b) ?_
  all_goals (simp only [manyOk, Bool.cond_false_right]; grind)
theorem c_cmd_count {op n : Int} (h8 : 1 ≤ op ∧ op ≤ 8) : XPure Tryz.prog 90 [i64 op, i64 n] (bln (manyOk op n)) false := by
  refine XPure.body ⟨_, Tryz.func90, rfl, by kernel_rfl⟩ Tryz.func90 rfl (Nat.le_of_ble_eq_true (by rfl)) (pf_of1 rfl) fun env => ?_
  repeat' ((conv => whnf); (fail_if_success refine zC ?_); first | refine zS ?_ | refine zB (fun h hs => ?_) (fun h hs => ?_) <;> try exact hs.elim | exact zE | refine zZ ?_ | fail)
  all_goals refine congrArg (fun b => bln b) ?_
  all_goals (simp only [manyOk, Bool.cond_false_right]; grind)
def firstE (l : List Int) : Int := match l with
  | [] => 0
  | e :: r => if e = 0 then firstE r else e
theorem filesE_step {l : List ByteArray} {i : Nat} (h : i < l.length) : (l.drop i).all isName = (isName (l.getD i .empty) && (l.drop (i + 1)).all isName) := by
  rw [drop_getD .empty h, List.all_cons]
theorem c_cmd_files {l : List ByteArray} (hl : l.length ≤ 1000000000) (hz : ∀ i, i < l.length → (l.getD i .empty).size ≤ 140737488355328) : XPure Tryz.prog 93 [eS l] (i64 (errIf (l.all isName) 3)) false := by
  refine XPure.body ⟨_, Tryz.func93, rfl, by kernel_rfl⟩ Tryz.func93 rfl (Nat.le_of_ble_eq_true (by rfl)) (pf_of1 rfl) fun env => ?_
  repeat' ((conv => whnf); (fail_if_success refine zC ?_); first | refine zS ?_ | refine zB (fun h hs => ?_) (fun h hs => ?_) <;> try exact hs.elim | exact zE | refine zZ ?_ | fail)
  refine XW.countL l.length [6, 7] (fun i => [(8, i64 i)]) (fun _ => []) (fun _ => []) (fun i => l.all isName = (l.drop i).all isName) Weak.go rfl ?_
  intro i hi hA
  refine codeS ?_
  repeat' ((conv => whnf); (fail_if_success refine zC ?_); first | refine zS ?_ | refine zB (fun h hs => ?_) (fun h hs => ?_) <;> try exact hs.elim | refine .inl ⟨_, _, c_names_Check (hz i (by omega)), ?_⟩ | exact zE | refine zZ ?_ | rw [getD_mapI (ByteArray.empty) (by omega)] | rw [getD_map (ByteArray.empty) (by omega)] | fail)
  · have e : isName (l.getD i .empty) = false := by rw [errIf_0] at hs; simpa using hs
    rw [hA, filesE_step ‹_›, e]; rfl
  · rw [hA, filesE_step ‹_›, errIf_0.1 hs, Bool.true_and]
  · rw [hA, List.drop_eq_nil_of_le (by omega)]; rfl
theorem c_ref16_files {op : Int} {dst : ByteArray} {src words : List ByteArray} {st : Int} (hd : dst.size ≤ 140737488355328) (hl : src.length ≤ 1000000000) (hz : ∀ i, i < src.length → (src.getD i .empty).size ≤ 140737488355328) :
    XPure Tryz.prog 105 [.agg [i64 op, str dst, eS src, eS words, i64 st]] (bln ((!(decide (1 ≤ op) && decide (op ≤ 5)) || isName dst) && src.all isName)) false := by
  refine XPure.body ⟨_, Tryz.func105, rfl, by kernel_rfl⟩ Tryz.func105 rfl (Nat.le_of_ble_eq_true (by rfl)) (pf_of1 rfl) fun env => ?_
  repeat' ((conv => whnf); (fail_if_success refine zC ?_); first | refine zS ?_ | refine zB (fun h hs => ?_) (fun h hs => ?_) <;> try exact hs.elim | refine .inl ⟨_, _, c_ref16_writes, ?_⟩ | refine .inl ⟨_, _, c_ref02_Name hd, ?_⟩ | exact zE | refine zZ ?_ | fail)
  · refine congrArg (fun b => bln b) ?_
    obtain ⟨⟨q1, q2⟩, q3⟩ := hs
    rw [decide_eq_true q1, decide_eq_true q2, q3]; rfl
  all_goals have hF : (!(decide (1 ≤ op) && decide (op ≤ 5)) || isName dst) = true := by (cases h1 : (decide (1 ≤ op) && decide (op ≤ 5)) <;> simp_all)
  all_goals rw [hF, Bool.true_and]
  all_goals refine XW.countL src.length [1] (fun i => [(3, i64 i)]) (fun _ => []) (fun _ => [.cells [i64 op, str dst, eS src, eS words, i64 st] []]) (fun i => src.all isName = (src.drop i).all isName) Weak.go rfl ?_
  all_goals
    intro i hi hA
    refine codeS ?_
    repeat' ((conv => whnf); (fail_if_success refine zC ?_); first | refine zS ?_ | refine zB (fun h hs => ?_) (fun h hs => ?_) <;> try exact hs.elim | refine .inl ⟨_, _, c_ref02_Name (hz i (by omega)), ?_⟩ | exact zE | refine zZ ?_ | rw [getD_mapI (ByteArray.empty) (by omega)] | rw [getD_map (ByteArray.empty) (by omega)] | fail)
    · rw [hA, filesE_step ‹_›, hs]; rfl
    · rw [hA, filesE_step ‹_›, hs, Bool.true_and]
    · rw [hA, List.drop_eq_nil_of_le (by omega)]; rfl
end Go.Proofs.YtepdiooaoegpfaaGreatDoor.Fx
end
section
/- Names without doubles; operations of words. Conditions: those in each statement. -/
namespace Go.Proofs.YtepdiooaoegpfaaGreatDoor.Fx
open Go Go.Proofs Go.Ev Go.RowKit
set_option maxRecDepth 100000
set_option maxHeartbeats 1600000
set_option linter.unusedSimpArgs false
set_option linter.unusedVariables false
def opFrom (w : ByteArray) (i : Nat) : Nat → Int
  | 0 => 0
  | k + 1 => if beqS (opName i) w then i else opFrom w (i + 1) k
theorem c_ref16_op {w : ByteArray} : XPure Tryz.prog 102 [str w] (i64 (opFrom w 1 8)) false := by
  refine XPure.body ⟨_, Tryz.func102, rfl, by kernel_rfl⟩ Tryz.func102 rfl (Nat.le_of_ble_eq_true (by rfl)) (pf_of1 rfl) fun env => ?_
  repeat' ((conv => whnf); (fail_if_success refine zC ?_); first | refine zS ?_ | refine zB (fun h hs => ?_) (fun h hs => ?_) <;> try exact hs.elim | exact zE | refine zZ ?_ | fail)
  refine XW.countL 8 [0] (fun i => [(3, i64 ((i + 1 : Nat) : Int))]) (fun _ => []) (fun _ => []) (fun i => opFrom w 1 8 = opFrom w (i + 1) (8 - i)) Weak.go rfl ?_
  intro i hi hA
  refine codeS ?_
  repeat' ((conv => whnf); (fail_if_success refine zC ?_); first | refine zS ?_ | refine zB (fun h hs => ?_) (fun h hs => ?_) <;> try exact hs.elim | refine .inl ⟨_, _, c_ref16_Name, ?_⟩ | exact zE | refine zZ ?_ | fail)
  all_goals have e8 : i < 8 → opFrom w (i + 1) (8 - i) = if beqS (opName ((i + 1 : Nat) : Int)) w then ((i + 1 : Nat) : Int) else opFrom w (i + 1 + 1) (8 - (i + 1)) := fun q => by (obtain ⟨k, hk⟩ : ∃ k, 8 - i = k + 1 := ⟨7 - i, by omega⟩; rw [hk, show 8 - (i + 1) = k from by omega]; rfl)
  · rw [hA, e8 (by omega), if_pos h]
  · rw [hA, e8 (by omega), if_neg (by rw [h]; simp)]
  · obtain rfl : i = 8 := by omega
    rw [hA]; rfl
theorem firstE_step {l : List Int} {i : Nat} (h : i < l.length) : firstE (l.drop i) = if l.getD i 0 = 0 then firstE (l.drop (i + 1)) else l.getD i 0 := by
  rw [drop_getD 0 h]; rfl
theorem c_cmd_first {l : List Int} (hl : l.length ≤ 1000000000) : XPure Tryz.prog 181 [.sl 1 (l.map i64)] (i64 (firstE l)) false := by
  refine XPure.body ⟨_, Tryz.func181, rfl, by kernel_rfl⟩ Tryz.func181 rfl (Nat.le_of_ble_eq_true (by rfl)) (pf_of1 rfl) fun env => ?_
  repeat' ((conv => whnf); (fail_if_success refine zC ?_); first | refine zS ?_ | refine zB (fun h hs => ?_) (fun h hs => ?_) <;> try exact hs.elim | exact zE | refine zZ ?_ | fail)
  refine XW.countL l.length [5, 6] (fun i => [(7, i64 i)]) (fun _ => []) (fun _ => []) (fun i => firstE l = firstE (l.drop i)) Weak.go rfl ?_
  intro i hi hA
  refine codeS ?_
  repeat' ((conv => whnf); (fail_if_success refine zC ?_); first | refine zS ?_ | refine zB (fun h hs => ?_) (fun h hs => ?_) <;> try exact hs.elim | exact zE | refine zZ ?_ | rw [getD_mapI ((0 : Int)) (by omega)] | rw [getD_map ((0 : Int)) (by omega)] | fail)
  · rw [hA, firstE_step (by assumption), if_neg hs]
  · rw [hA, firstE_step (by assumption), if_pos hs]
  · rw [hA, List.drop_eq_nil_of_le (by omega)]; rfl
end Go.Proofs.YtepdiooaoegpfaaGreatDoor.Fx
end
