/- Written by programs of this session: laws and contracts that the law's proof stands on, merged into one text. Conditions: none beyond those in each statement. -/
import Derived.Test.YtepdiooaoegpfaaGreatDoorPkFx1
import Derived.Test.YtepdiooaoegpfaaGreatDoorPkEv10
section
/- Names, nodes and plans. Conditions: those in each statement. -/
namespace Go.Proofs.YtepdiooaoegpfaaGreatDoor.Fx
open Go Go.Proofs Go.Ev Go.RowKit
set_option maxRecDepth 100000
set_option maxHeartbeats 1600000
set_option linter.unusedSimpArgs false
set_option linter.unusedVariables false
theorem c_names_letter {c : UInt8} : XPure Tryz.prog 106 [.v (.int .u8 c.toNat)] (bln (isLetter c.toNat)) false := by
  obtain ⟨f, hf, cI⟩ := x_IndexByte
  have key : isLetter c.toNat = (decide (c.toNat ≥ 65) && decide (c.toNat ≤ 90) || decide (c.toNat ≥ 97) && decide (c.toNat ≤ 122) || decide (c.toNat ≥ 48) && decide (c.toNat ≤ 57) || decide (f ⟨#[95, 45, 46, 47, 43]⟩ c.toNat ≥ 0)) := by
    rw [hf]; exact letterIB _ (UInt8.toNat_lt _)
  refine XPure.body ⟨_, Tryz.func106, rfl, by kernel_rfl⟩ Tryz.func106 rfl (Nat.le_of_ble_eq_true (by rfl)) (pf_of1 rfl) fun env => ?_
  repeat' ((conv => whnf); (fail_if_success refine zC ?_); first | refine zS ?_ | refine zB (fun h hs => ?_) (fun h hs => ?_) <;> try exact hs.elim | refine .inl ⟨_, _, cI _ _, ?_⟩ | exact zE | refine zZ ?_ | fail)
  · exact congrArg (fun b => bln b) (by rw [Bool.eq_iff_iff, key]; simp only [cs, reduceCtorEq, Int.reduceEq, Int.reduceNe, Int.reduceLT, Int.reduceLE, Int.reduceBEq, Int.reduceBNe]; omega)
  · exact congrArg (fun b => bln b) (by rw [key, eq_comm]; simp only [cs, reduceCtorEq, Int.reduceEq, Int.reduceNe, Int.reduceLT, Int.reduceLE, Int.reduceBEq, Int.reduceBNe]; omega)
theorem c_names_Check {s : ByteArray} (hz : s.size ≤ 140737488355328) : XPure Tryz.prog 80 [str s] (i64 (errIf (isName s) 3)) false := by
  refine XPure.body ⟨_, Tryz.func80, rfl, by kernel_rfl⟩ Tryz.func80 rfl (Nat.le_of_ble_eq_true (by rfl)) (pf_of1 rfl) fun env => ?_
  repeat' ((conv => whnf); (fail_if_success refine zC ?_); first | refine zS ?_ | refine zB (fun h hs => ?_) (fun h hs => ?_) <;> try exact hs.elim | exact zE | refine zZ ?_ | fail)
  · rw [isName_bad (by omega)]; rfl
  · refine XW.countL s.size [0, 13] (fun i => [(14, i64 i)]) (fun _ => []) (fun _ => []) (fun i => isName s = (s.data.toList.drop i).all fun c => isLetter c.toNat) Weak.go (isName_good (by omega)) ?_
    intro i hi hA
    refine codeS ?_
    repeat' ((conv => whnf); (fail_if_success refine zC ?_); first | refine zS ?_ | refine zB (fun h hs => ?_) (fun h hs => ?_) <;> try exact hs.elim | refine .inl ⟨_, _, c_names_letter, ?_⟩ | exact zE | refine zZ ?_ | fail)
    · rw [hA, all_no ‹_› hs]; rfl
    · exact hA.trans (all_yes ‹_› hs)
    · rw [hA, all_end hs]; rfl
def findP (p : ByteArray → Bool) (l : List ByteArray) (i : Nat) : Int := match l with
  | [] => -1
  | x :: r => if p x then i else findP p r (i + 1)
theorem findP_eq {p : ByteArray → Bool} {l : List ByteArray} {i : Nat} (h : i < l.length) : findP p (l.drop i) i = if p (l.getD i .empty) then (i : Int) else findP p (l.drop (i + 1)) (i + 1) := by
  rw [drop_getD .empty h]; rfl
theorem findP_end {p : ByteArray → Bool} {l : List ByteArray} {i : Nat} (h : ¬ i < l.length) : findP p (l.drop i) i = -1 := by
  rw [List.drop_eq_nil_of_le (by omega)]; rfl
theorem findP_any {p : ByteArray → Bool} {l : List ByteArray} : ∀ i : Nat, decide (findP p l i ≥ 0) = l.any p := by
  induction l with
  | nil => intro i; rfl
  | cons x r ih =>
    intro i
    show decide ((if p x then (i : Int) else findP p r (i + 1)) ≥ 0) = (p x || r.any p)
    cases p x with
    | true => simp
    | false => simpa using ih (i + 1)
theorem c_IndexFunc {g : Nat} {p : ByteArray → Bool} {l : List ByteArray} (hg : ∀ {s : ByteArray}, XPure Tryz.prog g [str s] (bln (p s)) false) (hl : l.length ≤ 1000000000) : XPure Tryz.prog 107 [eS l, .fn (.func g) [] []] (i64 (findP p l 0)) false := by
  refine XPure.body ⟨_, Tryz.func107, rfl, by kernel_rfl⟩ Tryz.func107 rfl (Nat.le_of_ble_eq_true (by rfl)) (pf_of1 rfl) fun env => ?_
  repeat' ((conv => whnf); (fail_if_success refine zC ?_); first | refine zS ?_ | refine zB (fun h hs => ?_) (fun h hs => ?_) <;> try exact hs.elim | exact zE | refine zZ ?_ | fail)
  refine XW.countL l.length [0, 1, 7] (fun i => [(8, i64 i)]) (fun _ => []) (fun _ => []) (fun i => findP p l 0 = findP p (l.drop i) i) Weak.go rfl ?_
  intro i hi hA
  refine codeS ?_
  repeat' ((conv => whnf); (fail_if_success refine zC ?_); first | refine zS ?_ | refine zB (fun h hs => ?_) (fun h hs => ?_) <;> try exact hs.elim | refine .inl ⟨_, _, hg, ?_⟩ | exact zE | refine zZ ?_ | rw [getD_mapI (ByteArray.empty) (by omega)] | rw [getD_map (ByteArray.empty) (by omega)] | fail)
  · rw [hA, findP_eq ‹_›, if_pos hs]
  · rw [hA, findP_eq ‹_›, if_neg (by rw [hs]; simp)]
  · rw [hA, findP_end hs]
theorem c_ContainsFunc {g : Nat} {p : ByteArray → Bool} {l : List ByteArray} (hg : ∀ {s : ByteArray}, XPure Tryz.prog g [str s] (bln (p s)) false) (hl : l.length ≤ 1000000000) : XPure Tryz.prog 81 [eS l, .fn (.func g) [] []] (bln (l.any p)) false := by
  refine XPure.body ⟨_, Tryz.func81, rfl, by kernel_rfl⟩ Tryz.func81 rfl (Nat.le_of_ble_eq_true (by rfl)) (pf_of1 rfl) fun env => ?_
  repeat' ((conv => whnf); (fail_if_success refine zC ?_); first | refine zS ?_ | refine zB (fun h hs => ?_) (fun h hs => ?_) <;> try exact hs.elim | refine .inl ⟨_, _, c_IndexFunc hg hl, ?_⟩ | exact zE | refine zZ ?_ | fail)
  rw [findP_any]

/-- What a node's parts are, but for what stands ahead of it. -/
def nodeIn (n : Node) : Bool :=
  isName n.target && decide (n.needs.length ≤ 65) && decide (n.recipe.length ≤ 64) && (n.has || decide (n.recipe.length = 0)) && !(n.recipe.any fun s => decide ((s.size : Int) > 65536)) &&
    (bif beqS n.source .empty then beqS n.stem .empty else decide (0 < n.needs.length) && beqS (n.needs.getD 0 .empty) n.source && decide (n.stem.size ≤ 64))
/-- Needs: names, all other ones, each of which p says. -/
def needsOk (p : ByteArray → Bool) (done : List ByteArray) : List ByteArray → Bool
  | [] => true
  | x :: r => isName x && !hasS done x && p x && needsOk p (done ++ [x]) r
theorem take_succD {l : List ByteArray} {i : Nat} (h : i < l.length) : l.take (i + 1) = l.take i ++ [l.getD i .empty] := by
  rw [List.take_succ_eq_append_getElem h]; simp [List.getD_eq_getElem?_getD, h]
theorem needsOk_step {p : ByteArray → Bool} {l : List ByteArray} {i : Nat} (h : i < l.length) : needsOk p (l.take i) (l.drop i) = (isName (l.getD i .empty) && !hasS (l.take i) (l.getD i .empty) && p (l.getD i .empty) && needsOk p (l.take (i + 1)) (l.drop (i + 1))) := by
  rw [drop_getD .empty h, take_succD h]; rfl
theorem needsOk_no {p : ByteArray → Bool} {l : List ByteArray} {i : Nat} (h : i < l.length) (h1 : isName (l.getD i .empty) = false ∨ hasS (l.take i) (l.getD i .empty) = true ∨ p (l.getD i .empty) = false) : needsOk p (l.take i) (l.drop i) = false := by
  rw [needsOk_step h]
  rcases h1 with h1 | h1 | h1 <;> rw [h1] <;> simp
theorem needsOk_yes {p : ByteArray → Bool} {l : List ByteArray} {i : Nat} (h : i < l.length) (h1 : isName (l.getD i .empty) = true) (h2 : hasS (l.take i) (l.getD i .empty) = false) (h3 : p (l.getD i .empty) = true) : needsOk p (l.take i) (l.drop i) = needsOk p (l.take (i + 1)) (l.drop (i + 1)) := by
  rw [needsOk_step h, h1, h2, h3]; rfl
theorem needsOk_end {p : ByteArray → Bool} {l : List ByteArray} {i : Nat} (h : ¬ i < l.length) : needsOk p (l.take i) (l.drop i) = true := by
  rw [List.drop_eq_nil_of_le (by omega)]; rfl
def nodeOk (n : Node) : Bool := nodeIn n && needsOk (fun x => !beqS x n.target) [] n.needs
theorem take_eS (l : List ByteArray) (n : Nat) : AV.sl 1 (((l.map fun x => .v (.string x)).take n).drop 0) = eS (l.take n) := by
  show AV.sl 1 (((l.map fun x => AV.v (.string x)).take n).drop 0) = AV.sl 1 ((l.take n).map _)
  rw [List.drop_zero, List.map_take]
theorem c_ref03_HasT {l : List ByteArray} {n : Nat} {s : ByteArray} (hl : l.length ≤ 1000000000) : XPure Tryz.prog 16 [.sl 1 (((l.map fun x => .v (.string x)).take n).drop 0), .v (.string s)] (.v (.bool (hasS (l.take n) s))) false := by
  rw [take_eS]; exact c_ref03_Has (by rw [List.length_take]; omega)
theorem c_ContainsT {l : List ByteArray} {n : Nat} {s : ByteArray} (hl : l.length ≤ 1000000000) : XPure Tryz.prog 46 [.sl 1 (((l.map fun x => .v (.string x)).take n).drop 0), .v (.string s)] (.v (.bool (hasS (l.take n) s))) false := by
  rw [take_eS]; exact c_Contains (by rw [List.length_take]; omega)
def SzL (l : List ByteArray) : Prop := l.length ≤ 1000000000 ∧ ∀ x ∈ l, x.size ≤ 140737488355328
theorem SzL.at {l : List ByteArray} (h : SzL l) {i : Nat} (hi : i < l.length) : (l.getD i .empty).size ≤ 140737488355328 :=
  h.2 _ (by simp [List.getD_eq_getElem?_getD, hi])
structure SzN (n : Node) : Prop where
  target : n.target.size ≤ 140737488355328
  needs : SzL n.needs
  recipe : SzL n.recipe
theorem nodeIn_iff {n : Node} : nodeIn n = true ↔ isName n.target = true ∧ n.needs.length ≤ 65 ∧ n.recipe.length ≤ 64 ∧ (n.has = true ∨ n.recipe.length = 0) ∧ (n.recipe.any fun s => decide ((s.size : Int) > 65536)) = false ∧
    ((n.source = .empty ∧ n.stem = .empty) ∨ (n.source ≠ .empty ∧ 0 < n.needs.length ∧ n.needs.getD 0 .empty = n.source ∧ n.stem.size ≤ 64)) := by
  unfold nodeIn
  cases h : beqS n.source .empty with
  | true =>
    have := beqS_iff.1 h
    simp [beqS_iff, this, and_assoc]
  | false =>
    have := beqS_no.1 h
    simp [beqS_iff, this, and_assoc]
end Go.Proofs.YtepdiooaoegpfaaGreatDoor.Fx
end
section
/- Plans. Conditions: those in each statement. -/
namespace Go.Proofs.YtepdiooaoegpfaaGreatDoor.Fx
open Go Go.Proofs Go.Ev Go.RowKit
set_option maxRecDepth 100000
set_option maxHeartbeats 1600000
set_option linter.unusedSimpArgs false
set_option linter.unusedVariables false
def mOf (l : List ByteArray) : List (ByteArray × AV) := l.map fun s => (s, i64 1)
theorem getM_mOf : ∀ (l : List ByteArray) (s : ByteArray), getM (mOf l) s = if hasS l s then some (i64 1) else none
  | [], _ => rfl
  | x :: l, s => by
    show (if s = x then some (i64 1) else getM (mOf l) s) = if (beqS x s || hasS l s) = true then some (i64 1) else none
    by_cases h : s = x
    · rw [if_pos h, beqS_iff.2 h.symm]; rfl
    · rw [if_neg h, beqS_no.2 (fun e => h e.symm), Bool.false_or]; exact getM_mOf l s
theorem getM_some {l : List ByteArray} {s : ByteArray} {x : AV} (h : getM (mOf l) s = some x) : x = i64 1 ∧ hasS l s = true := by
  rw [getM_mOf] at h
  split at h
  · rename_i e; exact ⟨(Option.some.inj h).symm, e⟩
  · cases h
theorem getM_none {l : List ByteArray} {s : ByteArray} (h : getM (mOf l) s = none) : hasS l s = false := by
  rw [getM_mOf] at h
  split at h
  · cases h
  · rename_i e; simpa using e
theorem setM_mOf : ∀ (l : List ByteArray) (s : ByteArray), hasS l s = false → setM (mOf l) s (i64 1) = mOf (l ++ [s])
  | [], _, _ => rfl
  | x :: l, s, h => by
    have h' : beqS x s = false ∧ hasS l s = false := by simpa [hasS] using h
    show (if s = x then (s, i64 1) :: mOf l else (x, i64 1) :: setM (mOf l) s (i64 1)) = (x, i64 1) :: mOf (l ++ [s])
    rw [if_neg (fun e => beqS_no.1 h'.1 e.symm), setM_mOf l s h'.2]
def rightN (ahead : List ByteArray) (n : Node) : Bool := nodeIn n && !hasS ahead n.target && needsOk (hasS ahead) [] n.needs
theorem errIf_0 {b : Bool} : errIf b 3 = 0 ↔ b = true := by cases b <;> simp [errIf]
theorem rightN_last {ahead : List ByteArray} {n : Node} (h1 : isName n.target = true ∧ n.needs.length ≤ 65 ∧ n.recipe.length ≤ 64 ∧ (n.has = true ∨ n.recipe.length = 0)) (h2 : hasS ahead n.target = false) (h3 : needsOk (hasS ahead) [] n.needs = true) (h4 : (n.recipe.any fun s => decide ((s.size : Int) > 65536)) = false) :
    rightN ahead n = bif beqS n.source .empty then beqS n.stem .empty else decide (0 < n.needs.length) && beqS (n.needs.getD 0 .empty) n.source && decide (n.stem.size ≤ 64) := by
  obtain ⟨q1, q2, q3, q4⟩ := h1
  have e : (n.has || decide (n.recipe.length = 0)) = true := by rcases q4 with q | q <;> simp [q]
  unfold rightN nodeIn
  rw [q1, h2, h3, h4, e, decide_eq_true q2, decide_eq_true q3]
  simp
theorem rightN_any {ahead : List ByteArray} {n : Node} (h4 : (n.recipe.any fun s => decide ((s.size : Int) > 65536)) = true) : rightN ahead n = false := by
  unfold rightN nodeIn; rw [h4]; simp
theorem c_right {n : Node} {ahead : List ByteArray} {env : List Bx} {k : Nat} (he : env[k]? = some (.map (mOf ahead))) (hz : SzN n) :
    XCalls Tryz.prog 64 [eN n, .mx k] env fun r ow env' => r = bln (rightN ahead n) ∧ ow = false ∧ env' = env := by
  have hn1 := hz.needs.1
  have hn2 := hz.recipe.1
  have hE0 : ByteArray.empty.size = 0 := rfl
  have hkk : k < env.length := (List.getElem?_eq_some_iff.1 he).1
  refine XCalls.body Tryz.func64 rfl (Nat.le_of_ble_eq_true (by rfl)) ?_
  repeat' ((conv => whnf); first | ((with_reducible show (∀ _ : AV, _) ∧ _); refine ⟨fun x hx => ?_, fun hx => ?_⟩; (obtain ⟨rfl, hx⟩ := getM_some hx)) | refine zS ?_ | refine zB (fun h hs => ?_) (fun h hs => ?_) <;> try exact hs.elim | refine .inl ⟨_, _, c_names_Check hz.target, ?_⟩ | ((refine ⟨_, mapOf_mx he, ?_⟩)) | exact zE | refine zZ ?_ | fail)
  all_goals try (have e : rightN ahead n = false := by rw [← Bool.not_eq_true]; simp only [rightN, Bool.and_eq_true, nodeIn_iff, errIf_0, Bool.not_eq_true'] at *; grind)
  all_goals try (rw [e])
  all_goals replace hx := getM_none ‹_›
  all_goals have hF : isName n.target = true ∧ n.needs.length ≤ 65 ∧ n.recipe.length ≤ 64 ∧ (n.has = true ∨ n.recipe.length = 0) := by simp only [errIf_0, cs, reduceCtorEq, Int.reduceEq, Int.reduceNe, Int.reduceLT, Int.reduceLE, Int.reduceBEq, Int.reduceBNe] at *; grind
  all_goals clear h hs
  all_goals refine XW.countL n.needs.length [1, 2, 42, 43] (fun i => [(44, i64 i)]) (fun _ => []) (fun _ => [.cells (eN n).leaves []]) (fun i => needsOk (hasS ahead) [] n.needs = needsOk (hasS ahead) (n.needs.take i) (n.needs.drop i)) Weak.go rfl ?_
  all_goals
    intro i hi hA
    refine codeS ?_
    repeat' ((conv => whnf); first | ((with_reducible show (∀ _ : AV, _) ∧ _); refine ⟨fun x hx => ?_, fun hx => ?_⟩; (obtain ⟨rfl, hx⟩ := getM_some hx)) | refine zS ?_ | refine zB (fun h hs => ?_) (fun h hs => ?_) <;> try exact hs.elim | refine .inl ⟨_, _, c_names_Check (hz.needs.at (by omega)), ?_⟩ | refine .inl ⟨_, _, c_ContainsT hn1, ?_⟩ | refine XW.dr (m := 20) ?_ | refine ⟨_, _, c_names_Check (hz.needs.at (by omega)), ?_⟩ | refine ⟨_, _, c_ContainsT hn1, ?_⟩ | ((refine ⟨_, mapOf_mx he, ?_⟩)) | exact zE | refine zZ ?_ | rw [getD_mapI (ByteArray.empty) (by omega)] | rw [getD_map (ByteArray.empty) (by omega)] | fail)
    all_goals try (have hi' : i < n.needs.length := by assumption)
    all_goals try simp only [cs, reduceCtorEq, Int.reduceEq, Int.reduceNe, Int.reduceLT, Int.reduceLE, Int.reduceBEq, Int.reduceBNe, errIf_0] at hs
    all_goals try (replace hx := getM_none ‹_›)
    all_goals try (have e : rightN ahead n = false := by unfold rightN; rw [hA, needsOk_no hi' (by simp only [cs, reduceCtorEq, Int.reduceEq, Int.reduceNe, Int.reduceLT, Int.reduceLE, Int.reduceBEq, Int.reduceBNe, errIf_0] at *; grind), Bool.and_false])
    all_goals try (rw [e])
    all_goals try exact hA.trans (needsOk_yes hi' (by grind) (by grind) (by grind))
    have hN : needsOk (hasS ahead) [] n.needs = true := by rw [hA, needsOk_end hs]
    repeat' ((conv => whnf); (fail_if_success refine zC ?_); first | refine zS ?_ | refine zB (fun h hs => ?_) (fun h hs => ?_) <;> try exact hs.elim | refine .inl ⟨_, _, c_ContainsFunc c_right_1 hn2, ?_⟩ | refine XW.dr (m := 20) ?_ | refine ⟨_, _, c_ContainsFunc c_right_1 hn2, ?_⟩ | exact zE | refine zZ ?_ | rw [getD_mapI (ByteArray.empty) (by omega)] | rw [getD_map (ByteArray.empty) (by omega)] | fail)
    · rw [rightN_any h]
    · rw [rightN_last hF hx hN ‹_›, show beqS n.source .empty = true from h, cond_true]; rfl
    all_goals rw [rightN_last hF hx hN ‹_›, show beqS n.source .empty = false from ‹_›, cond_false]
    all_goals clear hA he hkk
    all_goals refine congrArg (fun b => bln b) ?_
    all_goals rw [Bool.eq_iff_iff]
    all_goals simp only [cs, reduceCtorEq, Int.reduceEq, Int.reduceNe, Int.reduceLT, Int.reduceLE, Int.reduceBEq, Int.reduceBNe] at *
    all_goals grind
theorem rightN_target {ahead : List ByteArray} {n : Node} (h : rightN ahead n = true) : hasS ahead n.target = false := by
  simp only [rightN, Bool.and_eq_true, Bool.not_eq_true'] at h; exact h.1.2
def nodesOk (ahead : List ByteArray) : List Node → Bool
  | [] => true
  | n :: r => rightN ahead n && nodesOk (ahead ++ [n.target]) r
/-- The targets of nodes. -/
def targets (l : List Node) : List ByteArray := l.map Node.target
def goalsOk (all done : List ByteArray) : List ByteArray → Bool
  | [] => true
  | g :: r => hasS all g && !hasS done g && goalsOk all (done ++ [g]) r
def planOk (nodes : List Node) (goals : List ByteArray) : Bool := decide (nodes.length ≤ 256) && decide (1 ≤ goals.length) && decide (goals.length ≤ 512) && nodesOk [] nodes && goalsOk (targets nodes) [] goals
abbrev eP (nodes : List Node) (goals : List ByteArray) : AV := .agg [.sl 10 (nodes.map eN), eS goals]
theorem targets_succ {l : List Node} {i : Nat} (h : i < l.length) : targets (l.take (i + 1)) = targets (l.take i) ++ [(l.getD i default).target] := by
  unfold targets
  rw [List.take_succ_eq_append_getElem h, List.map_append]; simp [List.getD_eq_getElem?_getD, h]
theorem nodesOk_step {l : List Node} {i : Nat} (h : i < l.length) : nodesOk (targets (l.take i)) (l.drop i) = (rightN (targets (l.take i)) (l.getD i default) && nodesOk (targets (l.take (i + 1))) (l.drop (i + 1))) := by
  rw [drop_getD default h, targets_succ h]; rfl
theorem nodesOk_end {l : List Node} {i : Nat} (h : ¬ i < l.length) : nodesOk (targets (l.take i)) (l.drop i) = true := by
  rw [List.drop_eq_nil_of_le (by omega)]; rfl
theorem goalsOk_step {all l : List ByteArray} {i : Nat} (h : i < l.length) : goalsOk all (l.take i) (l.drop i) = (hasS all (l.getD i .empty) && !hasS (l.take i) (l.getD i .empty) && goalsOk all (l.take (i + 1)) (l.drop (i + 1))) := by
  rw [drop_getD .empty h, take_succD h]; rfl
theorem goalsOk_end {all l : List ByteArray} {i : Nat} (h : ¬ i < l.length) : goalsOk all (l.take i) (l.drop i) = true := by
  rw [List.drop_eq_nil_of_le (by omega)]; rfl
end Go.Proofs.YtepdiooaoegpfaaGreatDoor.Fx
end
section
/- Words: the document's answer joins them; what commands are. Conditions: those in each statement. -/
namespace Go.Proofs.YtepdiooaoegpfaaGreatDoor.Fx
open Go Go.Proofs Go.Ev Go.RowKit
set_option maxRecDepth 100000
set_option maxHeartbeats 1600000
set_option linter.unusedSimpArgs false
set_option linter.unusedVariables false
theorem c_lex_blank {c : Int} : XPure Tryz.prog 84 [.v (.int .u8 c)] (bln (c == 32 || c == 9)) false := by
  refine XPure.body ⟨_, Tryz.func84, rfl, by kernel_rfl⟩ Tryz.func84 rfl (Nat.le_of_ble_eq_true (by rfl)) (pf_of1 rfl) fun env => ?_
  (repeat' ((conv => whnf); (fail_if_success refine zC ?_); first | refine zS ?_ | refine zB (fun h hs => ?_) (fun h hs => ?_) <;> try exact hs.elim | exact zEf | refine zZf ?_ | fail)) <;> try ((with_reducible show _ = _); (conv => lhs; whnf); simp only [Bool.cond_true_left])
theorem c_cmd_few {l : List ByteArray} : XPure Tryz.prog 187 [eS l] (i64 (if 512 < l.length then 160 else 0)) false := by
  refine XPure.body ⟨_, Tryz.func187, rfl, by kernel_rfl⟩ Tryz.func187 rfl (Nat.le_of_ble_eq_true (by rfl)) (pf_of1 rfl) fun env => ?_
  repeat' ((conv => whnf); (fail_if_success refine zC ?_); first | refine zS ?_ | refine zB (fun h hs => ?_) (fun h hs => ?_) <;> try exact hs.elim | exact zE | refine zZ ?_ | fail)
  · rw [if_pos (by omega)]
  · rw [if_neg (by omega)]
theorem c_exec_Status {e : Int} : XPure Tryz.prog 21 [i64 e] (i64 (if e = 0 then 0 else if e = 171 then 1 else if e = 150 ∨ e = 9 ∨ e = 160 ∨ e = 3 then 2 else if e = 170 then 3 else if e = 21 then 4 else if e = 20 then 5 else if e = 22 then 6 else if e = 23 then 7 else 8)) false := by
  refine XPure.body ⟨_, Tryz.func21, rfl, by kernel_rfl⟩ Tryz.func21 rfl (Nat.le_of_ble_eq_true (by rfl)) (pf_of1 rfl) fun env => ?_
  repeat' ((conv => whnf); (fail_if_success refine zC ?_); first | refine zS ?_ | refine zB (fun h hs => ?_) (fun h hs => ?_) <;> try exact hs.elim | exact zE | refine zZ ?_ | fail)
  all_goals refine congrArg i64 ?_
  all_goals grind
def opName (op : Int) : ByteArray := if op = 1 then ⟨#[99, 111, 112, 121]⟩ else if op = 2 then ⟨#[99, 111, 110, 99, 97, 116]⟩ else if op = 3 then ⟨#[101, 99, 104, 111, 45, 116, 111]⟩ else if op = 4 then ⟨#[116, 111, 117, 99, 104]⟩ else if op = 5 then ⟨#[114, 101, 109, 111, 118, 101]⟩ else if op = 6 then ⟨#[116, 101, 115, 116, 45, 101, 120, 105, 115, 116, 115]⟩ else if op = 7 then ⟨#[102, 97, 105, 108]⟩ else if op = 8 then ⟨#[115, 97, 121]⟩ else .empty
def manyOk (op n : Int) : Bool := if op = 1 then decide (n = 2) else if op = 2 then decide (n ≥ 2) && decide (n ≤ 65) else if op = 3 then decide (n ≥ 1) && decide (n ≤ 513) else if op = 4 ∨ op = 5 ∨ op = 6 then decide (n = 1) else if op = 7 then decide (n ≤ 1) else if op = 8 then decide (n ≤ 512) else false
theorem c_cmd_count {op n : Int} (h8 : 1 ≤ op ∧ op ≤ 8) : XPure Tryz.prog 90 [i64 op, i64 n] (bln (manyOk op n)) false := by
  refine XPure.body ⟨_, Tryz.func90, rfl, by kernel_rfl⟩ Tryz.func90 rfl (Nat.le_of_ble_eq_true (by rfl)) (pf_of1 rfl) fun env => ?_
  repeat' ((conv => whnf); (fail_if_success refine zC ?_); first | refine zS ?_ | refine zB (fun h hs => ?_) (fun h hs => ?_) <;> try exact hs.elim | exact zE | refine zZ ?_ | fail)
  all_goals refine congrArg (fun b => bln b) ?_
  all_goals (simp only [manyOk, Bool.cond_false_right]; grind)
def firstE (l : List Int) : Int := match l with
  | [] => 0
  | e :: r => if e = 0 then firstE r else e
theorem filesE_step {l : List ByteArray} {i : Nat} (h : i < l.length) : (l.drop i).all isName = (isName (l.getD i .empty) && (l.drop (i + 1)).all isName) := by
  rw [drop_getD .empty h, List.all_cons]
theorem c_cmd_files {l : List ByteArray} (hl : l.length ≤ 1000000000) (hz : ∀ i, i < l.length → (l.getD i .empty).size ≤ 140737488355328) : XPure Tryz.prog 93 [eS l] (i64 (errIf (l.all isName) 3)) false := by
  refine XPure.body ⟨_, Tryz.func93, rfl, by kernel_rfl⟩ Tryz.func93 rfl (Nat.le_of_ble_eq_true (by rfl)) (pf_of1 rfl) fun env => ?_
  repeat' ((conv => whnf); (fail_if_success refine zC ?_); first | refine zS ?_ | refine zB (fun h hs => ?_) (fun h hs => ?_) <;> try exact hs.elim | exact zE | refine zZ ?_ | fail)
  refine XW.countL l.length [6, 7] (fun i => [(8, i64 i)]) (fun _ => []) (fun _ => []) (fun i => l.all isName = (l.drop i).all isName) Weak.go rfl ?_
  intro i hi hA
  refine codeS ?_
  repeat' ((conv => whnf); (fail_if_success refine zC ?_); first | refine zS ?_ | refine zB (fun h hs => ?_) (fun h hs => ?_) <;> try exact hs.elim | refine .inl ⟨_, _, c_names_Check (hz i (by omega)), ?_⟩ | exact zE | refine zZ ?_ | rw [getD_mapI (ByteArray.empty) (by omega)] | rw [getD_map (ByteArray.empty) (by omega)] | fail)
  · have e : isName (l.getD i .empty) = false := by rw [errIf_0] at hs; simpa using hs
    rw [hA, filesE_step ‹_›, e]; rfl
  · rw [hA, filesE_step ‹_›, errIf_0.1 hs, Bool.true_and]
  · rw [hA, List.drop_eq_nil_of_le (by omega)]; rfl
end Go.Proofs.YtepdiooaoegpfaaGreatDoor.Fx
end
section
/- Names without doubles; operations of words. Conditions: those in each statement. -/
namespace Go.Proofs.YtepdiooaoegpfaaGreatDoor.Fx
open Go Go.Proofs Go.Ev Go.RowKit
set_option maxRecDepth 100000
set_option maxHeartbeats 1600000
set_option linter.unusedSimpArgs false
set_option linter.unusedVariables false
def opFrom (w : ByteArray) (i : Nat) : Nat → Int
  | 0 => 0
  | k + 1 => if beqS (opName i) w then i else opFrom w (i + 1) k
theorem firstE_step {l : List Int} {i : Nat} (h : i < l.length) : firstE (l.drop i) = if l.getD i 0 = 0 then firstE (l.drop (i + 1)) else l.getD i 0 := by
  rw [drop_getD 0 h]; rfl
theorem c_cmd_first {l : List Int} (hl : l.length ≤ 1000000000) : XPure Tryz.prog 181 [.sl 1 (l.map i64)] (i64 (firstE l)) false := by
  refine XPure.body ⟨_, Tryz.func181, rfl, by kernel_rfl⟩ Tryz.func181 rfl (Nat.le_of_ble_eq_true (by rfl)) (pf_of1 rfl) fun env => ?_
  repeat' ((conv => whnf); (fail_if_success refine zC ?_); first | refine zS ?_ | refine zB (fun h hs => ?_) (fun h hs => ?_) <;> try exact hs.elim | exact zE | refine zZ ?_ | fail)
  refine XW.countL l.length [5, 6] (fun i => [(7, i64 i)]) (fun _ => []) (fun _ => []) (fun i => firstE l = firstE (l.drop i)) Weak.go rfl ?_
  intro i hi hA
  refine codeS ?_
  repeat' ((conv => whnf); (fail_if_success refine zC ?_); first | refine zS ?_ | refine zB (fun h hs => ?_) (fun h hs => ?_) <;> try exact hs.elim | exact zE | refine zZ ?_ | rw [getD_mapI ((0 : Int)) (by omega)] | rw [getD_map ((0 : Int)) (by omega)] | fail)
  · rw [hA, firstE_step (by assumption), if_neg hs]
  · rw [hA, firstE_step (by assumption), if_pos hs]
  · rw [hA, List.drop_eq_nil_of_le (by omega)]; rfl
end Go.Proofs.YtepdiooaoegpfaaGreatDoor.Fx
end
section
/- What commands do, each by itself. Conditions: those in each statement. -/
namespace Go.Proofs.YtepdiooaoegpfaaGreatDoor.Fx
open Go Go.Proofs Go.Ev Go.RowKit
set_option maxRecDepth 100000
set_option maxHeartbeats 1600000
set_option linter.unusedSimpArgs false
set_option linter.unusedVariables false
theorem sz2 {a b : ByteArray} (ha : a.size ≤ 140737488355328) (hb : b.size ≤ 140737488355328) : ∀ i, i < [a, b].length → ([a, b].getD i .empty).size ≤ 140737488355328
  | 0, _ => ha
  | 1, _ => hb
  | i + 2, h => absurd h (by simp)
theorem sz1 {a : ByteArray} (ha : a.size ≤ 140737488355328) : ∀ i, i < [a].length → ([a].getD i .empty).size ≤ 140737488355328
  | 0, _ => ha
  | i + 1, h => absurd h (by simp)
theorem c_copying_right {s d : ByteArray} (hz1 : s.size ≤ 140737488355328) (hz2 : d.size ≤ 140737488355328) : XPure Tryz.prog 171 [.agg [str s, str d]] (i64 (errIf ([d, s].all isName) 3)) false := by
  refine XPure.body ⟨_, Tryz.func171, rfl, by kernel_rfl⟩ Tryz.func171 rfl (Nat.le_of_ble_eq_true (by rfl)) (pf_of1 rfl) fun env => ?_
  repeat' ((conv => whnf); (fail_if_success refine zC ?_); first | refine zS ?_ | refine zB (fun h hs => ?_) (fun h hs => ?_) <;> try exact hs.elim | refine .inl ⟨_, _, c_cmd_files (l := [d, s]) (Nat.le_of_ble_eq_true rfl) (sz2 hz2 hz1), ?_⟩ | (refine .inl ?_) | exact zE | refine zZ ?_ | fail)
theorem c_joining_writes {d : ByteArray} {l : List ByteArray} : XPure Tryz.prog 179 [.agg [str d, eS l]] (.tup [str d, bln true]) false := by
  refine XPure.body ⟨_, Tryz.func179, rfl, by kernel_rfl⟩ Tryz.func179 rfl (Nat.le_of_ble_eq_true (by rfl)) (pf_of1 rfl) fun env => ?_
  repeat' ((conv => whnf); (fail_if_success refine zC ?_); first | refine zS ?_ | refine zB (fun h hs => ?_) (fun h hs => ?_) <;> try exact hs.elim | exact zE | refine zZ ?_ | fail)
theorem c_echoing_writes {d : ByteArray} {l : List ByteArray} : XPure Tryz.prog 186 [.agg [str d, eS l]] (.tup [str d, bln true]) false := by
  refine XPure.body ⟨_, Tryz.func186, rfl, by kernel_rfl⟩ Tryz.func186 rfl (Nat.le_of_ble_eq_true (by rfl)) (pf_of1 rfl) fun env => ?_
  repeat' ((conv => whnf); (fail_if_success refine zC ?_); first | refine zS ?_ | refine zB (fun h hs => ?_) (fun h hs => ?_) <;> try exact hs.elim | exact zE | refine zZ ?_ | fail)
theorem c_echoing_reads {d : ByteArray} {l : List ByteArray} : XPure Tryz.prog 182 [.agg [str d, eS l]] (eS []) false := by
  refine XPure.bodyN ⟨_, Tryz.func182, rfl, by kernel_rfl⟩ Tryz.func182 rfl (Nat.le_of_ble_eq_true (by rfl)) (pf_of1 rfl) fun env => ?_
  repeat' ((conv => whnf); (fail_if_success refine zC ?_); first | refine zS ?_ | refine zB (fun h hs => ?_) (fun h hs => ?_) <;> try exact hs.elim | exact zE | refine zZ ?_ | fail)
theorem c_touching_right {d : ByteArray} (hz : d.size ≤ 140737488355328) : XPure Tryz.prog 190 [.agg [str d]] (i64 (errIf ([d].all isName) 3)) false := by
  refine XPure.body ⟨_, Tryz.func190, rfl, by kernel_rfl⟩ Tryz.func190 rfl (Nat.le_of_ble_eq_true (by rfl)) (pf_of1 rfl) fun env => ?_
  repeat' ((conv => whnf); (fail_if_success refine zC ?_); first | refine zS ?_ | refine zB (fun h hs => ?_) (fun h hs => ?_) <;> try exact hs.elim | refine .inl ⟨_, _, c_cmd_files (l := [d]) (Nat.le_of_ble_eq_true rfl) (sz1 hz), ?_⟩ | (refine .inl ?_) | exact zE | refine zZ ?_ | fail)
theorem c_removing_right {d : ByteArray} (hz : d.size ≤ 140737488355328) : XPure Tryz.prog 195 [.agg [str d]] (i64 (errIf ([d].all isName) 3)) false := by
  refine XPure.body ⟨_, Tryz.func195, rfl, by kernel_rfl⟩ Tryz.func195 rfl (Nat.le_of_ble_eq_true (by rfl)) (pf_of1 rfl) fun env => ?_
  repeat' ((conv => whnf); (fail_if_success refine zC ?_); first | refine zS ?_ | refine zB (fun h hs => ?_) (fun h hs => ?_) <;> try exact hs.elim | refine .inl ⟨_, _, c_cmd_files (l := [d]) (Nat.le_of_ble_eq_true rfl) (sz1 hz), ?_⟩ | (refine .inl ?_) | exact zE | refine zZ ?_ | fail)
theorem c_testing_right {d : ByteArray} (hz : d.size ≤ 140737488355328) : XPure Tryz.prog 200 [.agg [str d]] (i64 (errIf ([d].all isName) 3)) false := by
  refine XPure.body ⟨_, Tryz.func200, rfl, by kernel_rfl⟩ Tryz.func200 rfl (Nat.le_of_ble_eq_true (by rfl)) (pf_of1 rfl) fun env => ?_
  repeat' ((conv => whnf); (fail_if_success refine zC ?_); first | refine zS ?_ | refine zB (fun h hs => ?_) (fun h hs => ?_) <;> try exact hs.elim | refine .inl ⟨_, _, c_cmd_files (l := [d]) (Nat.le_of_ble_eq_true rfl) (sz1 hz), ?_⟩ | (refine .inl ?_) | exact zE | refine zZ ?_ | fail)
theorem c_saying_right {l : List ByteArray} : XPure Tryz.prog 210 [.agg [eS l]] (i64 (if 512 < l.length then 160 else 0)) false := by
  refine XPure.body ⟨_, Tryz.func210, rfl, by kernel_rfl⟩ Tryz.func210 rfl (Nat.le_of_ble_eq_true (by rfl)) (pf_of1 rfl) fun env => ?_
  repeat' ((conv => whnf); (fail_if_success refine zC ?_); first | refine zS ?_ | refine zB (fun h hs => ?_) (fun h hs => ?_) <;> try exact hs.elim | refine .inl ⟨_, _, c_cmd_few, ?_⟩ | exact zE | refine zZ ?_ | fail)
theorem c_failing_right {n : Int} : XPure Tryz.prog 205 [.agg [i64 n]] (i64 (if n < 1 ∨ 255 < n then 160 else 0)) false := by
  refine XPure.body ⟨_, Tryz.func205, rfl, by kernel_rfl⟩ Tryz.func205 rfl (Nat.le_of_ble_eq_true (by rfl)) (pf_of1 rfl) fun env => ?_
  repeat' ((conv => whnf); (fail_if_success refine zC ?_); first | refine zS ?_ | refine zB (fun h hs => ?_) (fun h hs => ?_) <;> try exact hs.elim | exact zE | refine zZ ?_ | fail)
  all_goals refine congrArg i64 ?_
  all_goals (simp only [cs, reduceCtorEq, Int.reduceEq, Int.reduceNe, Int.reduceLT, Int.reduceLE, Int.reduceBEq, Int.reduceBNe] at *; grind)
theorem methods1 : (∀ {s d : ByteArray}, XPure Tryz.prog 170 [.agg [str s, str d]] (eS [s]) false) ∧ (∀ {d : ByteArray}, XPure Tryz.prog 199 [.agg [str d]] (eS [d]) false) := by
  refine ⟨?_, ?_⟩ <;> intros
  all_goals first
    | refine XPure.body ⟨_, Tryz.func170, rfl, by kernel_rfl⟩ Tryz.func170 rfl (Nat.le_of_ble_eq_true (by rfl)) (pf_of1 rfl) fun env => ?_
    | refine XPure.body ⟨_, Tryz.func199, rfl, by kernel_rfl⟩ Tryz.func199 rfl (Nat.le_of_ble_eq_true (by rfl)) (pf_of1 rfl) fun env => ?_
  all_goals
    repeat' ((conv => whnf); (fail_if_success refine zC ?_); first | refine zS ?_ | refine zB (fun h hs => ?_) (fun h hs => ?_) <;> try exact hs.elim | (refine .inl ?_) | exact zE | refine zZ ?_ | fail)
theorem c_copying_reads {s d : ByteArray} : XPure Tryz.prog 170 [.agg [str s, str d]] (eS [s]) false := methods1.1
theorem c_testing_reads {d : ByteArray} : XPure Tryz.prog 199 [.agg [str d]] (eS [d]) false := methods1.2
theorem methods2 : (∀ {s d : ByteArray}, XPure Tryz.prog 174 [.agg [str s, str d]] (.tup [str d, bln true]) false) ∧ (∀ {s d : ByteArray}, XPure Tryz.prog 172 [.agg [str s, str d]] (str .empty) false) ∧ (∀ {d : ByteArray}, XPure Tryz.prog 193 [.agg [str d]] (.tup [str d, bln true]) false) ∧ (∀ {d : ByteArray}, XPure Tryz.prog 191 [.agg [str d]] (str .empty) false) ∧ (∀ {d : ByteArray}, XPure Tryz.prog 198 [.agg [str d]] (.tup [str d, bln true]) false) ∧ (∀ {d : ByteArray}, XPure Tryz.prog 196 [.agg [str d]] (str .empty) false) ∧ (∀ {d : ByteArray}, XPure Tryz.prog 203 [.agg [str d]] (.tup [str .empty, bln false]) false) ∧ (∀ {d : ByteArray}, XPure Tryz.prog 201 [.agg [str d]] (str .empty) false) ∧ (∀ {n : Int}, XPure Tryz.prog 208 [.agg [i64 n]] (.tup [str .empty, bln false]) false) ∧ (∀ {n : Int}, XPure Tryz.prog 206 [.agg [i64 n]] (str .empty) false) ∧ (∀ {l : List ByteArray}, XPure Tryz.prog 213 [.agg [eS l]] (.tup [str .empty, bln false]) false) := by
  refine ⟨?_, ?_, ?_, ?_, ?_, ?_, ?_, ?_, ?_, ?_, ?_⟩ <;> intros
  all_goals first
    | refine XPure.body ⟨_, Tryz.func174, rfl, by kernel_rfl⟩ Tryz.func174 rfl (Nat.le_of_ble_eq_true (by rfl)) (pf_of1 rfl) fun env => ?_
    | refine XPure.body ⟨_, Tryz.func172, rfl, by kernel_rfl⟩ Tryz.func172 rfl (Nat.le_of_ble_eq_true (by rfl)) (pf_of1 rfl) fun env => ?_
    | refine XPure.body ⟨_, Tryz.func193, rfl, by kernel_rfl⟩ Tryz.func193 rfl (Nat.le_of_ble_eq_true (by rfl)) (pf_of1 rfl) fun env => ?_
    | refine XPure.body ⟨_, Tryz.func191, rfl, by kernel_rfl⟩ Tryz.func191 rfl (Nat.le_of_ble_eq_true (by rfl)) (pf_of1 rfl) fun env => ?_
    | refine XPure.body ⟨_, Tryz.func198, rfl, by kernel_rfl⟩ Tryz.func198 rfl (Nat.le_of_ble_eq_true (by rfl)) (pf_of1 rfl) fun env => ?_
    | refine XPure.body ⟨_, Tryz.func196, rfl, by kernel_rfl⟩ Tryz.func196 rfl (Nat.le_of_ble_eq_true (by rfl)) (pf_of1 rfl) fun env => ?_
    | refine XPure.body ⟨_, Tryz.func203, rfl, by kernel_rfl⟩ Tryz.func203 rfl (Nat.le_of_ble_eq_true (by rfl)) (pf_of1 rfl) fun env => ?_
    | refine XPure.body ⟨_, Tryz.func201, rfl, by kernel_rfl⟩ Tryz.func201 rfl (Nat.le_of_ble_eq_true (by rfl)) (pf_of1 rfl) fun env => ?_
    | refine XPure.body ⟨_, Tryz.func208, rfl, by kernel_rfl⟩ Tryz.func208 rfl (Nat.le_of_ble_eq_true (by rfl)) (pf_of1 rfl) fun env => ?_
    | refine XPure.body ⟨_, Tryz.func206, rfl, by kernel_rfl⟩ Tryz.func206 rfl (Nat.le_of_ble_eq_true (by rfl)) (pf_of1 rfl) fun env => ?_
    | refine XPure.body ⟨_, Tryz.func213, rfl, by kernel_rfl⟩ Tryz.func213 rfl (Nat.le_of_ble_eq_true (by rfl)) (pf_of1 rfl) fun env => ?_
  all_goals
    repeat' ((conv => whnf); (fail_if_success refine zC ?_); first | refine zS ?_ | refine zB (fun h hs => ?_) (fun h hs => ?_) <;> try exact hs.elim | exact zE | refine zZ ?_ | fail)
theorem c_copying_writes {s d : ByteArray} : XPure Tryz.prog 174 [.agg [str s, str d]] (.tup [str d, bln true]) false := methods2.1
theorem c_touching_writes {d : ByteArray} : XPure Tryz.prog 193 [.agg [str d]] (.tup [str d, bln true]) false := methods2.2.2.1
theorem c_removing_writes {d : ByteArray} : XPure Tryz.prog 198 [.agg [str d]] (.tup [str d, bln true]) false := methods2.2.2.2.2.1
theorem c_testing_writes {d : ByteArray} : XPure Tryz.prog 203 [.agg [str d]] (.tup [str .empty, bln false]) false := methods2.2.2.2.2.2.2.1
theorem c_failing_writes {n : Int} : XPure Tryz.prog 208 [.agg [i64 n]] (.tup [str .empty, bln false]) false := methods2.2.2.2.2.2.2.2.2.1
theorem c_saying_writes {l : List ByteArray} : XPure Tryz.prog 213 [.agg [eS l]] (.tup [str .empty, bln false]) false := methods2.2.2.2.2.2.2.2.2.2.2
theorem methods3 : (∀ {d : ByteArray}, XPure Tryz.prog 189 [.agg [str d]] (eS []) false) ∧ (∀ {d : ByteArray}, XPure Tryz.prog 194 [.agg [str d]] (eS []) false) ∧ (∀ {n : Int}, XPure Tryz.prog 204 [.agg [i64 n]] (eS []) false) ∧ (∀ {l : List ByteArray}, XPure Tryz.prog 209 [.agg [eS l]] (eS []) false) := by
  refine ⟨?_, ?_, ?_, ?_⟩ <;> intros
  all_goals first
    | refine XPure.bodyN ⟨_, Tryz.func189, rfl, by kernel_rfl⟩ Tryz.func189 rfl (Nat.le_of_ble_eq_true (by rfl)) (pf_of1 rfl) fun env => ?_
    | refine XPure.bodyN ⟨_, Tryz.func194, rfl, by kernel_rfl⟩ Tryz.func194 rfl (Nat.le_of_ble_eq_true (by rfl)) (pf_of1 rfl) fun env => ?_
    | refine XPure.bodyN ⟨_, Tryz.func204, rfl, by kernel_rfl⟩ Tryz.func204 rfl (Nat.le_of_ble_eq_true (by rfl)) (pf_of1 rfl) fun env => ?_
    | refine XPure.bodyN ⟨_, Tryz.func209, rfl, by kernel_rfl⟩ Tryz.func209 rfl (Nat.le_of_ble_eq_true (by rfl)) (pf_of1 rfl) fun env => ?_
  all_goals
    repeat' ((conv => whnf); (fail_if_success refine zC ?_); first | refine zS ?_ | refine zB (fun h hs => ?_) (fun h hs => ?_) <;> try exact hs.elim | exact zE | refine zZ ?_ | fail)
theorem c_touching_reads {d : ByteArray} : XPure Tryz.prog 189 [.agg [str d]] (eS []) false := methods3.1
theorem c_removing_reads {d : ByteArray} : XPure Tryz.prog 194 [.agg [str d]] (eS []) false := methods3.2.1
theorem c_failing_reads {n : Int} : XPure Tryz.prog 204 [.agg [i64 n]] (eS []) false := methods3.2.2.1
theorem c_saying_reads {l : List ByteArray} : XPure Tryz.prog 209 [.agg [eS l]] (eS []) false := methods3.2.2.2
end Go.Proofs.YtepdiooaoegpfaaGreatDoor.Fx
end
section
/- Plans. Conditions: those in each statement. -/
namespace Go.Proofs.YtepdiooaoegpfaaGreatDoor.Fx
open Go Go.Proofs Go.Ev Go.RowKit
set_option maxRecDepth 100000
set_option maxHeartbeats 1600000
set_option linter.unusedSimpArgs false
set_option linter.unusedVariables false
theorem env_own {env own : List Bx} {b i : Nat} {l : List (ByteArray × AV)} (h : own[i]? = some (.map l)) : (env ++ own.map (Bx.up b))[env.length + i]? = some (.map l) := by
  rw [List.getElem?_append_right (by omega), Nat.add_sub_cancel_left, List.getElem?_map, h]; rfl
theorem getD_mem {α : Type} {l : List α} {i : Nat} (d : α) (h : i < l.length) : l.getD i d ∈ l := by simp [List.getD_eq_getElem?_getD, h]
theorem planOk_bad {nodes : List Node} {goals : List ByteArray} (h : 256 < nodes.length ∨ goals.length < 1 ∨ 512 < goals.length) : planOk nodes goals = false := by
  rw [← Bool.not_eq_true]; simp only [planOk, Bool.and_eq_true, decide_eq_true_eq]; omega
theorem map_next {l : List Node} {i : Nat} (h : i < l.length) (hr : rightN (targets (l.take i)) (l.getD i default) = true) : setM (mOf (targets (l.take i))) (l.getD i default).target (i64 1) = mOf (targets (l.take (i + 1))) := by
  rw [setM_mOf _ _ (rightN_target hr), ← targets_succ h]
theorem c_resolve_Check {nodes : List Node} {goals : List ByteArray} (hz : ∀ n ∈ nodes, SzN n) : XPure Tryz.prog 42 [eP nodes goals] (i64 (errIf (planOk nodes goals) 7)) false := by
  refine XPure.body ⟨_, Tryz.func42, rfl, by kernel_rfl⟩ Tryz.func42 rfl (Nat.le_of_ble_eq_true (by rfl)) (pf_of1 rfl) fun env => ?_
  repeat' ((conv => whnf); (fail_if_success refine zC ?_); first | refine zS ?_ | refine zB (fun h hs => ?_) (fun h hs => ?_) <;> try exact hs.elim | exact zE | refine zZ ?_ | fail)
  all_goals try (rw [planOk_bad (by omega)]; rfl)
  have hF : planOk nodes goals = (nodesOk [] nodes && goalsOk (targets nodes) [] goals) := by
    have : decide (nodes.length ≤ 256) = true ∧ decide (1 ≤ goals.length) = true ∧ decide (goals.length ≤ 512) = true := ⟨decide_eq_true (by omega), decide_eq_true (by omega), decide_eq_true (by omega)⟩
    simp [planOk, this]
  refine XW.countL nodes.length [1, 3, 26, 27] (fun i => [(28, i64 i)]) (fun _ => []) (fun i => [.cells (eP nodes goals).leaves [], .map (mOf (targets (nodes.take i)))]) (fun i => nodesOk [] nodes = nodesOk (targets (nodes.take i)) (nodes.drop i)) Weak.go rfl ?_
  intro i hi hA
  refine codeS ?_
  repeat' ((conv => whnf); first | ((with_reducible show _ ∧ _ ∧ Weak _ _ _); have hM := map_next ‹i < nodes.length› (by assumption); refine ⟨?_, ?_, Weak.go⟩; omega) | refine zS ?_ | refine zB (fun h hs => ?_) (fun h hs => ?_) <;> try exact hs.elim | (refine callG_same ⟨_, Tryz.func64, rfl, by kernel_rfl⟩ (by rfl) (c_right (n := nodes.getD i default) (ahead := targets (nodes.take i)) (env_own rfl) (hz _ (getD_mem _ (by assumption)))) ?_) | exact zE | refine zZ ?_ | rw [getD_mapI ((default : Node)) (by omega)] | rw [getD_map ((default : Node)) (by omega)] | fail)
  · have e : planOk nodes goals = false := by rw [hF, hA, nodesOk_step ‹_›, hs]; rfl
    rw [e]; rfl
  · rw [hA, nodesOk_step ‹_›, hs, Bool.true_and]
  have hN : nodesOk [] nodes = true := by rw [hA, nodesOk_end hs]
  have hT : targets (nodes.take i) = targets nodes := by rw [List.take_of_length_le (by omega)]
  rw [hT]
  refine XW.countL goals.length [1, 3, 41, 42] (fun i => [(43, i64 i)]) (fun _ => []) (fun _ => [.cells (eP nodes goals).leaves [], .map (mOf (targets nodes))]) (fun i => goalsOk (targets nodes) [] goals = goalsOk (targets nodes) (goals.take i) (goals.drop i)) Weak.go rfl ?_
  intro k hk hB
  refine codeS ?_
  repeat' ((conv => whnf); first | ((with_reducible show (∀ _ : AV, _) ∧ _); refine ⟨fun x hx => ?_, fun hx => ?_⟩; (obtain ⟨rfl, hx⟩ := getM_some hx)) | refine zS ?_ | refine zB (fun h hs => ?_) (fun h hs => ?_) <;> try exact hs.elim | refine .inl ⟨_, _, c_ContainsT (by omega), ?_⟩ | ((refine ⟨_, rfl, ?_⟩)) | exact zE | refine zZ ?_ | rw [getD_mapI (ByteArray.empty) (by omega)] | rw [getD_map (ByteArray.empty) (by omega)] | fail)
  all_goals clear hz hA
  all_goals try (replace hx := getM_none ‹_›)
  all_goals try (have e : planOk nodes goals = true := by (rw [hF, hN, hB, goalsOk_end (by assumption)]; rfl))
  all_goals try (rw [e]; done)
  all_goals try (rw [e]; rfl)
  all_goals have hk' : k < goals.length := by assumption
  all_goals try (have e : planOk nodes goals = false := by (rw [hF, hN, hB, goalsOk_step hk']; grind))
  all_goals try (rw [e]; rfl)
  all_goals (rw [hB, goalsOk_step hk']; grind)
end Go.Proofs.YtepdiooaoegpfaaGreatDoor.Fx
end
section
/- Names without doubles; operations of words. Conditions: those in each statement. -/
namespace Go.Proofs.YtepdiooaoegpfaaGreatDoor.Fx
open Go Go.Proofs Go.Ev Go.RowKit
set_option maxRecDepth 100000
set_option maxHeartbeats 1600000
set_option linter.unusedSimpArgs false
set_option linter.unusedVariables false
theorem map_snoc {α : Type} (f : α → AV) (l : List α) (x : α) : l.map f ++ [f x] = (l ++ [x]).map f := by simp
/-- Texts without doubles, behind those that are there. -/
def uniqGo (out : List ByteArray) : List ByteArray → List ByteArray
  | [] => out
  | x :: r => if hasS out x then uniqGo out r else uniqGo (out ++ [x]) r
theorem uniqGo_step {out l : List ByteArray} {i : Nat} (h : i < l.length) : uniqGo out (l.drop i) = if hasS out (l.getD i .empty) = true then uniqGo out (l.drop (i + 1)) else uniqGo (out ++ [l.getD i .empty]) (l.drop (i + 1)) := by
  rw [drop_getD .empty h]; rfl
theorem c_Unique {l : List ByteArray} (hl : l.length ≤ 1000000000) : XPure Tryz.prog 180 [eS l] (eS (uniqGo [] l)) false := by
  refine XPure.bodyN ⟨_, Tryz.func180, rfl, by kernel_rfl⟩ Tryz.func180 rfl (Nat.le_of_ble_eq_true (by rfl)) (pf_of1 rfl) fun env => ?_
  repeat' ((conv => whnf); (fail_if_success refine zC ?_); first | refine zS ?_ | refine zB (fun h hs => ?_) (fun h hs => ?_) <;> try exact hs.elim | exact zE | refine zZ ?_ | fail)
  refine XW.overL [2, 6, 7] (fun (p : Nat × List ByteArray) => [(3, eS p.2), (8, i64 p.1)]) (fun _ => [3]) (fun _ => []) (fun p => p.1 ≤ l.length ∧ p.2.length ≤ p.1 ∧ uniqGo p.2 (l.drop p.1) = uniqGo [] l) (fun p => l.length - p.1) (0, []) Weak.go ⟨Nat.zero_le _, Nat.zero_le _, rfl⟩ ?_
  rintro ⟨i, out⟩ ⟨hi, ho, hA⟩
  dsimp only at hi ho hA ⊢
  refine codeS ?_
  have hM := map_snoc (fun x : ByteArray => AV.v (.string x)) out (l.getD i .empty)
  iterate 14 any_goals try ((conv => whnf); (fail_if_success refine zC ?_); first | refine zS ?_ | refine zB (fun h hs => ?_) (fun h hs => ?_) <;> try exact hs.elim | refine .inl ⟨_, _, c_Contains (by omega), ?_⟩ | exact zE | refine zZ ?_ | rw [getD_mapI (ByteArray.empty) (by omega)] | rw [getD_map (ByteArray.empty) (by omega)] | fail)
  · refine ⟨(i + 1, out ++ [l.getD i .empty]), by dsimp only; omega, ⟨by dsimp only; omega, by simp only [List.length_append, List.length_cons, List.length_nil]; omega, ?_⟩, Weak.go⟩
    dsimp only
    rw [← hA, uniqGo_step (i := i) (out := out) (by assumption), if_neg (by rw [hs]; simp)]
  · refine ⟨(i + 1, out), by dsimp only; omega, ⟨by dsimp only; omega, by dsimp only; omega, ?_⟩, Weak.go⟩
    dsimp only
    rw [← hA, uniqGo_step (i := i) (out := out) (by assumption), if_pos hs]
  · have e : uniqGo [] l = out := by rw [← hA, List.drop_eq_nil_of_le (by omega)]; rfl
    rw [e]; exact LeqD.refl _
end Go.Proofs.YtepdiooaoegpfaaGreatDoor.Fx
end
section
/- The other methods of commands. Conditions: those in each statement. -/
namespace Go.Proofs.YtepdiooaoegpfaaGreatDoor.Fx
open Go Go.Proofs Go.Ev Go.RowKit
set_option maxRecDepth 100000
set_option maxHeartbeats 1600000
set_option linter.unusedSimpArgs false
set_option linter.unusedVariables false
theorem c_joining_reads {d : ByteArray} {l : List ByteArray} (hl : l.length ≤ 1000000000) : XPure Tryz.prog 175 [.agg [str d, eS l]] (eS (uniqGo [] l)) false := by
  refine XPure.body ⟨_, Tryz.func175, rfl, by kernel_rfl⟩ Tryz.func175 rfl (Nat.le_of_ble_eq_true (by rfl)) (pf_of1 rfl) fun env => ?_
  repeat' ((conv => whnf); (fail_if_success refine zC ?_); first | refine zS ?_ | refine zB (fun h hs => ?_) (fun h hs => ?_) <;> try exact hs.elim | refine .inl ⟨_, _, c_Unique hl, ?_⟩ | exact zE | refine zZ ?_ | fail)
end Go.Proofs.YtepdiooaoegpfaaGreatDoor.Fx
end
section
/- Copies of rows. Conditions: those in each statement. -/
namespace Go.Proofs.YtepdiooaoegpfaaGreatDoor.Fx
open Go Go.Proofs Go.Ev Go.RowKit
set_option maxRecDepth 100000
set_option maxHeartbeats 1600000
set_option linter.unusedSimpArgs false
set_option linter.unusedVariables false
abbrev eStr (x : ByteArray) : AV := .v (.string x)
theorem els_F (l : List File) : Els 3 (l.map eF) := fun x hx => by
  obtain ⟨y, _, rfl⟩ := List.mem_map.1 hx
  exact ⟨rfl, rfl⟩
theorem call_CloneF : Callable Tryz.prog 27 := ⟨_, Tryz.func27, rfl, by kernel_rfl⟩
theorem c_CloneFB {l : List AV} (hl : l.length ≤ 1000000000) (hx : Els 3 l) (env : List Bx) : XCalls Tryz.prog 27 [.sl 3 l] env (NewBox env 3 l) := by
  refine XCalls.newBox hx ?_
  refine XCalls.bodyB Tryz.func27 rfl (Nat.le_of_ble_eq_true (by rfl)) ?_
  conv => whnf
  refine ⟨fun hn => ?_, ?_⟩
  · conv => whnf
    refine cTrue rfl ?_
    conv => whnf
    refine ⟨.inr rfl, rfl, ?_⟩
    conv => whnf
    exact ⟨rfl, .inl ⟨rfl, hn, List.append_nil env⟩⟩
  · conv => whnf
    refine cFalse rfl ?_
    conv => whnf
    refine .inr ?_
    conv => whnf
    refine ⟨?_, ?_, ?_, ?_, ?_, ?_⟩
    · show (0 + l.length) * 40 ≤ _; omega
    · show 0 + l.length ≤ _; omega
    · show 0 + 0 * 3 ≤ 0; omega
    · exact .inl rfl
    · intro h0
      conv => whnf
      refine ⟨.inr rfl, rfl, ?_⟩
      conv => whnf
      have : l = [] := List.eq_nil_of_length_eq_zero (by have : 0 + l.length ≤ 0 := h0; omega)
      subst this
      exact ⟨rfl, newSl_of (own := [.cells [] []]) (i := 0) (n := 0 + 0) (c := 0) (zs := []) hx rfl rfl (by decide) (by decide) rfl rfl⟩
    · intro h0 c' h1 h2
      conv => whnf
      refine ⟨.inr rfl, rfl, ?_⟩
      conv => whnf
      exact ⟨rfl, newSl_of (own := [.cells [] [], .cells (grownL [] (l.flatMap AV.leaves) (c' - (0 + l.length)) (.agg #[.string .empty, .string .empty, .int .i64 0])) []]) (i := 1) (n := 0 + l.length) (c := c')
        (zs := (List.replicate (c' - (0 + l.length)) [.v (.string .empty), .v (.string .empty), .v (.int .i64 0)]).flatten) hx (pfL_rep rfl _) (Nat.zero_add _) h1 h2 rfl (by rw [repLen]; rfl)⟩
theorem c_CloneF {l : List File} (hl : l.length ≤ 1000000000) : XPure Tryz.prog 27 [.sl 3 (l.map eF)] (.sl 3 (l.map eF)) false :=
  XPure.shut call_CloneF rfl (fun env => c_CloneFB (by simpa using hl) (els_F l) env) fun env r ow env' h => h.shut (by decide) (els_F l) (by simp; omega)
theorem els_S (l : List ByteArray) : Els 1 (l.map eStr) := fun x hx => by
  obtain ⟨y, _, rfl⟩ := List.mem_map.1 hx
  exact ⟨rfl, rfl⟩
theorem call_CloneS : Callable Tryz.prog 89 := ⟨_, Tryz.func89, rfl, by kernel_rfl⟩
theorem c_CloneSB {l : List AV} (hl : l.length ≤ 1000000000) (hx : Els 1 l) (env : List Bx) : XCalls Tryz.prog 89 [.sl 1 l] env (NewBox env 1 l) := by
  refine XCalls.newBox hx ?_
  refine XCalls.bodyB Tryz.func89 rfl (Nat.le_of_ble_eq_true (by rfl)) ?_
  conv => whnf
  refine ⟨fun hn => ?_, ?_⟩
  · conv => whnf
    refine cTrue rfl ?_
    conv => whnf
    refine ⟨.inr rfl, rfl, ?_⟩
    conv => whnf
    exact ⟨rfl, .inl ⟨rfl, hn, List.append_nil env⟩⟩
  · conv => whnf
    refine cFalse rfl ?_
    conv => whnf
    refine .inr ?_
    conv => whnf
    refine ⟨?_, ?_, ?_, ?_, ?_, ?_⟩
    · show (0 + l.length) * 16 ≤ _; omega
    · show 0 + l.length ≤ _; omega
    · show 0 + 0 * 1 ≤ 0; omega
    · exact .inl rfl
    · intro h0
      conv => whnf
      refine ⟨.inr rfl, rfl, ?_⟩
      conv => whnf
      have : l = [] := List.eq_nil_of_length_eq_zero (by have : 0 + l.length ≤ 0 := h0; omega)
      subst this
      exact ⟨rfl, newSl_of (own := [.cells [] []]) (i := 0) (n := 0 + 0) (c := 0) (zs := []) hx rfl rfl (by decide) (by decide) rfl rfl⟩
    · intro h0 c' h1 h2
      conv => whnf
      refine ⟨.inr rfl, rfl, ?_⟩
      conv => whnf
      exact ⟨rfl, newSl_of (own := [.cells [] [], .cells (grownL [] (l.flatMap AV.leaves) (c' - (0 + l.length)) (.string .empty)) []]) (i := 1) (n := 0 + l.length) (c := c')
        (zs := (List.replicate (c' - (0 + l.length)) [.v (.string .empty)]).flatten) hx (pfL_rep rfl _) (Nat.zero_add _) h1 h2 rfl (by rw [repLen]; rfl)⟩
theorem c_CloneS {l : List ByteArray} (hl : l.length ≤ 1000000000) : XPure Tryz.prog 89 [.sl 1 (l.map eStr)] (.sl 1 (l.map eStr)) false :=
  XPure.shut call_CloneS rfl (fun env => c_CloneSB (by simpa using hl) (els_S l) env) fun env r ow env' h => h.shut (by decide) (els_S l) (by simp; omega)
end Go.Proofs.YtepdiooaoegpfaaGreatDoor.Fx
end
section
/- A file is put into a row. Conditions: those in each statement. -/
namespace Go.Proofs.YtepdiooaoegpfaaGreatDoor.Fx
open Go Go.Proofs Go.Ev Go.RowKit
set_option maxRecDepth 100000
set_option maxHeartbeats 1600000
set_option linter.unusedSimpArgs false
set_option linter.unusedVariables false
/-- What a file put into a row comes to: the row's own box, or a new one. -/
@[irreducible] def InsR (q n i : Nat) (B F : List AV) (env : List Bx) (r : AV) (ow : Bool) (env' : List Bx) : Prop :=
  ow = false ∧ ∃ B' c', pfL B' = true ∧ n + 1 ≤ c' ∧ c' ≤ 9223372036854775807 ∧ B'.length = c' * 3 ∧ B'.take ((n + 1) * 3) = B.take (i * 3) ++ F ++ (B.take (n * 3)).drop (i * 3) ∧
      ((r = .xs q 0 3 (n + 1) c' ∧ env' = env.set q (.cells B' [])) ∨ ∃ new j, r = .xs (env.length + j) 0 3 (n + 1) c' ∧ env' = env ++ new ∧ new[j]? = some (.cells B' []))
theorem InsR.set {q n i cp : Nat} {B F B' : List AV} {env : List Bx} (h1 : pfL B' = true) (h2 : n + 1 ≤ cp) (h3 : cp ≤ 9223372036854775807) (h4 : B'.length = cp * 3) (h5 : B'.take ((n + 1) * 3) = B.take (i * 3) ++ F ++ (B.take (n * 3)).drop (i * 3)) :
    InsR q n i B F env (.xs q 0 3 (n + 1) cp) false (env.set q (.cells B' []) ++ []) := by
  unfold InsR
  exact ⟨rfl, B', cp, h1, h2, h3, h4, h5, .inl ⟨rfl, by simp⟩⟩
theorem InsR.new {q n i cp j base : Nat} {B F B' : List AV} {env own : List Bx} (h1 : pfL B' = true) (h2 : n + 1 ≤ cp) (h3 : cp ≤ 9223372036854775807) (h4 : B'.length = cp * 3) (h5 : B'.take ((n + 1) * 3) = B.take (i * 3) ++ F ++ (B.take (n * 3)).drop (i * 3)) (h6 : own[j]? = some (.cells B' [])) :
    InsR q n i B F env (.xs (env.length + j) 0 3 (n + 1) cp) false (env ++ own.map (Bx.up base)) := by
  unfold InsR
  exact ⟨rfl, B', cp, h1, h2, h3, h4, h5, .inr ⟨_, j, rfl, rfl, by rw [List.getElem?_map, h6]; simp only [Option.map_some, Bx.up, upL_pf _ _ h1]⟩⟩
theorem wrL_len {α : Type} {l : List α} {off : Nat} {xs : List α} (h : off + xs.length ≤ l.length) : (wrL l off xs).length = l.length := by
  unfold wrL; simp only [List.length_append, List.length_take, List.length_drop]; omega
theorem pfL_drop {l : List AV} (k : Nat) (h : pfL l = true) : pfL (l.drop k) = true := by
  induction k generalizing l with
  | zero => exact h
  | succ k ih =>
    cases l with
    | nil => exact h
    | cons x l => simp only [pfL, Bool.and_eq_true] at h; exact ih h.2
theorem pfL_wrL {l xs : List AV} {off : Nat} (h1 : pfL l = true) (h2 : pfL xs = true) : pfL (wrL l off xs) = true := pfL_append (pfL_append (pfL_take _ h1) h2) (pfL_drop _ h1)
theorem s41 : Tryz.prog.types[41].size = 3 := rfl
theorem b41 : Tryz.prog.types[41].bytes = 40 := rfl
theorem co41 : Tryz.prog.cellsOf 41 = 3 := rfl
theorem zl41 : (cst (.agg #[.string { data := #[] }, .string { data := #[] }, .int .i64 0])).leaves.length = 3 := rfl
theorem wrL_len' {α : Type} {l : List α} {off : Nat} {xs : List α} : (wrL l off xs).length = min off l.length + xs.length + (l.length - (off + xs.length)) := by
  unfold wrL; simp only [List.length_append, List.length_take, List.length_drop]
theorem toNat_i1 (i : Nat) : ((i : Int) + ((1 : Nat) : Int)).toNat = i + 1 := rfl
theorem nmin (a b : Nat) : Nat.min a b = min a b := rfl
theorem toNat_i (i : Nat) : (i : Int).toNat = i := rfl
theorem zl42 : (cst (.agg #[.string .empty, .string .empty, .int .i64 0])).leaves.length = 3 := rfl
theorem dropEnd {B : List AV} {k : Nat} : (B.take k).drop k = [] := List.drop_eq_nil_of_le (by simp only [List.length_take]; omega)
theorem takeF {F : List AV} (hF : F.length = 3) : (F.drop 0).take (1 * 3) = F := by rw [List.drop_zero, List.take_of_length_le (by omega)]
theorem insTake0 {B F Z : List AV} {i : Nat} (hF : F.length = 3) (hB : i * 3 ≤ B.length) : (B.take (i * 3) ++ F ++ Z).take ((i + 1) * 3) = B.take (i * 3) ++ F ++ (B.take (i * 3)).drop (i * 3) := by
  rw [dropEnd, List.append_nil, List.take_left' (by simp only [List.length_append, List.length_take]; omega)]
theorem insTake1 {B F G Y : List AV} {n i : Nat} (hF : F.length = 3) (hG : G.take (i * 3) = B.take (i * 3)) (hGl : (n + 1) * 3 ≤ G.length) (hBl : n * 3 ≤ B.length) (hi : i < n) (hY : Y = (B.take (n * 3)).drop (i * 3)) :
    (wrL (wrL G (i * 3) F) ((i + 1) * 3) Y).take ((n + 1) * 3) = B.take (i * 3) ++ F ++ (B.take (n * 3)).drop (i * 3) := by
  have h1 : (wrL G (i * 3) F).take ((i + 1) * 3) = B.take (i * 3) ++ F := by
    unfold wrL
    rw [hG, List.take_left' (by simp only [List.length_append, List.length_take]; omega)]
  show (List.take _ (wrL G (i * 3) F) ++ Y ++ _).take _ = _
  rw [h1, List.take_left' (by rw [hY]; simp only [List.length_append, List.length_take, List.length_drop]; omega), hY]
theorem insTake2 {B F Y : List AV} {n i : Nat} (hF : F.length = 3) (hBl : (n + 1) * 3 ≤ B.length) (hi : i < n) (hY : Y = (B.take (n * 3)).drop (i * 3)) :
    (wrL (wrL B ((i + 1) * 3) Y) (i * 3) F).take ((n + 1) * 3) = B.take (i * 3) ++ F ++ (B.take (n * 3)).drop (i * 3) := by
  have hYl : Y.length = (n - i) * 3 := by rw [hY]; simp only [List.length_take, List.length_drop]; omega
  have h1 : (wrL B ((i + 1) * 3) Y).take (i * 3) = B.take (i * 3) := by
    unfold wrL
    rw [List.append_assoc, List.take_append_of_le_length (by simp only [List.length_take]; omega), List.take_take, Nat.min_eq_left (by omega)]
  have h2 : (wrL B ((i + 1) * 3) Y).drop (i * 3 + F.length) = Y ++ B.drop ((i + 1) * 3 + Y.length) := by
    unfold wrL
    rw [List.append_assoc, List.drop_left' (by simp only [List.length_take]; omega)]
  show (List.take _ (wrL B ((i + 1) * 3) Y) ++ F ++ List.drop _ (wrL B ((i + 1) * 3) Y)).take _ = _
  rw [h1, h2, ← List.append_assoc, List.take_left' (by simp only [List.length_append, List.length_take, hYl]; omega), hY]
theorem c_InsertB {q q2 n cp i : Nat} {B F : List AV} {env : List Bx} (h1 : env[q]? = some (.cells B [])) (h2 : env[q2]? = some (.cells F [])) (hF : F.length = 3) (hq : q ≠ q2) (hB : B.length = cp * 3) (pB : pfL B = true) (pF : pfL F = true) (hn : n ≤ cp) (hn9 : n ≤ 1000000000) (hc : cp ≤ 9223372036854775807) (hi : i ≤ n) :
    XCalls Tryz.prog 118 [.xs q 0 3 n cp, i64 i, .xs q2 0 3 1 1] env (InsR q n i B F env) := by
  refine XCalls.bodyB Tryz.func118 rfl (Nat.le_of_ble_eq_true (by rfl)) ?_
  iterate 40 any_goals try ((conv => whnf); (fail_if_success refine zC ?_); first | refine zS ?_ | refine zB (fun h hs => ?_) (fun h hs => ?_) <;> try exact hs.elim | (first | rw [h1] | rw [h2] | (refine ⟨.inr (by first | exact pfL_take _ pF), ?_⟩)) | exact zEs | refine zZs ?_ | (refine ⟨?_, ?_, ?_⟩; ((try dsimp only); first | omega | (simp only [List.length_append, List.length_take, List.length_drop]; omega) | exact .inr (pfL_take _ pF)); ((try dsimp only); first | omega | (simp only [List.length_append, List.length_take, List.length_drop]; omega) | exact .inr (pfL_take _ pF))) | (refine ⟨?_, ?_⟩; ((try dsimp only); first | omega | (simp only [List.length_append, List.length_take, List.length_drop]; omega) | exact .inr (pfL_take _ pF))) | fail)
  · conv => whnf
    refine ⟨by show 0 + 1 * 3 ≤ F.length; omega, by show (n + 1) * 40 ≤ _; omega, by show n + 1 ≤ _; omega, by show 0 + cp * 3 ≤ B.length; omega, .inr (pfL_take _ pF), fun hle => ?_, fun hgt c' k1 k2 => ?_⟩
    · repeat' ((conv => whnf); (fail_if_success refine zC ?_); first | refine zS ?_ | refine zB (fun h hs => ?_) (fun h hs => ?_) <;> try exact hs.elim | exact zE | refine zZ ?_ | fail)
      conv => whnf
      refine ⟨.inr rfl, List.length_set, ?_⟩
      conv => whnf
      obtain rfl : i = n := by omega
      exact InsR.set (B' := wrL B (0 + i * 3) ((F.drop 0).take (1 * 3))) (pfL_wrL pB (pfL_take _ (pfL_drop _ pF))) hle hc (by rw [wrL_len (by simp; omega)]; exact hB) (by rw [takeF hF, Nat.zero_add]; exact insTake0 hF (by omega))
    · repeat' ((conv => whnf); (fail_if_success refine zC ?_); first | refine zS ?_ | refine zB (fun h hs => ?_) (fun h hs => ?_) <;> try exact hs.elim | exact zE | refine zZ ?_ | fail)
      conv => whnf
      refine ⟨.inr rfl, rfl, ?_⟩
      conv => whnf
      obtain rfl : i = n := by omega
      exact InsR.new (j := 0) (B' := grownL ((B.drop 0).take (i * 3)) ((F.drop 0).take (1 * 3)) (c' - (i + 1)) (.agg #[.string .empty, .string .empty, .int .i64 0])) (pfL_append (pfL_append (pfL_take _ (pfL_drop _ pB)) (pfL_take _ (pfL_drop _ pF))) (pfL_rep rfl _)) k1 k2 (by simp only [grownL, List.length_append, List.length_take, List.length_drop, repLen, zl42, hF, hB]; omega) (by unfold grownL; rw [takeF hF, List.drop_zero]; exact insTake0 hF (by omega)) rfl
  · have w1 : IntKind.i64.wrap ((n : Int) + (1 : Nat)) = ((n + 1 : Nat) : Int) := by rw [wrapId (by omega) (by omega)]; omega
    have w2 : IntKind.i64.wrap (((n + 1 : Nat) : Int) - (i : Int)) = ((n + 1 - i : Nat) : Int) := by rw [wrapId (by omega) (by omega)]; omega
    have hgt : cp < n + 1 := by rw [w1] at hs; omega
    have hin : i < n := by omega
    have hb0 : Nat.beq cp 0 = false := by rw [← Bool.not_eq_true]; intro h; have := Nat.eq_of_beq_eq_true h; omega
    conv => whnf
    have e1 : (i : Int).toNat - 0 + ((n + 1 - i : Nat) : Int).toNat = n + 1 := by omega
    rw [w1, w2, hb0, e1]
    refine ⟨by show (0 : Int) < ((n + 1 - i : Nat) : Int); omega, by show (n + 1) * 40 ≤ _; omega, by show n + 1 ≤ _; omega, by show (0 + 0 * 3) + (cp - 0) * 3 ≤ _; omega, by show cp - 0 < n + 1; omega, fun c' k1 k2 => ?_⟩
    have hbj : Nat.beq c' (i + 1) = false := by rw [← Bool.not_eq_true]; intro h; have := Nat.eq_of_beq_eq_true h; omega
    have hbp : Nat.beq cp i = false := by rw [← Bool.not_eq_true]; intro h; have := Nat.eq_of_beq_eq_true h; omega
    have hbi : Nat.beq c' i = false := by rw [← Bool.not_eq_true]; intro h; have := Nat.eq_of_beq_eq_true h; omega
    repeat' ((conv => whnf); (fail_if_success refine zC ?_); first | refine zS ?_ | refine zB (fun h hs => ?_) (fun h hs => ?_) <;> try exact hs.elim | refine XW.dr (m := 8) ?_ | (first | rw [h2] | rw [h1] | (refine ⟨.inl rfl, ?_⟩)) | exact zEs | refine zZs ?_ | (refine ⟨?_, ?_, ?_⟩; ((try simp only [s41, co41, b41, zl41, hb0, Nat.sub_zero, grownL, repLen, toNat_i, toNat_i1, nmin, hbj, hbp, cond_false, hbi, wrL_len', hF, hB, List.length_append, List.length_take, List.length_drop]); omega); ((try simp only [s41, co41, b41, zl41, hb0, Nat.sub_zero, grownL, repLen, toNat_i, toNat_i1, nmin, hbj, hbp, cond_false, hbi, wrL_len', hF, hB, List.length_append, List.length_take, List.length_drop]); omega)) | (refine ⟨?_, ?_⟩; ((try simp only [s41, co41, b41, zl41, hb0, Nat.sub_zero, grownL, repLen, toNat_i, toNat_i1, nmin, hbj, hbp, cond_false, hbi, wrL_len', hF, hB, List.length_append, List.length_take, List.length_drop]); omega)) | fail)
    conv => whnf
    refine ⟨.inr rfl, rfl, ?_⟩
    conv => whnf
    refine InsR.new (j := 0) ?_ k1 k2 ?_ ?_ rfl
    all_goals simp only [s41, co41, hbj, hbp, hbi, toNat_i, toNat_i1, cond_false, Nat.sub_zero, Nat.zero_add, Nat.zero_mul, List.drop_zero, nmin]
    · repeat' (first | assumption | apply pfL_wrL | apply pfL_append | apply pfL_take | apply pfL_drop | exact pfL_rep rfl _)
    · simp only [wrL_len', grownL, List.length_append, List.length_take, List.length_drop, repLen, zl41, hF, hB]; omega
    · rw [show List.take (min 1 (n + 1 - i) * 3) (List.take (1 * 3) F) = F from by rw [List.take_of_length_le (by simp only [List.length_take]; omega), List.take_of_length_le (by omega)]]
      refine insTake1 (B := B) hF ?_ ?_ (by omega) hin ?_
      · unfold grownL
        rw [List.append_assoc, List.take_append_of_le_length (by simp only [List.length_take]; omega), List.take_take, Nat.min_self]
      · simp only [grownL, List.length_append, List.length_take, repLen, zl41]; omega
      · rw [List.take_take, List.drop_take]; congr 1; omega
  · have w1 : IntKind.i64.wrap ((n : Int) + (1 : Nat)) = ((n + 1 : Nat) : Int) := by rw [wrapId (by omega) (by omega)]; omega
    have hgt : n + 1 ≤ cp := by rw [w1] at hs; omega
    have hin : i < n := by omega
    have hbj : Nat.beq cp (i + 1) = false := by rw [← Bool.not_eq_true]; intro h; have := Nat.eq_of_beq_eq_true h; omega
    have hbp := hbj
    have hbi : Nat.beq cp i = false := by rw [← Bool.not_eq_true]; intro h; have := Nat.eq_of_beq_eq_true h; omega
    have hb0 : Nat.beq cp 0 = false := by rw [← Bool.not_eq_true]; intro h; have := Nat.eq_of_beq_eq_true h; omega
    repeat' ((conv => whnf); (fail_if_success refine zC ?_); first | refine zS ?_ | refine zB (fun h hs => ?_) (fun h hs => ?_) <;> try exact hs.elim | refine XW.dr (m := 8) ?_ | (first | (refine ⟨_, ExtAt.overlaps (qx := q2) (qy := q) rfl rfl rfl rfl rfl rfl rfl rfl rfl (Ne.symm hq) (by simpa using h2) (by simpa using h1) (by intro e; rw [e] at hB; simp at hB; omega), ?_⟩) | rw [h2] | rw [h1] | rw [List.getElem?_set_self (List.getElem?_eq_some_iff.1 h1).1] | rw [List.getElem?_set_ne hq] | rw [w1] | (refine ⟨.inr (pfL_take _ (pfL_drop _ pB)), ?_⟩) | (refine ⟨.inr (pfL_take _ (pfL_drop _ pF)), ?_⟩)) | exact zEs | refine zZs ?_ | (refine ⟨?_, ?_, ?_⟩; ((try simp only [s41, co41, b41, zl41, hb0, Nat.sub_zero, grownL, repLen, toNat_i, toNat_i1, nmin, hbj, hbp, cond_false, hbi, wrL_len', hF, hB, List.length_append, List.length_take, List.length_drop]); omega); ((try simp only [s41, co41, b41, zl41, hb0, Nat.sub_zero, grownL, repLen, toNat_i, toNat_i1, nmin, hbj, hbp, cond_false, hbi, wrL_len', hF, hB, List.length_append, List.length_take, List.length_drop]); omega)) | (refine ⟨?_, ?_⟩; ((try simp only [s41, co41, b41, zl41, hb0, Nat.sub_zero, grownL, repLen, toNat_i, toNat_i1, nmin, hbj, hbp, cond_false, hbi, wrL_len', hF, hB, List.length_append, List.length_take, List.length_drop]); omega)) | fail)
    conv => whnf
    refine ⟨.inr rfl, by simp only [List.length_set], ?_⟩
    conv => whnf
    rw [hb0, List.set_set]
    refine InsR.set (B' := wrL (wrL B _ _) _ _) ?_ hgt hc ?_ ?_
    all_goals simp only [s41, co41, hb0, hbj, hbp, hbi, toNat_i, toNat_i1, cond_false, Nat.sub_zero, Nat.zero_add, List.drop_zero, nmin, Nat.zero_mul]
    · repeat' (first | assumption | apply pfL_wrL | apply pfL_append | apply pfL_take | apply pfL_drop)
    · simp only [wrL_len', List.length_append, List.length_take, List.length_drop, hF, hB]; omega
    · rw [show List.take (min 1 (n + 1 - i) * 3) (List.take (1 * 3) F) = F from by rw [List.take_of_length_le (by simp only [List.length_take]; omega), List.take_of_length_le (by omega)]]
      refine insTake2 hF (by omega) hin ?_
      rw [List.take_take, List.drop_take]; congr 1; omega
end Go.Proofs.YtepdiooaoegpfaaGreatDoor.Fx
end
