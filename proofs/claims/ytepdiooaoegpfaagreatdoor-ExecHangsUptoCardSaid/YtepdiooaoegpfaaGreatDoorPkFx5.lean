/- Written by programs of this session: laws and contracts that the law's proof stands on, merged into one text. Conditions: none beyond those in each statement. -/
import Derived.Test.YtepdiooaoegpfaaGreatDoorPkFx4
import Derived.Test.YtepdiooaoegpfaaGreatDoorPkFx2
import Derived.Test.YtepdiooaoegpfaaGreatDoorPkFx1
import Derived.Test.YtepdiooaoegpfaaGreatDoorPkFx3
section
/- Words, and lines, as commands: the program and the document answer the same. Conditions: those in each statement. -/
namespace Go.Proofs.YtepdiooaoegpfaaGreatDoor.Fx
open Go Go.Proofs Go.Ev Go.RowKit Go.Proofs.YtepdiooaoegpfaaGreatDoor.Sup
set_option maxRecDepth 100000
set_option maxHeartbeats 1600000
set_option linter.unusedSimpArgs false
set_option linter.unusedVariables false
abbrev SzW (ws : List ByteArray) : Prop := ∀ i, i < ws.length → (ws.getD i .empty).size ≤ 140737488355328
theorem len2 {l : List ByteArray} (h : (l.length : Int) = 2) : ∃ a b, l = [a, b] := by
  match l, h with
  | [a, b], _ => exact ⟨a, b, rfl⟩
theorem len1 {l : List ByteArray} (h : (l.length : Int) = 1) : ∃ a, l = [a] := by
  match l, h with
  | [a], _ => exact ⟨a, rfl⟩
theorem lenS {l : List ByteArray} (h : 1 ≤ (l.length : Int)) : ∃ a r, l = a :: r := by
  match l, h with
  | a :: r, _ => exact ⟨a, r, rfl⟩
/-- What operands may stand behind an operation. -/
theorem shapes {w : ByteArray} {l : List ByteArray} (hm : manyOk (opFrom w 1 8) l.length = true) : (∃ a b, opFrom w 1 8 = 1 ∧ l = [a, b]) ∨ (∃ d src, opFrom w 1 8 = 2 ∧ l = d :: src ∧ 1 ≤ src.length ∧ src.length ≤ 64) ∨ (∃ d ws, opFrom w 1 8 = 3 ∧ l = d :: ws ∧ ws.length ≤ 512) ∨ (∃ d, opFrom w 1 8 = 4 ∧ l = [d]) ∨ (∃ d, opFrom w 1 8 = 5 ∧ l = [d]) ∨ (∃ s, opFrom w 1 8 = 6 ∧ l = [s]) ∨ (opFrom w 1 8 = 7 ∧ l = []) ∨ (∃ s, opFrom w 1 8 = 7 ∧ l = [s]) ∨ (opFrom w 1 8 = 8 ∧ l.length ≤ 512) := by
  rcases opFrom_cases w with h | h | h | h | h | h | h | h | h <;> rw [h] at hm ⊢ <;> simp [manyOk] at hm
  · obtain ⟨a, b, rfl⟩ := len2 (l := l) (by omega)
    exact .inl ⟨a, b, rfl, rfl⟩
  · obtain ⟨a, r, rfl⟩ := lenS (l := l) (by omega)
    simp only [List.length_cons] at hm
    exact .inr (.inl ⟨a, r, rfl, rfl, by omega, by omega⟩)
  · obtain ⟨a, r, rfl⟩ := lenS (l := l) (by omega)
    simp only [List.length_cons] at hm
    exact .inr (.inr (.inl ⟨a, r, rfl, rfl, by omega⟩))
  · obtain ⟨a, rfl⟩ := len1 (l := l) (by omega)
    exact .inr (.inr (.inr (.inl ⟨a, rfl, rfl⟩)))
  · obtain ⟨a, rfl⟩ := len1 (l := l) (by omega)
    exact .inr (.inr (.inr (.inr (.inl ⟨a, rfl, rfl⟩))))
  · obtain ⟨a, rfl⟩ := len1 (l := l) (by omega)
    exact .inr (.inr (.inr (.inr (.inr (.inl ⟨a, rfl, rfl⟩)))))
  · match l, hm with
    | [], _ => exact .inr (.inr (.inr (.inr (.inr (.inr (.inl ⟨rfl, rfl⟩))))))
    | [s], _ => exact .inr (.inr (.inr (.inr (.inr (.inr (.inr (.inl ⟨s, rfl, rfl⟩)))))))
    | _ :: _ :: _, h => simp only [List.length_cons] at h; omega
  · exact .inr (.inr (.inr (.inr (.inr (.inr (.inr (.inr ⟨rfl, by omega⟩)))))))
theorem SzW.tail {w : ByteArray} {l : List ByteArray} (h : SzW (w :: l)) : SzW l := fun i hi => h (i + 1) (by simpa using hi)
theorem SzW.head {w : ByteArray} {l : List ByteArray} (h : SzW (w :: l)) : w.size ≤ 140737488355328 := h 0 (by simp)
theorem c_cmd_Parse {ws : List ByteArray} (hz : SzW ws) : XPure Tryz.prog 67 [eS ws] (.tup [(parseC ws).av, i64 (parseE ws)]) false := by
  by_cases hl : 514 < ws.length
  · exact cP_long hl
  cases ws with
  | nil => exact cP_nil
  | cons w l =>
    simp only [List.length_cons] at hl
    have hz' := hz.tail
    cases hm : manyOk (opFrom w 1 8) l.length with
    | false => exact cP_bad (by omega) rfl hm
    | true =>
      rcases shapes hm with ⟨a, b, ho, rfl⟩ | ⟨d, src, ho, rfl, h1, h2⟩ | ⟨d, ws, ho, rfl, h2⟩ | ⟨d, ho, rfl⟩ | ⟨d, ho, rfl⟩ | ⟨s, ho, rfl⟩ | ⟨ho, rfl⟩ | ⟨s, ho, rfl⟩ | ⟨ho, h2⟩
      · exact cP_1 ho hz'.head hz'.tail.head
      · exact cP_2 ho h1 h2 hz'.head hz'.tail
      · exact cP_3 ho h2 hz'.head
      · exact cP_4 ho hz'.head
      · exact cP_5 ho hz'.head
      · exact cP_6 ho hz'.head
      · exact cP_7a ho
      · exact cP_7b ho hz'.head
      · exact cP_8 ho h2
theorem lexq_len : ∀ (l acc : List UInt8) (p : Nat) (w : List UInt8) (q : Nat), lexq l acc p = some (w, q) → w.length ≤ acc.length + l.length
  | [], _, _, _, _, h => by simp [lexq] at h
  | [c], acc, p, w, q, h => by
    rw [lexq_cons] at h
    split at h
    · cases h; simp
    · split at h
      · cases h
      · split at h
        · cases h
        · simp [lexq] at h
  | c :: d :: t, acc, p, w, q, h => by
    rw [lexq_cons] at h
    simp only at h
    split at h
    · cases h; simp
    · split at h
      · cases h
      · split at h
        · split at h
          · have := lexq_len _ _ _ _ _ h; simp only [List.length_cons, List.length_append, List.length_nil] at this ⊢; omega
          · split at h
            · have := lexq_len _ _ _ _ _ h; simp only [List.length_cons, List.length_append, List.length_nil] at this ⊢; omega
            · split at h
              · have := lexq_len _ _ _ _ _ h; simp only [List.length_cons, List.length_append, List.length_nil] at this ⊢; omega
              · cases h
        · have := lexq_len _ _ _ _ _ h; simp only [List.length_cons, List.length_append, List.length_nil] at this ⊢; omega
theorem wordsF_small : ∀ (k : Nat) (s : ByteArray) (i : Nat) (out r : List ByteArray), (∀ x ∈ out, x.size ≤ s.size) → wordsF k s i out = some r → ∀ x ∈ r, x.size ≤ s.size
  | 0, s, i, out, r, h, e => by simp only [wordsF, Option.some.injEq] at e; subst e; exact h
  | k + 1, s, i, out, r, h, e => by
    have app : ∀ y : ByteArray, y.size ≤ s.size → ∀ x ∈ out ++ [y], x.size ≤ s.size := fun y hy x hx => by
      rcases List.mem_append.1 hx with hx | hx
      · exact h x hx
      · rw [List.mem_singleton.1 hx]; exact hy
    rw [wordsF] at e
    split at e
    · split at e
      · exact wordsF_small k s _ out r h e
      · split at e
        · split at e
          · cases e
          · rename_i w q hq
            split at e
            · cases e
            · refine wordsF_small k s _ _ r (app _ ?_) e
              have := lexq_len _ _ _ _ _ hq
              rw [List.length_drop, len_data] at this
              show w.length ≤ s.size
              simp only [List.length_nil] at this
              omega
        · obtain ⟨n, hn⟩ : ∃ n, (if Lib.indexAny (s.extract i s.size).data.toList [32, 9] < 0 then s.size - i else (Lib.indexAny (s.extract i s.size).data.toList [32, 9]).toNat) = n := ⟨_, rfl⟩
          simp only [hn] at e
          split at e
          · cases e
          · refine wordsF_small k s _ _ r (app _ ?_) e
            rw [ByteArray.size_extract]; omega
    · simp only [Option.some.injEq] at e; subst e; exact h
theorem wordsV_small {t : ByteArray} : SzW (wordsV t) := by
  intro i hi
  rw [List.getD_eq_getElem?_getD, List.getElem?_eq_getElem hi]
  have hm : (wordsV t)[i] ∈ wordsV t := List.getElem_mem hi
  revert hm
  generalize (wordsV t)[i] = x
  intro hm
  show x.size ≤ _
  unfold wordsV at hm
  split at hm
  · cases hm
  · cases hL : wordsL t with
    | none => rw [hL] at hm; cases hm
    | some r =>
      rw [hL] at hm
      have := wordsF_small _ _ _ _ _ (by intro x hx; cases hx) hL x hm
      omega
/-- What a line says as a command. -/
@[irreducible] def lineE (t : ByteArray) : Int := if wordsE t = 0 then parseE (wordsV t) else wordsE t
@[irreducible] def lineC (t : ByteArray) : Cm := if wordsE t = 0 then parseC (wordsV t) else Cm.zero
theorem line_good {t : ByteArray} (h : wordsE t = 0) : lineE t = parseE (wordsV t) ∧ lineC t = parseC (wordsV t) := by
  unfold lineE lineC; exact ⟨if_pos h, if_pos h⟩
theorem line_bad {t : ByteArray} {e : Int} (h : wordsE t = e) (he : e ≠ 0) : LeqD (.tup [.agg [i64 0, str ⟨#[]⟩, nilv, nilv, i64 0], i64 e]) (.tup [(lineC t).av, i64 (lineE t)]) := by
  have h1 : lineE t = e := by unfold lineE; rw [if_neg (by rw [h]; exact he), h]
  have h2 : lineC t = Cm.zero := by unfold lineC; rw [if_neg (by rw [h]; exact he)]
  rw [h1, h2]
  repeat' (first | exact LeqD.nil (by decide) | exact LeqD.refl _ | exact LeqDL.refl _ | refine LeqDL.cons ?_ ?_ | refine LeqD.agg ?_ | refine LeqD.tup ?_)
theorem line_ok {t : ByteArray} (h : wordsE t = 0) : LeqD (.tup [(parseC (wordsV t)).av, i64 (parseE (wordsV t))]) (.tup [(lineC t).av, i64 (lineE t)]) := by
  obtain ⟨h1, h2⟩ := line_good h
  rw [h1, h2]; exact LeqD.refl _
theorem c_cmd_Line {t : ByteArray} : XPure Tryz.prog 44 [str t] (.tup [(lineC t).av, i64 (lineE t)]) false := by
  refine XPure.bodyN ⟨_, Tryz.func44, rfl, by kernel_rfl⟩ Tryz.func44 rfl (Nat.le_of_ble_eq_true (by rfl)) (pf_of1 rfl) fun env => ?_
  repeat' ((conv => whnf); (fail_if_success refine zC ?_); first | refine zS ?_ | refine zB (fun h hs => ?_) (fun h hs => ?_) <;> try exact hs.elim | refine .inl ⟨_, _, c_lex_Words, ?_⟩ | refine .inl ⟨_, _, c_cmd_Parse wordsV_small, ?_⟩ | exact zElw | refine zZlw ?_ | fail)
  · exact line_bad rfl hs
  · exact line_ok hs
end Go.Proofs.YtepdiooaoegpfaaGreatDoor.Fx
end
section
/- Right commands of every kind: what the program tells of them. Conditions: those in each statement. -/
namespace Go.Proofs.YtepdiooaoegpfaaGreatDoor.Fx
open Go Go.Proofs Go.Ev Go.RowKit
set_option maxRecDepth 100000
set_option maxHeartbeats 1600000
set_option linter.unusedSimpArgs false
set_option linter.unusedVariables false
theorem all1 {d : ByteArray} (h : isName d = true) : [d].all isName = true := by simp [h]
theorem all2 {a b : ByteArray} (ha : isName a = true) (hb : isName b = true) : [a, b].all isName = true := by simp [ha, hb]
theorem e0 {x : Bool} (h : x = true) : errIf x 3 = 0 := by rw [h]; rfl
/-- The value that bears a right command. -/
def ifcOf (c : Cm) : AV :=
  if c.op = 1 then .ifc 155 (.agg [str (c.src.getD 0 .empty), str c.dst])
  else if c.op = 2 then .ifc 157 (.agg [str c.dst, eS c.src])
  else if c.op = 3 then .ifc 159 (.agg [str c.dst, eS c.words])
  else if c.op = 4 then .ifc 161 (.agg [str c.dst])
  else if c.op = 5 then .ifc 162 (.agg [str c.dst])
  else if c.op = 6 then .ifc 164 (.agg [str (c.src.getD 0 .empty)])
  else if c.op = 7 then .ifc 166 (.agg [i64 c.st])
  else .ifc 168 (.agg [eS c.words])
theorem r_copy {a b : ByteArray} (ha : isName a = true) (hb : isName b = true) : XPure Tryz.prog 171 [.agg [str a, str b]] (i64 0) false := by have h := c_copying_right (name_size ha) (name_size hb); rwa [e0 (all2 hb ha)] at h
theorem r_concat {d : ByteArray} {l : List ByteArray} (hd : isName d = true) (h1 : 1 ≤ l.length) (h2 : l.length ≤ 64) (hl : l.all isName = true) : XPure Tryz.prog 176 [.agg [str d, eS l]] (i64 0) false := c_joining_right hd h1 h2 hl
theorem r_echo {d : ByteArray} {w : List ByteArray} (hd : isName d = true) (hw : w.length ≤ 512) : XPure Tryz.prog 183 [.agg [str d, eS w]] (i64 0) false := c_echoing_right hd hw
theorem r_touch {d : ByteArray} (hd : isName d = true) : XPure Tryz.prog 190 [.agg [str d]] (i64 0) false := by have h := c_touching_right (name_size hd); rwa [e0 (all1 hd)] at h
theorem r_remove {d : ByteArray} (hd : isName d = true) : XPure Tryz.prog 195 [.agg [str d]] (i64 0) false := by have h := c_removing_right (name_size hd); rwa [e0 (all1 hd)] at h
theorem r_test {s : ByteArray} (hn : isName s = true) : XPure Tryz.prog 200 [.agg [str s]] (i64 0) false := by have h := c_testing_right (name_size hn); rwa [e0 (all1 hn)] at h
theorem r_fail {n : Int} (h1 : 1 ≤ n) (h2 : n ≤ 255) : XPure Tryz.prog 205 [.agg [i64 n]] (i64 0) false := by have h := c_failing_right (n := n); rwa [if_neg (by omega)] at h
theorem r_say {w : List ByteArray} (hw : w.length ≤ 512) : XPure Tryz.prog 210 [.agg [eS w]] (i64 0) false := by have h := c_saying_right (l := w); rwa [if_neg (by omega)] at h
theorem c_of {c : Cm} (h : Kind c) : XPure Tryz.prog 76 [c.av] (.tup [ifcOf c, i64 0]) false := by
  cases h
  case' concat => rename_i d l hd h1 h2 hl; obtain ⟨x, r, rfl⟩ := lenS (l := l) (by omega)
  case' echo => rename_i d w hd hw
  case' say => rename_i w hw
  all_goals dsimp only [Cm.av]
  all_goals
    refine XPure.body ⟨_, Tryz.func76, rfl, by kernel_rfl⟩ Tryz.func76 rfl (Nat.le_of_ble_eq_true (by rfl)) (pf_of1 rfl) fun env => ?_
    repeat' ((conv => whnf); (fail_if_success refine zC ?_); first | refine zSm ?_ | refine zB (fun h hs => ?_) (fun h hs => ?_) <;> try exact hs.elim | refine .inl ⟨_, _, c_CloneN (l := x :: r) (by omega) okL, ?_⟩ | refine .inl ⟨_, _, c_CloneN (l := w) (by omega) okL, ?_⟩ | exact zE | refine zZ ?_ | fail)
theorem c_told {c : Cm} (h : Kind c) : XPure Tryz.prog 54 [c.av] (.tup [ifcOf c, i64 0]) false := by
  have hO := c_of h
  cases h
  all_goals dsimp only [Cm.av]
  all_goals
    refine XPure.body ⟨_, Tryz.func54, rfl, by kernel_rfl⟩ Tryz.func54 rfl (Nat.le_of_ble_eq_true (by rfl)) (pf_of1 rfl) fun env => ?_
    repeat' ((conv => whnf); (fail_if_success refine zC ?_); first | refine zSd ?_ | refine zB (fun h hs => ?_) (fun h hs => ?_) <;> try exact hs.elim | refine .inl ⟨_, _, hO, ?_⟩ | refine .inl ⟨_, _, r_copy (by assumption) (by assumption), ?_⟩ | refine .inl ⟨_, _, r_concat (by assumption) (by assumption) (by assumption) (by assumption), ?_⟩ | refine .inl ⟨_, _, r_echo (by assumption) (by assumption), ?_⟩ | refine .inl ⟨_, _, r_touch (by assumption), ?_⟩ | refine .inl ⟨_, _, r_remove (by assumption), ?_⟩ | refine .inl ⟨_, _, r_test (by assumption), ?_⟩ | refine .inl ⟨_, _, r_fail (by assumption) (by assumption), ?_⟩ | refine .inl ⟨_, _, r_say (by assumption), ?_⟩ | exact zE | refine zZ ?_ | fail)
/-- The files that a right command reads, without doubles. -/
def readsOf (c : Cm) : List ByteArray := if c.op = 2 then uniqGo [] c.src else c.src
def wrOf (c : Cm) : Bool := decide (1 ≤ c.op) && decide (c.op ≤ 5)
theorem c_Reads {c : Cm} (h : Kind c) : XPure Tryz.prog 45 [c.av] (.tup [eS (readsOf c), i64 0]) false := by
  have hO := c_told h
  cases h
  all_goals dsimp only [Cm.av]
  all_goals
    refine XPure.body ⟨_, Tryz.func45, rfl, by kernel_rfl⟩ Tryz.func45 rfl (Nat.le_of_ble_eq_true (by rfl)) (pf_of1 rfl) fun env => ?_
    repeat' ((conv => whnf); (fail_if_success refine zC ?_); first | refine zSd ?_ | refine zB (fun h hs => ?_) (fun h hs => ?_) <;> try exact hs.elim | refine .inl ⟨_, _, hO, ?_⟩ | refine .inl ⟨_, _, c_copying_reads, ?_⟩ | refine .inl ⟨_, _, c_joining_reads (by first | omega | (dsimp only; omega)), ?_⟩ | refine .inl ⟨_, _, c_echoing_reads, ?_⟩ | refine .inl ⟨_, _, c_touching_reads, ?_⟩ | refine .inl ⟨_, _, c_removing_reads, ?_⟩ | refine .inl ⟨_, _, c_testing_reads, ?_⟩ | refine .inl ⟨_, _, c_failing_reads, ?_⟩ | refine .inl ⟨_, _, c_saying_reads, ?_⟩ | exact zE | refine zZ ?_ | fail)
theorem c_Writes {c : Cm} (h : Kind c) : XPure Tryz.prog 31 [c.av] (.tup [str c.dst, bln (wrOf c), i64 0]) false := by
  have hO := c_told h
  cases h
  all_goals dsimp only [Cm.av]
  all_goals
    refine XPure.body ⟨_, Tryz.func31, rfl, by kernel_rfl⟩ Tryz.func31 rfl (Nat.le_of_ble_eq_true (by rfl)) (pf_of1 rfl) fun env => ?_
    repeat' ((conv => whnf); (fail_if_success refine zC ?_); first | refine zSd ?_ | refine zB (fun h hs => ?_) (fun h hs => ?_) <;> try exact hs.elim | refine .inl ⟨_, _, hO, ?_⟩ | refine .inl ⟨_, _, c_copying_writes, ?_⟩ | refine .inl ⟨_, _, c_joining_writes, ?_⟩ | refine .inl ⟨_, _, c_echoing_writes, ?_⟩ | refine .inl ⟨_, _, c_touching_writes, ?_⟩ | refine .inl ⟨_, _, c_removing_writes, ?_⟩ | refine .inl ⟨_, _, c_testing_writes, ?_⟩ | refine .inl ⟨_, _, c_failing_writes, ?_⟩ | refine .inl ⟨_, _, c_saying_writes, ?_⟩ | exact zE | refine zZ ?_ | fail)
theorem told_echo {d : ByteArray} {w : List ByteArray} (hd : isName d = true) (hw : w.length ≤ 512) : XPure Tryz.prog 54 [eC 3 d [] w 0] (.tup [.ifc 159 (.agg [str d, eS w]), i64 0]) false := c_told (.echo hd hw)
end Go.Proofs.YtepdiooaoegpfaaGreatDoor.Fx
end
section
/- Names, nodes and plans. Conditions: those in each statement. -/
namespace Go.Proofs.YtepdiooaoegpfaaGreatDoor.Fx
open Go Go.Proofs Go.Ev Go.RowKit
set_option maxRecDepth 100000
set_option maxHeartbeats 1600000
set_option linter.unusedSimpArgs false
set_option linter.unusedVariables false
theorem c_ref12_Node {n : Node} (hz : SzN n) : XPure Tryz.prog 17 [eN n] (i64 (errIf (nodeOk n) 7)) false := by
  have hn1 := hz.needs.1
  have hn2 := hz.recipe.1
  refine XPure.body ⟨_, Tryz.func17, rfl, by kernel_rfl⟩ Tryz.func17 rfl (Nat.le_of_ble_eq_true (by rfl)) (pf_of1 rfl) fun env => ?_
  repeat' ((conv => whnf); (fail_if_success refine zC ?_); first | refine zS ?_ | refine zB (fun h hs => ?_) (fun h hs => ?_) <;> try exact hs.elim | refine .inl ⟨_, _, c_ref02_Name hz.target, ?_⟩ | exact zE | refine zZ ?_ | fail)
  all_goals try (have e : nodeOk n = false := by rw [← Bool.not_eq_true]; simp only [nodeOk, Bool.and_eq_true, nodeIn_iff]; simp only [cs, reduceCtorEq, Int.reduceEq, Int.reduceNe, Int.reduceLT, Int.reduceLE, Int.reduceBEq, Int.reduceBNe] at *; grind)
  all_goals try (rw [e]; rfl)
  all_goals have hF : isName n.target = true ∧ n.needs.length ≤ 65 ∧ n.recipe.length ≤ 64 ∧ (n.has = true ∨ n.recipe.length = 0) := by simp only [cs, reduceCtorEq, Int.reduceEq, Int.reduceNe, Int.reduceLT, Int.reduceLE, Int.reduceBEq, Int.reduceBNe] at *; grind
  all_goals clear h hs
  all_goals refine XW.countL n.needs.length [1] (fun i => [(3, i64 i)]) (fun _ => []) (fun _ => [.cells (eN n).leaves []]) (fun i => needsOk (fun x => !beqS x n.target) [] n.needs = needsOk (fun x => !beqS x n.target) (n.needs.take i) (n.needs.drop i)) Weak.go rfl ?_
  all_goals
    intro i hi hA
    refine codeS ?_
    repeat' ((conv => whnf); (fail_if_success refine zC ?_); first | refine zS ?_ | refine zB (fun h hs => ?_) (fun h hs => ?_) <;> try exact hs.elim | refine .inl ⟨_, _, c_ref02_Name (hz.needs.at (by omega)), ?_⟩ | refine .inl ⟨_, _, c_ref03_HasT hn1, ?_⟩ | refine XW.dr (m := 29) ?_ | refine XW.dr (m := 34) ?_ | refine ⟨_, _, c_ref02_Name (hz.needs.at (by omega)), ?_⟩ | refine ⟨_, _, c_ref03_HasT hn1, ?_⟩ | exact zE | refine zZ ?_ | rw [getD_mapI (ByteArray.empty) (by omega)] | rw [getD_map (ByteArray.empty) (by omega)] | fail)
    all_goals try (have hi' : i < n.needs.length := by assumption)
    all_goals try simp only [cs, reduceCtorEq, Int.reduceEq, Int.reduceNe, Int.reduceLT, Int.reduceLE, Int.reduceBEq, Int.reduceBNe] at hs
    all_goals try (have e : nodeOk n = false := by unfold nodeOk; rw [hA, needsOk_no hi' (by simp only [cs, reduceCtorEq, Int.reduceEq, Int.reduceNe, Int.reduceLT, Int.reduceLE, Int.reduceBEq, Int.reduceBNe] at *; grind), Bool.and_false])
    all_goals try (rw [e]; rfl)
    all_goals try exact hA.trans (needsOk_yes hi' (by grind) (by grind) (by simp only [cs, reduceCtorEq, Int.reduceEq, Int.reduceNe, Int.reduceLT, Int.reduceLE, Int.reduceBEq, Int.reduceBNe]; grind))
    have hN : needsOk (fun x => !beqS x n.target) [] n.needs = true := by rw [hA, needsOk_end hs]
    refine XW.countL n.recipe.length [1] (fun i => [(4, i64 i)]) (fun _ => []) (fun _ => [.cells (eN n).leaves []]) (fun i => (n.recipe.any fun s => decide ((s.size : Int) > 65536)) = (n.recipe.drop i).any fun s => decide ((s.size : Int) > 65536)) Weak.go rfl ?_
    intro k hk hB
    refine codeS ?_
    repeat' ((conv => whnf); (fail_if_success refine zC ?_); first | refine zS ?_ | refine zB (fun h hs => ?_) (fun h hs => ?_) <;> try exact hs.elim | refine XW.dr (m := 34) ?_ | exact zE | refine zZ ?_ | rw [getD_mapI (ByteArray.empty) (by omega)] | rw [getD_map (ByteArray.empty) (by omega)] | fail)
    all_goals try exact hB.trans (any_no .empty (by assumption) h)
    all_goals try (have e : nodeOk n = false := by rw [← Bool.not_eq_true]; simp only [nodeOk, Bool.and_eq_true, nodeIn_iff]; rw [hB, any_yes .empty (by assumption) h]; simp)
    all_goals try (rw [e]; rfl)
    all_goals have hR : (n.recipe.any fun s => decide ((s.size : Int) > 65536)) = false := by rw [hB, any_end (by assumption)]
    all_goals have hE0 : ByteArray.empty.size = 0 := rfl
    all_goals simp only [cs, reduceCtorEq, Int.reduceEq, Int.reduceNe, Int.reduceLT, Int.reduceLE, Int.reduceBEq, Int.reduceBNe] at *
    all_goals try (have e : nodeOk n = false := by rw [← Bool.not_eq_true]; simp only [nodeOk, Bool.and_eq_true, nodeIn_iff]; grind)
    all_goals try (rw [e]; rfl)
    all_goals try (have e : nodeOk n = true := by simp only [nodeOk, Bool.and_eq_true, nodeIn_iff]; grind)
    all_goals try (rw [e]; rfl)
end Go.Proofs.YtepdiooaoegpfaaGreatDoor.Fx
end
section
/- A target by itself. Conditions: those in each statement. -/
namespace Go.Proofs.YtepdiooaoegpfaaGreatDoor.Fx
open Go Go.Proofs Go.Ev Go.RowKit
set_option maxRecDepth 100000
set_option maxHeartbeats 1600000
set_option linter.unusedSimpArgs false
set_option linter.unusedVariables false
/-- A node of which the target alone is said. -/
abbrev sN (x : ByteArray) : AV := .agg [str x, nilv, nilv, bln false, str .empty, str .empty, bln false, bln false, bln false, bln false]
def bare (x : ByteArray) : Node := { (default : Node) with target := x, needs := [], recipe := [], has := false, source := .empty, stem := .empty, phony := false, precious := false, ignore := false, silent := false }
theorem sN_bare (x : ByteArray) : LeqD (sN x) (eN (bare x)) := by
  repeat' (first | exact LeqD.refl _ | exact LeqDL.refl _ | exact LeqD.nil (by decide) | refine LeqDL.cons ?_ ?_ | refine LeqD.agg ?_)
def aloneOk (n : Node) : Bool := planOk (n.needs.map bare ++ [n]) [n.target]
theorem c_alone {n : Node} (hz : SzN n) : XPure Tryz.prog 25 [eN n] (i64 (errIf (aloneOk n) 7)) false := by
  have hn1 := hz.needs.1
  have hzn : ∀ (i : Nat), ∀ m ∈ (n.needs.take i).map bare ++ [n], SzN m := by
    intro i m hm
    rcases List.mem_append.1 hm with hm | hm
    · obtain ⟨x, hx, rfl⟩ := List.mem_map.1 hm
      exact ⟨hz.needs.2 x (List.mem_of_mem_take hx), ⟨Nat.zero_le _, fun y hy => absurd hy List.not_mem_nil⟩, ⟨Nat.zero_le _, fun y hy => absurd hy List.not_mem_nil⟩⟩
    · obtain rfl := List.mem_singleton.1 hm; exact hz
  have hC : ∀ i : Nat, XPure Tryz.prog 42 [.agg [.sl 10 ((n.needs.take i).map sN ++ [eN n]), .sl 1 [str n.target]]] (i64 (errIf (planOk ((n.needs.take i).map bare ++ [n]) [n.target]) 7)) false := fun i =>
    (c_resolve_Check (goals := [n.target]) (hzn i)).nils (by
      refine LeqDL.cons (LeqD.agg (LeqDL.cons (LeqD.sl ?_) (LeqDL.refl _))) (LeqDL.refl _)
      · rw [List.map_append, List.map_map]
        exact (LeqDL.map sN_bare _).append (LeqDL.refl _))
  refine XPure.body ⟨_, Tryz.func25, rfl, by kernel_rfl⟩ Tryz.func25 rfl (Nat.le_of_ble_eq_true (by rfl)) (pf_of1 rfl) fun env => ?_
  repeat' ((conv => whnf); (fail_if_success refine zC ?_); first | refine zS ?_ | refine zB (fun h hs => ?_) (fun h hs => ?_) <;> try exact hs.elim | exact zE | refine zZ ?_ | fail)
  refine XW.countL n.needs.length [1, 2, 3, 11, 12] (fun i => [(13, i64 i)]) (fun _ => []) (fun i => [.cells (eN n).leaves [], .cells [.sl 10 ((n.needs.take i).map sN), eS [n.target]] [0]]) (fun i => True) Weak.go trivial ?_
  intro i hi hA
  refine codeS ?_
  repeat' ((conv => whnf); first | ((with_reducible show _ ∧ _ ∧ Weak _ _ _); have hM := app_next sN ByteArray.empty ‹i < n.needs.length›; refine ⟨?_, ?_, Weak.go⟩; omega) | refine zS ?_ | refine zB (fun h hs => ?_) (fun h hs => ?_) <;> try exact hs.elim | refine .inl ⟨_, _, hC _, ?_⟩ | exact zE | refine zZ ?_ | rw [getD_mapI (ByteArray.empty) (by omega)] | rw [getD_map (ByteArray.empty) (by omega)] | fail)
  · trivial
  · rw [List.take_of_length_le (by omega)]; rfl
end Go.Proofs.YtepdiooaoegpfaaGreatDoor.Fx
end
section
/- A target by itself, both ways the same. Conditions: those in each statement. -/
namespace Go.Proofs.YtepdiooaoegpfaaGreatDoor.Fx
open Go Go.Proofs Go.Ev Go.RowKit
set_option linter.unusedSimpArgs false
set_option linter.unusedVariables false
theorem needsOk_and {p : ByteArray → Bool} : ∀ (l d : List ByteArray), needsOk p d l = (needsOk (fun _ => true) d l && l.all p)
  | [], _ => rfl
  | x :: r, d => by
    show (isName x && !hasS d x && p x && needsOk p (d ++ [x]) r) = (isName x && !hasS d x && true && needsOk (fun _ => true) (d ++ [x]) r && (p x && r.all p))
    rw [needsOk_and r (d ++ [x])]
    cases isName x <;> cases hasS d x <;> cases p x <;> cases needsOk (fun _ => true) (d ++ [x]) r <;> rfl
theorem nodeIn_bare (x : ByteArray) : nodeIn (bare x) = isName x := by
  unfold nodeIn bare
  simp only [List.length_nil, List.any_nil, beqS_self, cond_true]
  cases isName x <;> rfl
theorem rightN_bare (a : List ByteArray) (x : ByteArray) : rightN a (bare x) = (isName x && !hasS a x) := by
  unfold rightN
  rw [nodeIn_bare]
  show (isName x && !hasS a x && needsOk (hasS a) [] []) = _
  rw [show needsOk (hasS a) [] [] = true from rfl, Bool.and_true]
theorem targets_bare (l : List ByteArray) : targets (l.map bare) = l := by
  unfold targets; rw [List.map_map]
  exact (List.map_congr_left fun x _ => rfl).trans (List.map_id l)
theorem nodesOk_bare : ∀ (l a : List ByteArray), nodesOk a (l.map bare) = needsOk (fun _ => true) a l
  | [], _ => rfl
  | x :: r, a => by
    show (rightN a (bare x) && nodesOk (a ++ [x]) (r.map bare)) = _
    rw [rightN_bare, nodesOk_bare r]
    simp only [needsOk, Bool.and_true]
theorem nodesOk_app : ∀ (l m : List Node) (a : List ByteArray), nodesOk a (l ++ m) = (nodesOk a l && nodesOk (a ++ targets l) m)
  | [], m, a => by simp [nodesOk, targets]
  | n :: l, m, a => by
    show (rightN a n && nodesOk (a ++ [n.target]) (l ++ m)) = (rightN a n && nodesOk (a ++ [n.target]) l && nodesOk (a ++ n.target :: targets l) m)
    rw [nodesOk_app l m, Bool.and_assoc, List.append_assoc]; rfl
theorem all_has (l : List ByteArray) : l.all (hasS l) = true := by
  rw [List.all_eq_true]
  intro x hx
  exact List.any_eq_true.2 ⟨x, hx, beqS_self⟩
theorem all_not (l : List ByteArray) (t : ByteArray) : (l.all fun x => !beqS x t) = !hasS l t := by
  unfold hasS; rw [List.not_any_eq_all_not]
theorem aloneOk_eq (n : Node) : aloneOk n = nodeOk n := by
  unfold aloneOk planOk nodeOk
  rw [nodesOk_app, nodesOk_bare, targets_bare, needsOk_and (p := fun x => !beqS x n.target), all_not]
  have e1 : nodesOk ([] ++ n.needs) [n] = (nodeIn n && !hasS n.needs n.target && needsOk (fun _ => true) [] n.needs) := by
    show (rightN ([] ++ n.needs) n && true) = _
    rw [Bool.and_true, List.nil_append]
    unfold rightN
    rw [needsOk_and (p := hasS n.needs), all_has, Bool.and_true]
  have e2 : goalsOk (targets (n.needs.map bare ++ [n])) [] [n.target] = true := by
    have : hasS (targets (n.needs.map bare ++ [n])) n.target = true := by
      unfold targets hasS
      rw [List.map_append, List.any_append]
      simp [beqS_self]
    show (hasS (targets (n.needs.map bare ++ [n])) n.target && !hasS [] n.target && true) = true
    rw [this]; rfl
  rw [e1, e2]
  cases hn : nodeIn n with
  | false => simp
  | true =>
    have hl : n.needs.length ≤ 65 := (nodeIn_iff.1 hn).2.1
    have : decide ((n.needs.map bare ++ [n]).length ≤ 256) = true := decide_eq_true (by simp; omega)
    rw [this]
    simp only [List.length_cons, List.length_nil, Bool.true_and, Bool.and_true]
    cases needsOk (fun _ => true) [] n.needs <;> cases hasS n.needs n.target <;> rfl
end Go.Proofs.YtepdiooaoegpfaaGreatDoor.Fx
end
section
/- Whether a command may be done: the program and the document answer the same. Conditions: those in each statement. -/
namespace Go.Proofs.YtepdiooaoegpfaaGreatDoor.Fx
open Go Go.Proofs Go.Ev Go.RowKit
set_option maxRecDepth 100000
set_option maxHeartbeats 1600000
set_option linter.unusedSimpArgs false
set_option linter.unusedVariables false
theorem cmFiles_op {op : Int} {d : ByteArray} {s w : List ByteArray} {st : Int} (h : cmFiles ⟨op, d, s, w, st⟩ = true) : ((1 ≤ op ∧ op ≤ 5) → isName d = true) ∧ s.all isName = true := by
  simp only [cmFiles, Bool.and_eq_true, Bool.or_eq_true, Bool.not_eq_true', Bool.and_eq_false_iff, decide_eq_false_iff_not] at h
  exact ⟨fun q => by rcases h.1 with (g | g) | g; exact absurd q.1 g; exact absurd q.2 g; exact g, h.2⟩
/-- What is read as a command is a right one. -/
theorem parse_kind {ws : List ByteArray} (h : parseE ws = 0) : Kind (parseC ws) := by
  by_cases hl : 514 < ws.length
  · unfold parseE at h; rw [if_pos hl] at h; cases h
  cases ws with
  | nil => unfold parseE at h; cases h
  | cons w l =>
    simp only [List.length_cons] at hl
    have hE := parseE_of (w := w) (l := l) (by omega) rfl
    rw [h] at hE
    cases hm : manyOk (opFrom w 1 8) l.length with
    | false => rw [if_pos hm] at hE; cases hE
    | true =>
      rw [if_neg (by rw [hm]; simp)] at hE
      have hC := parseC_of (w := w) (l := l) rfl h
      rw [hC]
      have hf : opFrom w 1 8 ≠ 7 → cmFiles (cmOf (opFrom w 1 8) l) = true := fun h7 => by
        rw [if_neg (fun q => h7 q.1)] at hE
        cases hc : cmFiles (cmOf (opFrom w 1 8) l) with
        | true => rfl
        | false => rw [if_neg (by rw [hc]; simp)] at hE; cases hE
      rcases shapes hm with ⟨a, b, ho, rfl⟩ | ⟨d, src, ho, rfl, h1, h2⟩ | ⟨d, ws, ho, rfl, h2⟩ | ⟨d, ho, rfl⟩ | ⟨d, ho, rfl⟩ | ⟨s, ho, rfl⟩ | ⟨ho, rfl⟩ | ⟨s, ho, rfl⟩ | ⟨ho, h2⟩
      all_goals rw [ho] at hf hE ⊢
      · obtain ⟨q1, q2⟩ := cmFiles_op (op := 1) (d := b) (s := [a]) (w := []) (st := 0) (hf (by decide))
        exact .copy (by simpa using q2) (q1 (by decide))
      · obtain ⟨q1, q2⟩ := cmFiles_op (op := 2) (d := d) (s := src) (w := []) (st := 0) (hf (by decide))
        exact .concat (q1 (by decide)) h1 h2 q2
      · obtain ⟨q1, q2⟩ := cmFiles_op (op := 3) (d := d) (s := []) (w := ws) (st := 0) (hf (by decide))
        exact .echo (q1 (by decide)) h2
      · obtain ⟨q1, q2⟩ := cmFiles_op (op := 4) (d := d) (s := []) (w := []) (st := 0) (hf (by decide))
        exact .touch (q1 (by decide))
      · obtain ⟨q1, q2⟩ := cmFiles_op (op := 5) (d := d) (s := []) (w := []) (st := 0) (hf (by decide))
        exact .remove (q1 (by decide))
      · obtain ⟨q1, q2⟩ := cmFiles_op (op := 6) (d := ⟨#[]⟩) (s := [s]) (w := []) (st := 0) (hf (by decide))
        exact .test (by simpa using q2)
      · exact .fail (n := 1) (by decide) (by decide)
      · have hz : failN s ≠ 0 := fun q => by
          have hq : (cmOf 7 [s]).st = 0 := q
          rw [if_pos ⟨rfl, hq⟩] at hE; cases hE
        obtain ⟨v, v1, v2, rfl⟩ := fail_stat s hz
        have hv := failN_dl v v1 v2
        have hK : Kind ⟨7, ⟨#[]⟩, [], [], failN ⟨(dl v).toArray⟩⟩ := by rw [hv]; exact .fail (by omega) (by omega)
        exact hK
      · exact .say h2
theorem line_kind {t : ByteArray} (h : lineE t = 0) : Kind (lineC t) := by
  by_cases hw : wordsE t = 0
  · obtain ⟨h1, h2⟩ := line_good hw
    rw [h1] at h; rw [h2]; exact parse_kind h
  · unfold lineE at h; rw [if_neg hw] at h; exact absurd h hw
theorem uniq_all {p : ByteArray → Bool} : ∀ (l out : List ByteArray), (uniqGo out l).all p = (out.all p && l.all p)
  | [], out => by simp [uniqGo]
  | x :: r, out => by
    rw [uniqGo]
    split
    · rename_i h
      rw [uniq_all r out, List.all_cons]
      cases ho : out.all p with
      | false => rfl
      | true =>
        obtain ⟨y, hy, e⟩ := List.any_eq_true.1 h
        obtain rfl := beqS_iff.1 e
        rw [List.all_eq_true.1 ho _ hy]; simp
    · rw [uniq_all r, List.all_append, List.all_cons, List.all_cons, List.all_nil, Bool.and_true, Bool.and_assoc]
theorem reads_all {c : Cm} {p : ByteArray → Bool} : (readsOf c).all p = c.src.all p := by
  unfold readsOf; split
  · rw [uniq_all]; rfl
  · rfl
theorem uniq_len : ∀ (l out : List ByteArray), (uniqGo out l).length ≤ out.length + l.length
  | [], out => by simp [uniqGo]
  | x :: r, out => by
    rw [uniqGo]
    split
    · have := uniq_len r out; simp only [List.length_cons]; omega
    · have := uniq_len r (out ++ [x]); simp only [List.length_cons, List.length_append, List.length_nil] at this ⊢; omega
theorem kind_src {c : Cm} (h : Kind c) : c.src.length ≤ 64 := by cases h <;> first | (simp; done) | assumption | (simp; omega)
theorem kind_reads {c : Cm} (h : Kind c) : (readsOf c).length ≤ 64 := by
  have := kind_src h
  unfold readsOf; split
  · have := uniq_len c.src []; simp only [List.length_nil] at this; omega
  · exact this
/-- What stands against a command; 0: nothing. -/
def mayOf (n : Node) (c : Cm) (e : Int) : Int := if e = 0 then if (c.src.all (hasS n.needs)) = true ∧ (wrOf c = true → c.dst = n.target) then 0 else 170 else e
theorem may_no {n : Node} {c : Cm} {e : Int} (he : e = 0) (h : c.src.all (hasS n.needs) = false) : mayOf n c e = 170 := by
  unfold mayOf; rw [if_pos he, if_neg (by rw [h]; simp)]
theorem may_dst {n : Node} {c : Cm} {e : Int} (he : e = 0) (h1 : wrOf c = true) (h2 : ¬ c.dst = n.target) : mayOf n c e = 170 := by
  unfold mayOf; rw [if_pos he, if_neg (fun q => h2 (q.2 h1))]
theorem may_yes {n : Node} {c : Cm} {e : Int} (he : e = 0) (h : c.src.all (hasS n.needs) = true) (h2 : wrOf c = true → c.dst = n.target) : mayOf n c e = 0 := by
  unfold mayOf; rw [if_pos he, if_pos ⟨h, h2⟩]
theorem leq_may {c : Cm} {e e' : Int} (h : e = e') : LeqD (.tup [c.av, i64 e]) (.tup [c.av, i64 e']) := h ▸ LeqD.refl _
theorem may_gen {n : Node} {t : ByteArray} {c : Cm} {e : Int} (hn : n.needs.length ≤ 1000000000) (hL : XPure Tryz.prog 44 [str t] (.tup [c.av, i64 e]) false) (hk : e = 0 → Kind c) :
    XPure Tryz.prog 29 [eN n, str t] (.tup [c.av, i64 (mayOf n c e)]) false := by
  refine XPure.bodyN ⟨_, Tryz.func29, rfl, by kernel_rfl⟩ Tryz.func29 rfl (Nat.le_of_ble_eq_true (by rfl)) (pf_of1 rfl) fun env => ?_
  repeat' ((conv => whnf); (fail_if_success refine zC ?_); first | refine zS ?_ | refine zB (fun h hs => ?_) (fun h hs => ?_) <;> try exact hs.elim | refine .inl ⟨_, _, hL, ?_⟩ | refine .inl ⟨_, _, c_Reads (hk (by assumption)), ?_⟩ | exact zElw | refine zZlw ?_ | fail)
  · refine leq_may ?_
    unfold mayOf; rw [if_neg hs]
  have he : e = 0 := hs
  have hK := hk he
  have hrl := kind_reads hK
  refine XW.countL (readsOf c).length [2, 4, 6, 29, 30] (fun i => [(31, i64 i)]) (fun _ => []) (fun i => [.cells (eN n).leaves [], .cells [i64 0, str .empty, nilv, nilv, i64 0] [], .cells c.av.leaves []]) (fun i => (readsOf c).all (hasS n.needs) = ((readsOf c).drop i).all (hasS n.needs)) Weak.go rfl ?_
  intro i hi hA
  refine codeS ?_
  repeat' ((conv => whnf); (fail_if_success refine zC ?_); first | refine zS ?_ | refine zB (fun h hs => ?_) (fun h hs => ?_) <;> try exact hs.elim | refine .inl ⟨_, _, c_Contains hn, ?_⟩ | refine .inl ⟨_, _, c_Writes hK, ?_⟩ | exact zEl | refine zZl ?_ | rw [getD_mapI (ByteArray.empty) (by omega)] | rw [getD_map (ByteArray.empty) (by omega)] | fail)
  · exact leq_may (c := c) (may_no he (reads_all.symm.trans (hA.trans (allL_no .empty (by assumption) hs)))).symm
  · exact hA.trans (allL_yes .empty (by assumption) hs)
  all_goals have hall : c.src.all (hasS n.needs) = true := reads_all.symm.trans (hA.trans (allL_end (by assumption)))
  · exact leq_may (c := c) (may_dst he hs.1 hs.2).symm
  · exact leq_may (c := c) (may_yes he hall (fun q => hs.resolve_left (by rw [q]; simp))).symm
  · exact leq_may (c := c) (may_yes he hall (fun q => by rw [hs] at q; cases q)).symm
@[irreducible] def mayX (n : Node) (t : ByteArray) : Int := mayOf n (lineC t) (lineE t)
theorem c_exec_may {n : Node} {t : ByteArray} (hn : n.needs.length ≤ 1000000000) : XPure Tryz.prog 29 [eN n, str t] (.tup [(lineC t).av, i64 (mayX n t)]) false := by
  unfold mayX; exact may_gen hn c_cmd_Line line_kind
theorem errIf_not {b : Bool} {k : Int} (h : ¬ errIf b k = 0) : b = false ∧ errIf b k = k := by
  cases b with
  | false => exact ⟨rfl, rfl⟩
  | true => exact absurd rfl h
theorem errIf_yes {b : Bool} {k : Int} (hk : k ≠ 0) (h : errIf b k = 0) : b = true := by
  cases b with
  | false => exact absurd h hk
  | true => rfl
end Go.Proofs.YtepdiooaoegpfaaGreatDoor.Fx
end
section
/- Whether a copying command may be done. Conditions: those in each statement. -/
namespace Go.Proofs.YtepdiooaoegpfaaGreatDoor.Fx
open Go Go.Proofs Go.Ev Go.RowKit
set_option maxRecDepth 100000
set_option maxHeartbeats 1600000
set_option linter.unusedSimpArgs false
set_option linter.unusedVariables false
def mayE (n : Node) (a b : ByteArray) : Int := if hasS n.needs a = true then if b = n.target then 0 else 170 else 170
theorem leq_cmd2 {op st e e' : Int} {d : ByteArray} {a w : List ByteArray} (h5 : e' = e) : LeqD (.tup [eC op d a w st, i64 e]) (.tup [eC op d a w st, i64 e']) := by
  subst h5; exact LeqD.refl _
theorem c_may_copy {n : Node} {t a b : ByteArray} (hn : n.needs.length ≤ 1000000000) (hV : wordsV t = [copyW, a, b]) (hE : wordsE t = 0) (ha : isName a = true) (hb : isName b = true) :
    XPure Tryz.prog 29 [eN n, str t] (.tup [eC 1 b [a] [] 0, i64 (mayE n a b)]) false := by
  refine XPure.bodyN ⟨_, Tryz.func29, rfl, by kernel_rfl⟩ Tryz.func29 rfl (Nat.le_of_ble_eq_true (by rfl)) (pf_of1 rfl) fun env => ?_
  repeat' ((conv => whnf); (fail_if_success refine zC ?_); first | refine zS ?_ | refine zB (fun h hs => ?_) (fun h hs => ?_) <;> try exact hs.elim | refine .inl ⟨_, _, c_Line_copy hV hE ha hb, ?_⟩ | refine .inl ⟨_, _, c_Reads_copy ha hb, ?_⟩ | exact zElw | refine zZlw ?_ | fail)
  refine XW.countL 1 [2, 4, 6, 29, 30] (fun i => [(31, i64 i)]) (fun _ => []) (fun i => [.cells (eN n).leaves [], .cells [i64 0, str .empty, nilv, nilv, i64 0] [], .cells (eC 1 b [a] [] 0).leaves []]) (fun i => i = 0 ∨ hasS n.needs a = true) Weak.go (.inl rfl) ?_
  intro i hi hA
  refine codeS ?_
  rcases (by omega : i = 0 ∨ i = 1) with rfl | rfl
  · repeat' ((conv => whnf); (fail_if_success refine zC ?_); first | refine zSd ?_ | refine zB (fun h hs => ?_) (fun h hs => ?_) <;> try exact hs.elim | refine .inl ⟨_, _, c_Contains hn, ?_⟩ | refine .inl ⟨_, _, c_Writes_copy ha hb, ?_⟩ | exact zEl | refine zZl ?_ | fail)
    · conv => whnf
      refine leq_cmd2 ?_
      unfold mayE; rw [if_neg (by rw [hs]; simp)]
    · exact .inr hs
    all_goals exact absurd (Nat.zero_lt_one) ‹¬ 0 < [a].length›
  · have hA' : hasS n.needs a = true := by rcases hA with h | h; omega; exact h
    repeat' ((conv => whnf); (fail_if_success refine zC ?_); first | refine zSd ?_ | refine zB (fun h hs => ?_) (fun h hs => ?_) <;> try exact hs.elim | refine .inl ⟨_, _, c_Contains hn, ?_⟩ | refine .inl ⟨_, _, c_Writes_copy ha hb, ?_⟩ | exact zEl | refine zZl ?_ | fail)
    · exact absurd hs (Nat.lt_irrefl 1)
    · conv => whnf
      refine leq_cmd2 ?_
      unfold mayE; rw [if_pos hA', if_neg hs]
    · conv => whnf
      refine leq_cmd2 ?_
      unfold mayE; rw [if_pos hA', if_pos hs]
end Go.Proofs.YtepdiooaoegpfaaGreatDoor.Fx
end
section
/- Disks as the document's answer writes them. Conditions: those in each statement. -/
namespace Go.Proofs.YtepdiooaoegpfaaGreatDoor.Fx
open Go Go.Proofs Go.Ev Go.RowKit
set_option maxRecDepth 100000
set_option maxHeartbeats 1600000
set_option linter.unusedSimpArgs false
set_option linter.unusedVariables false
def SzF (l : List File) : Prop := l.length ≤ 1000000000 ∧ ∀ f ∈ l, f.name.size ≤ 140737488355328
theorem SzF.at {l : List File} (h : SzF l) (i : Nat) (hi : i < l.length) : (l.getD i File.none).name.size ≤ 140737488355328 :=
  h.2 _ (by simp [List.getD_eq_getElem?_getD, hi])
theorem c_ref02_fit {clock : Int} {l : List File} {s : ByteArray} (hz : SzF l) (hns : s.size ≤ 140737488355328) : XPure Tryz.prog 35 [eD clock l, str s] (i64 (bif okD clock l then errIf (isName s) 3 else 4)) false := by
  refine XPure.body ⟨_, Tryz.func35, rfl, by kernel_rfl⟩ Tryz.func35 rfl (Nat.le_of_ble_eq_true (by rfl)) (pf_of1 rfl) fun env => ?_
  repeat' ((conv => whnf); (fail_if_success refine zC ?_); first | refine zS ?_ | refine zB (fun h hs => ?_) (fun h hs => ?_) <;> try exact hs.elim | refine .inl ⟨_, _, c_ref02_Check hz.1 hz.at, ?_⟩ | refine .inl ⟨_, _, c_ref02_Name hns, ?_⟩ | exact zE | refine zZ ?_ | fail)
  all_goals cases h1 : okD clock l <;> cases h2 : isName s <;> simp_all [errIf]
/-- The place of a file; -1: none. -/
def placeN (l : List File) (s : ByteArray) (i : Nat) : Int := match l with
  | [] => -1
  | f :: r => if beqS f.name s then i else placeN r s (i + 1)
theorem placeN_step {l : List File} {s : ByteArray} {i : Nat} (h : i < l.length) : placeN (l.drop i) s i = if beqS (l.getD i File.none).name s then (i : Int) else placeN (l.drop (i + 1)) s (i + 1) := by
  rw [drop_getD File.none h]; rfl
theorem placeN_end {l : List File} {s : ByteArray} {i : Nat} (h : ¬ i < l.length) : placeN (l.drop i) s i = -1 := by
  rw [List.drop_eq_nil_of_le (by omega)]; rfl
theorem c_ref02_place {clock : Int} {l : List File} {s : ByteArray} (hl : l.length ≤ 1000000000) : XPure Tryz.prog 60 [eD clock l, str s] (i64 (placeN l s 0)) false := by
  refine XPure.body ⟨_, Tryz.func60, rfl, by kernel_rfl⟩ Tryz.func60 rfl (Nat.le_of_ble_eq_true (by rfl)) (pf_of1 rfl) fun env => ?_
  repeat' ((conv => whnf); (fail_if_success refine zC ?_); first | refine zS ?_ | refine zB (fun h hs => ?_) (fun h hs => ?_) <;> try exact hs.elim | exact zE | refine zZ ?_ | fail)
  refine XW.countL l.length [1, 2] (fun i => [(5, i64 i)]) (fun _ => []) (fun i => [.cells [i64 clock, eFs l] []]) (fun i => placeN l s 0 = placeN (l.drop i) s i) Weak.go rfl ?_
  intro i hi hA
  refine codeS ?_
  repeat' ((conv => whnf); (fail_if_success refine zC ?_); first | refine zS ?_ | refine zB (fun h hs => ?_) (fun h hs => ?_) <;> try exact hs.elim | exact zE | refine zZ ?_ | rw [getD_mapI (File.none) (by omega)] | rw [getD_map (File.none) (by omega)] | fail)
  · rw [hA, placeN_step ‹_›, if_pos (beqS_iff.2 hs)]
  · rw [hA, placeN_step ‹_›, if_neg (by simpa using h)]
  · rw [hA, placeN_end hs]
end Go.Proofs.YtepdiooaoegpfaaGreatDoor.Fx
end
section
/- What is compared: files, disks, what a command did. Conditions: those in each statement. -/
namespace Go.Proofs.YtepdiooaoegpfaaGreatDoor.Fx
open Go Go.Proofs Go.Ev Go.RowKit
set_option maxRecDepth 100000
set_option maxHeartbeats 1600000
set_option linter.unusedSimpArgs false
set_option linter.unusedVariables false
def sameF (a b : File) : Bool := beqS a.name b.name && beqS a.text b.text && (a.stamp == b.stamp)
def sameGo : List File → List File → Bool
  | a :: l, b :: m => sameF a b && sameGo l m
  | _, _ => true
def sameFs (l m : List File) : Bool := decide (l.length = m.length) && sameGo l m
theorem sameGo_step {l m : List File} {i : Nat} (h : i < l.length) (k : i < m.length) : sameGo (l.drop i) (m.drop i) = (sameF (l.getD i File.none) (m.getD i File.none) && sameGo (l.drop (i + 1)) (m.drop (i + 1))) := by
  rw [drop_getD File.none h, drop_getD File.none k]; rfl
theorem sameGo_end {l m : List File} {i : Nat} (h : ¬ i < l.length) : sameGo (l.drop i) (m.drop i) = true := by
  rw [List.drop_eq_nil_of_le (by omega)]; rfl
theorem c_plain_Files {l m : List File} (hl : l.length ≤ 1000000000) (hm : m.length ≤ 1000000000) : XPure Tryz.prog 33 [eFs l, eFs m] (bln (sameFs l m)) false := by
  refine XPure.body ⟨_, Tryz.func33, rfl, by kernel_rfl⟩ Tryz.func33 rfl (Nat.le_of_ble_eq_true (by rfl)) (pf_of1 rfl) fun env => ?_
  repeat' ((conv => whnf); (fail_if_success refine zC ?_); first | refine zS ?_ | refine zB (fun h hs => ?_) (fun h hs => ?_) <;> try exact hs.elim | exact zE | refine zZ ?_ | fail)
  · have e : sameFs l m = false := by unfold sameFs; rw [decide_eq_false (by omega), Bool.false_and]
    rw [e]
  · have e : sameFs l m = sameGo l m := by unfold sameFs; rw [decide_eq_true (by omega), Bool.true_and]
    refine XW.countL l.length [0, 1, 12] (fun i => [(13, i64 i)]) (fun _ => []) (fun _ => []) (fun i => sameFs l m = sameGo (l.drop i) (m.drop i)) Weak.go e ?_
    intro i hi hA
    refine codeS ?_
    repeat' ((conv => whnf); (fail_if_success refine zC ?_); first | refine zS ?_ | refine zB (fun h hs => ?_) (fun h hs => ?_) <;> try exact hs.elim | refine XW.dr (m := 9) ?_ | exact zE | refine zZ ?_ | rw [getD_mapI (File.none) (by omega)] | rw [getD_map (File.none) (by omega)] | fail)
    · have e2 : sameF (l.getD i File.none) (m.getD i File.none) = false := by
        rw [← Bool.not_eq_true]; simp only [sameF, Bool.and_eq_true, beqS_iff, beq_iff_eq]; grind
      rw [hA, sameGo_step ‹_› (by omega), e2]; rfl
    · have e2 : sameF (l.getD i File.none) (m.getD i File.none) = true := by
        simp only [sameF, Bool.and_eq_true, beqS_iff, beq_iff_eq]; grind
      rw [hA, sameGo_step ‹_› (by omega), e2, Bool.true_and]
    · rw [hA, sameGo_end hs]
theorem c_plain_Disk {a b : Int} {l m : List File} (hl : l.length ≤ 1000000000) (hm : m.length ≤ 1000000000) : XPure Tryz.prog 12 [eD a l, eD b m] (bln ((a == b) && sameFs l m)) false := by
  refine XPure.body ⟨_, Tryz.func12, rfl, by kernel_rfl⟩ Tryz.func12 rfl (Nat.le_of_ble_eq_true (by rfl)) (pf_of1 rfl) fun env => ?_
  repeat' ((conv => whnf); (fail_if_success refine zC ?_); first | refine zS ?_ | refine zB (fun h hs => ?_) (fun h hs => ?_) <;> try exact hs.elim | refine .inl ⟨_, _, c_plain_Files hl hm, ?_⟩ | exact zE | refine zZ ?_ | fail)
  · exact congrArg (fun b => bln b) (Bool.cond_false_right ..)
  · exact congrArg (fun b => bln b) (by rw [h, Bool.false_and])
structure Done where
  clock : Int
  files : List File
  said : ByteArray
  wrote : Bool
  status : Int
  code : Int
abbrev eDone (x : Done) : AV := .agg [i64 x.clock, eFs x.files, str x.said, bln x.wrote, i64 x.status, i64 x.code]
def Done.same (x y : Done) : Bool := (x.clock == y.clock) && sameFs x.files y.files && beqS x.said y.said && (x.wrote == y.wrote) && (x.status == y.status) && (x.code == y.code)
end Go.Proofs.YtepdiooaoegpfaaGreatDoor.Fx
end
section
/- What a copying command does. Conditions: those in each statement. -/
namespace Go.Proofs.YtepdiooaoegpfaaGreatDoor.Fx
open Go Go.Proofs Go.Ev Go.RowKit
set_option maxRecDepth 100000
set_option maxHeartbeats 6400000
set_option linter.unusedSimpArgs false
set_option linter.unusedVariables false
attribute [local irreducible] readE readT
@[irreducible] def doneE (clock : Int) (l : List File) (a b : ByteArray) : Int := if readE clock l [a] = 0 then wrE clock l b (readT clock l [a]) else readE clock l [a]
@[irreducible] def doneC (clock : Int) (l : List File) (a b : ByteArray) : Int := if readE clock l [a] = 0 then wrC clock l b (readT clock l [a]) else clock
@[irreducible] def doneL (clock : Int) (l : List File) (a b : ByteArray) : List File := if readE clock l [a] = 0 then wrL' clock l b (readT clock l [a]) else l
theorem tup4 {c c' e e' : Int} {L L' : List File} (h1 : c = c') (h2 : L = L') (h3 : e = e') : AV.tup [eD c L, str .empty, i64 0, i64 e] = AV.tup [eD c' L', str .empty, i64 0, i64 e'] := by subst h1 h2 h3; rfl
theorem c_done_copy {clock : Int} {l : List File} {a b : ByteArray} : XPure Tryz.prog 30 [eC 1 b [a] [] 0, eD clock l] (.tup [eD (doneC clock l a b) (doneL clock l a b), str .empty, i64 0, i64 (doneE clock l a b)]) false := by
  refine XPure.body ⟨_, Tryz.func30, rfl, by kernel_rfl⟩ Tryz.func30 rfl (Nat.le_of_ble_eq_true (by rfl)) (pf_of1 rfl) fun env => ?_
  repeat' ((conv => whnf); (fail_if_success refine zC ?_); first | refine zSd ?_ | refine zB (fun h hs => ?_) (fun h hs => ?_) <;> try exact hs.elim | refine .inl ⟨_, _, c_exec_read (Nat.le_of_ble_eq_true rfl), ?_⟩ | refine .inl ⟨_, _, c_disk_Write, ?_⟩ | exact zE | refine zZ ?_ | fail)
  · exact tup4 (by unfold doneC; rw [if_neg hs]) (by unfold doneL; rw [if_neg hs]) (by unfold doneE; rw [if_neg hs])
  · exact tup4 (by unfold doneC; rw [if_pos hs]) (by unfold doneL; rw [if_pos hs]) (by unfold doneE; rw [if_pos hs])
@[irreducible] def statusOf (e : Int) : Int := if e = 0 then 0 else if e = 171 then 1 else if e = 150 ∨ e = 9 ∨ e = 160 ∨ e = 3 then 2 else if e = 170 then 3 else if e = 21 then 4 else if e = 20 then 5 else if e = 22 then 6 else if e = 23 then 7 else 8
theorem c_Status' {e : Int} : XPure Tryz.prog 21 [i64 e] (i64 (statusOf e)) false := by unfold statusOf; exact c_exec_Status
theorem cellOwn_xp {c : Cfg} {p : Operand} {i off : Nat} {l : List AV} (h1 : evA c p = .xp i off) (h2 : c.env[i]? = some (.cells l [])) : cellOwn c p = none := by
  unfold cellOwn
  rw [h1]
  simp only [h2]
  split
  · rfl
  · rfl
theorem tupD {c e st st' : Int} {l : List File} (h : st = st') : AV.tup [eDone ⟨c, l, .empty, false, st, e⟩, i64 0] = AV.tup [eDone ⟨c, l, .empty, false, st', e⟩, i64 0] := by subst h; rfl
theorem c_Do1 {q : Nat} {clock e st : Int} {l : List File} {env : List Bx} (hq : env[q]? = some (.cells [i64 clock, eFs l] [])) :
    XCalls Tryz.prog 28 [i64 e, i64 st, .xp q 0] env fun r ow env' => r = .tup [eDone ⟨clock, l, .empty, false, if st = 0 then statusOf e else st, e⟩, i64 0] ∧ ow = false ∧ env' = env := by
  have hkk : q < env.length := (List.getElem?_eq_some_iff.1 hq).1
  refine XCalls.body Tryz.func28 rfl (Nat.le_of_ble_eq_true (by rfl)) ?_
  repeat' ((conv => whnf); (fail_if_success refine zC ?_); first | refine zS ?_ | refine zB (fun h hs => ?_) (fun h hs => ?_) <;> try exact hs.elim | refine .inl ⟨_, _, c_Status', ?_⟩ | (first | rw [cellOwn_xp (i := q) (off := 0) rfl hq] | (refine ⟨_, _, hq, ?_⟩)) | exact zEw | refine zZw ?_ | fail)
  · exact tupD (by rw [if_pos hs])
  · exact tupD (by rw [if_neg hs])
/-- What a copying command comes to. -/
@[irreducible] def doCopy (n : Node) (clock : Int) (l : List File) (a b : ByteArray) : Done :=
  if mayE n a b = 0 then if doneE clock l a b = 0 then ⟨doneC clock l a b, doneL clock l a b, .empty, true, 0, 0⟩ else ⟨clock, l, .empty, false, statusOf (doneE clock l a b), doneE clock l a b⟩ else ⟨clock, l, .empty, false, statusOf (mayE n a b), mayE n a b⟩
end Go.Proofs.YtepdiooaoegpfaaGreatDoor.Fx
end
section
/- What right commands do upon a disk. Conditions: those in each statement. -/
namespace Go.Proofs.YtepdiooaoegpfaaGreatDoor.Fx
open Go Go.Proofs Go.Ev Go.RowKit
set_option maxRecDepth 100000
set_option maxHeartbeats 6400000
set_option linter.unusedSimpArgs false
set_option linter.unusedVariables false
abbrev blankS : ByteArray := ⟨#[32]⟩
theorem tail_len {sep : List UInt8} {M : Nat} : ∀ l : List ByteArray, (∀ x ∈ l, x.size ≤ M) → (Lib.joinTail sep (l.map (·.data.toList))).length ≤ l.length * (M + sep.length)
  | [], _ => by simp [Lib.joinTail]
  | x :: r, h => by
    have ih := tail_len (sep := sep) (M := M) r fun y hy => h y (List.mem_cons_of_mem _ hy)
    have hx := h x (List.mem_cons_self ..)
    have hl : x.data.toList.length = x.size := by simp
    unfold Lib.joinTail at ih ⊢
    simp only [List.map_cons, List.flatten_cons, List.length_append, List.length_cons, Nat.succ_mul] at ih ⊢
    omega
theorem join_len {sep : List UInt8} {M : Nat} (l : List ByteArray) (h : ∀ x ∈ l, x.size ≤ M) : (Lib.join (l.map (·.data.toList)) sep).length ≤ l.length * (M + sep.length) := by
  cases l with
  | nil => simp [Lib.join_nil]
  | cons x r =>
    have h1 := tail_len (sep := sep) (M := M) r fun y hy => h y (List.mem_cons_of_mem _ hy)
    have hx := h x (List.mem_cons_self ..)
    have hl : x.data.toList.length = x.size := by simp
    rw [List.map_cons, Lib.join_cons, List.length_append, List.length_cons, Nat.succ_mul]
    omega
def spokenB (l : List ByteArray) : ByteArray := joinB l blankS ++ ⟨#[10]⟩
theorem c_JoinW {l : List ByteArray} (hn : l.length ≤ 512) (hw : ∀ x ∈ l, x.size ≤ 65536) : XPure Tryz.prog 53 [eS l, str blankS] (str (joinB l blankS)) false :=
  c_Join (by omega) (by have h : _ ≤ l.length * 65537 := join_len (sep := blankS.data.toList) (M := 65536) l hw; omega)
theorem joinB_size {l : List ByteArray} (hn : l.length ≤ 512) (hw : ∀ x ∈ l, x.size ≤ 65536) : (joinB l blankS).size ≤ 33554944 := by
  have h : _ ≤ l.length * 65537 := join_len (sep := blankS.data.toList) (M := 65536) l hw
  show (Lib.join _ _).length ≤ _
  omega
theorem c_spoken {l : List ByteArray} (hn : l.length ≤ 512) (hw : ∀ x ∈ l, x.size ≤ 65536) : XPure Tryz.prog 188 [eS l] (str (spokenB l)) false := by
  have hz := joinB_size hn hw
  refine XPure.body ⟨_, Tryz.func188, rfl, by kernel_rfl⟩ Tryz.func188 rfl (Nat.le_of_ble_eq_true (by rfl)) (pf_of1 rfl) fun env => ?_
  repeat' ((conv => whnf); (fail_if_success refine zC ?_); first | refine zS ?_ | refine zB (fun h hs => ?_) (fun h hs => ?_) <;> try exact hs.elim | refine .inl ⟨_, _, c_JoinW hn hw, ?_⟩ | exact zEs | refine zZs ?_ | (refine ⟨?_, ?_, ?_⟩; (first | omega | (show (joinB l blankS).size + 1 ≤ 140737488355328; omega)); (first | omega | (show (joinB l blankS).size + 1 ≤ 140737488355328; omega))) | (refine ⟨?_, ?_⟩; (first | omega | (show (joinB l blankS).size + 1 ≤ 140737488355328; omega))) | fail)
theorem c_echoing_said {d : ByteArray} {l : List ByteArray} (hn : l.length ≤ 512) (hw : ∀ x ∈ l, x.size ≤ 65536) : XPure Tryz.prog 184 [.agg [str d, eS l]] (str (spokenB l)) false := by
  refine XPure.body ⟨_, Tryz.func184, rfl, by kernel_rfl⟩ Tryz.func184 rfl (Nat.le_of_ble_eq_true (by rfl)) (pf_of1 rfl) fun env => ?_
  repeat' ((conv => whnf); (fail_if_success refine zC ?_); first | refine zS ?_ | refine zB (fun h hs => ?_) (fun h hs => ?_) <;> try exact hs.elim | refine .inl ⟨_, _, c_spoken hn hw, ?_⟩ | exact zE | refine zZ ?_ | fail)
theorem said_echo {d : ByteArray} {w : List ByteArray} (hd : isName d = true) (hn : w.length ≤ 512) (hw : ∀ x ∈ w, x.size ≤ 65536) : XPure Tryz.prog 49 [eC 3 d [] w 0] (.tup [str (spokenB w), i64 0]) false := by
  refine XPure.body ⟨_, Tryz.func49, rfl, by kernel_rfl⟩ Tryz.func49 rfl (Nat.le_of_ble_eq_true (by rfl)) (pf_of1 rfl) fun env => ?_
  repeat' ((conv => whnf); (fail_if_success refine zC ?_); first | refine zSd ?_ | refine zB (fun h hs => ?_) (fun h hs => ?_) <;> try exact hs.elim | refine .inl ⟨_, _, told_echo hd hn, ?_⟩ | refine .inl ⟨_, _, c_echoing_said hn hw, ?_⟩ | exact zE | refine zZ ?_ | fail)
structure DR where
  clock : Int
  files : List File
  said : ByteArray
  st : Int
  e : Int
abbrev DR.av (r : DR) : AV := .tup [eD r.clock r.files, str r.said, i64 r.st, i64 r.e]
/-- What a right command comes to, upon a disk. -/
def doneOf (c : Cm) (clock : Int) (l : List File) : DR :=
  if c.op = 1 ∨ c.op = 2 then if readE clock l c.src = 0 then ⟨wrC clock l c.dst (readT clock l c.src), wrL' clock l c.dst (readT clock l c.src), .empty, 0, wrE clock l c.dst (readT clock l c.src)⟩ else ⟨clock, l, .empty, 0, readE clock l c.src⟩
  else if c.op = 3 then ⟨wrC clock l c.dst (spokenB c.words), wrL' clock l c.dst (spokenB c.words), .empty, 0, wrE clock l c.dst (spokenB c.words)⟩
  else if c.op = 4 then ⟨tcC clock l c.dst, tcL clock l c.dst, .empty, 0, tcE clock l c.dst⟩
  else if c.op = 5 then ⟨rmC clock l c.dst, rmL clock l c.dst, .empty, 0, rmE clock l c.dst⟩
  else if c.op = 6 then if findE clock l (c.src.getD 0 .empty) = 0 then ⟨clock, l, .empty, 0, 0⟩ else ⟨clock, l, .empty, 1, 171⟩
  else if c.op = 7 then ⟨clock, l, .empty, c.st, 171⟩
  else ⟨clock, l, joinB c.words blankS, 0, 0⟩
theorem tup5 {c c' st st' e e' : Int} {L L' : List File} {s s' : ByteArray} (h1 : c = c') (h2 : L = L') (h3 : s = s') (h4 : st = st') (h5 : e = e') : AV.tup [eD c L, str s, i64 st, i64 e] = AV.tup [eD c' L', str s', i64 st', i64 e'] := by subst h1 h2 h3 h4 h5; rfl
theorem dr_eq {r r' : DR} (h : r = r') : r.av = r'.av := by rw [h]
theorem c_done {c : Cm} {clock : Int} {l : List File} (hk : Kind c) (hw : ∀ x ∈ c.words, x.size ≤ 65536) : XPure Tryz.prog 30 [c.av, eD clock l] (doneOf c clock l).av false := by
  cases hk
  all_goals dsimp only [Cm.av] at hw ⊢
  all_goals
    refine XPure.body ⟨_, Tryz.func30, rfl, by kernel_rfl⟩ Tryz.func30 rfl (Nat.le_of_ble_eq_true (by rfl)) (pf_of1 rfl) fun env => ?_
    repeat' ((conv => whnf); (fail_if_success refine zC ?_); first | refine zSd ?_ | refine zB (fun h hs => ?_) (fun h hs => ?_) <;> try exact hs.elim | refine .inl ⟨_, _, c_exec_read (by first | exact Nat.le_of_ble_eq_true rfl | omega), ?_⟩ | refine .inl ⟨_, _, c_disk_Write, ?_⟩ | refine .inl ⟨_, _, said_echo (by assumption) (by assumption) hw, ?_⟩ | refine .inl ⟨_, _, c_disk_Touch, ?_⟩ | refine .inl ⟨_, _, c_disk_Remove, ?_⟩ | refine .inl ⟨_, _, c_disk_Find, ?_⟩ | refine .inl ⟨_, _, c_JoinW (by assumption) hw, ?_⟩ | refine ⟨_, _, c_exec_read (by first | exact Nat.le_of_ble_eq_true rfl | omega), ?_⟩ | refine ⟨_, _, c_disk_Write, ?_⟩ | refine ⟨_, _, said_echo (by assumption) (by assumption) hw, ?_⟩ | refine ⟨_, _, c_disk_Touch, ?_⟩ | refine ⟨_, _, c_disk_Remove, ?_⟩ | refine ⟨_, _, c_disk_Find, ?_⟩ | refine ⟨_, _, c_JoinW (by assumption) hw, ?_⟩ | (first | (refine XW.drawW (id := 20) (M := 11) (p := 3) (W := [9, 10]) (by kernel_rfl) (by kernel_rfl) ?_) | (refine XW.drawW (id := 25) (M := 5) (p := 2) (W := [3, 4]) (by kernel_rfl) (by kernel_rfl) ?_) | (refine XW.drawW (id := 26) (M := 5) (p := 2) (W := [4]) (by kernel_rfl) (by kernel_rfl) ?_) | ((with_reducible show _ ∧ allW _ _); refine ⟨?_, ?_⟩) | exact trivial) | exact zEwf | refine zZwf ?_ | fail)
  all_goals try exact tup5 rfl rfl rfl rfl rfl
  · exact (show _ = DR.av ⟨clock, l, .empty, 0, readE clock l _⟩ from tup5 rfl rfl rfl rfl rfl).trans (dr_eq (by unfold doneOf; rw [if_pos (.inl rfl), if_neg hs]))
  · exact (show _ = DR.av ⟨wrC clock l _ (readT clock l _), wrL' clock l _ (readT clock l _), .empty, 0, wrE clock l _ (readT clock l _)⟩ from tup5 rfl rfl rfl rfl rfl).trans (dr_eq (by unfold doneOf; rw [if_pos (.inl rfl), if_pos hs]))
  · exact (show _ = DR.av ⟨clock, l, .empty, 0, readE clock l _⟩ from tup5 rfl rfl rfl rfl rfl).trans (dr_eq (by unfold doneOf; rw [if_pos (.inr rfl), if_neg hs]))
  · exact (show _ = DR.av ⟨wrC clock l _ (readT clock l _), wrL' clock l _ (readT clock l _), .empty, 0, wrE clock l _ (readT clock l _)⟩ from tup5 rfl rfl rfl rfl rfl).trans (dr_eq (by unfold doneOf; rw [if_pos (.inr rfl), if_pos hs]))
  · exact (show _ = DR.av ⟨clock, l, .empty, 1, 171⟩ from tup5 rfl rfl rfl rfl rfl).trans (dr_eq (show _ = if findE clock l _ = 0 then _ else _ from (if_neg hs).symm))
  · exact (show _ = DR.av ⟨clock, l, .empty, 0, 0⟩ from tup5 rfl rfl rfl rfl rfl).trans (dr_eq (show _ = if findE clock l _ = 0 then _ else _ from (if_pos hs).symm))
  all_goals trace_state
end Go.Proofs.YtepdiooaoegpfaaGreatDoor.Fx
end
section
/- A copying command is done. Conditions: those in each statement. -/
namespace Go.Proofs.YtepdiooaoegpfaaGreatDoor.Fx
open Go Go.Proofs Go.Ev Go.RowKit
set_option maxRecDepth 100000
set_option maxHeartbeats 6400000
set_option linter.unusedSimpArgs false
set_option linter.unusedVariables false
attribute [local irreducible] mayE
theorem doneEq {x y : Done} (h : x = y) : AV.tup [eDone x, i64 0] = AV.tup [eDone y, i64 0] := by rw [h]
theorem callG_args {P : Program} {c : Cfg} {args args' : List AV} {f : FuncId} {dst : Option Tmp} {K : Cfg → Prop} (h : args = args') (hg : callG P c args' f dst K) : callG P c args f dst K := h ▸ hg
theorem callG_do1 {c : Cfg} {dst : Option Tmp} {K : Cfg → Prop} {clock e st : Int} {l : List File} (hbox : c.own[1]? = some (.cells [i64 clock, eFs l] []))
    (h : K (c.after dst (.tup [eDone ⟨clock, l, .empty, false, if st = 0 then statusOf e else st, e⟩, i64 0]) false)) : callG Tryz.prog c [i64 e, i64 st, .bp 1 0] 28 dst K :=
  callG_same ⟨_, Tryz.func28, rfl, by kernel_rfl⟩ rfl (c_Do1 (q := c.base + 1) (clock := clock) (l := l) (boxUp rfl hbox)) h
theorem c_Do_copy {n : Node} {t a b : ByteArray} {clock : Int} {l : List File} (hz : SzN n) (hn : aloneOk n = true) (ht : t.size ≤ 65536) (hd : okD clock l = true) (hl : l.length ≤ 256) (hV : wordsV t = [copyW, a, b]) (hE : wordsE t = 0) (ha : isName a = true) (hb : isName b = true) :
    XPure Tryz.prog 9 [eN n, str t, eD clock l, i64 0] (.tup [eDone (doCopy n clock l a b), i64 0]) false := by
  have hA : XPure Tryz.prog 25 [eN n] (i64 0) false := by
    have h := c_alone hz
    rwa [hn, show errIf true 7 = 0 from rfl] at h
  have hD : XPure Tryz.prog 26 [eD clock l] (i64 0) false := by
    have h := c_disk_Check (clock := clock) (l := l)
    rwa [hd, show errIf true 4 = 0 from rfl] at h
  refine XPure.body ⟨_, Tryz.func9, rfl, by kernel_rfl⟩ Tryz.func9 rfl (Nat.le_of_ble_eq_true (by rfl)) (pf_of1 rfl) fun env => ?_
  iterate 16 any_goals try ((conv => whnf); (fail_if_success refine zC ?_); first | refine zSd ?_ | refine zB (fun h hs => ?_) (fun h hs => ?_) <;> try exact hs.elim | refine .inl ⟨_, _, hA, ?_⟩ | refine .inl ⟨_, _, hD, ?_⟩ | refine .inl ⟨_, _, c_CloneF (by omega), ?_⟩ | refine .inl ⟨_, _, c_may_copy hz.needs.1 hV hE ha hb, ?_⟩ | exact zEw | refine zZw ?_ | fail)
  · omega
  · repeat' ((conv => whnf); (fail_if_success refine zC ?_); first | refine zSd ?_ | refine zB (fun h hs => ?_) (fun h hs => ?_) <;> try exact hs.elim | refine .inl ⟨_, _, c_done_copy, ?_⟩ | exact zEwf | refine zZwf ?_ | fail)
    refine callG_args (args' := [i64 (mayE n a b), i64 0, .bp 1 0]) (by kernel_rfl) ?_
    refine callG_do1 (clock := clock) (l := l) (by kernel_rfl) ?_
    repeat' ((conv => whnf); (fail_if_success refine zC ?_); first | refine zSd ?_ | refine zB (fun h hs => ?_) (fun h hs => ?_) <;> try exact hs.elim | exact zEwf | refine zZwf ?_ | fail)
    refine Eq.trans (b := AV.tup [eDone ⟨clock, l, .empty, false, if (0 : Int) = 0 then statusOf (mayE n a b) else 0, mayE n a b⟩, i64 0]) (by kernel_rfl) ?_
    exact doneEq (by unfold doCopy; rw [if_neg hs]; rfl)
  · repeat' ((conv => whnf); (fail_if_success refine zC ?_); first | refine zSd ?_ | refine zB (fun h hs => ?_) (fun h hs => ?_) <;> try exact hs.elim | refine .inl ⟨_, _, c_done_copy, ?_⟩ | exact zEwf | refine zZwf ?_ | fail)
    · refine callG_args (args' := [i64 (doneE clock l a b), i64 0, .bp 1 0]) (by kernel_rfl) ?_
      refine callG_do1 (clock := clock) (l := l) (by kernel_rfl) ?_
      repeat' ((conv => whnf); (fail_if_success refine zC ?_); first | refine zSd ?_ | refine zB (fun h hs => ?_) (fun h hs => ?_) <;> try exact hs.elim | exact zEwf | refine zZwf ?_ | fail)
      refine Eq.trans (b := AV.tup [eDone ⟨clock, l, .empty, false, if (0 : Int) = 0 then statusOf (doneE clock l a b) else 0, doneE clock l a b⟩, i64 0]) (by kernel_rfl) ?_
      have hm : mayE n a b = 0 := by assumption
      exact doneEq (by unfold doCopy; rw [if_pos hm, if_neg hs]; rfl)
    · repeat' ((conv => whnf); (fail_if_success refine zC ?_); first | refine zSd ?_ | refine zB (fun h hs => ?_) (fun h hs => ?_) <;> try exact hs.elim | refine .inl ⟨_, _, c_Writes_copy ha hb, ?_⟩ | exact zEwf | refine zZwf ?_ | fail)
      refine Eq.trans (b := AV.tup [eDone ⟨doneC clock l a b, doneL clock l a b, .empty, true, 0, 0⟩, i64 0]) (by kernel_rfl) ?_
      have hm : mayE n a b = 0 := by assumption
      exact doneEq (by unfold doCopy; rw [if_pos hm, if_pos hs])
end Go.Proofs.YtepdiooaoegpfaaGreatDoor.Fx
end
