/- Written by programs of this session: laws and contracts that the law's proof stands on, merged into one text. Conditions: none beyond those in each statement. -/
import Derived.Test.YtepdiooaoegpfaaGreatDoorPkFx11
import Derived.Test.YtepdiooaoegpfaaGreatDoorPkFx12
import Derived.Test.YtepdiooaoegpfaaGreatDoorPkFx9
import Derived.Test.YtepdiooaoegpfaaGreatDoorPkFx3
import Derived.Test.YtepdiooaoegpfaaGreatDoorPkFx4
section
/- Words, and lines, as commands: the program and the document answer the same. Conditions: those in each statement. -/
namespace Go.Proofs.YtepdiooaoegpfaaGreatDoor.Fx
open Go Go.Proofs Go.Ev Go.RowKit Go.Proofs.YtepdiooaoegpfaaGreatDoor.Sup
set_option maxRecDepth 100000
set_option maxHeartbeats 1600000
set_option linter.unusedSimpArgs false
set_option linter.unusedVariables false
abbrev SzW (ws : List ByteArray) : Prop := ∀ i, i < ws.length → (ws.getD i .empty).size ≤ 140737488355328
theorem len2 {l : List ByteArray} (h : (l.length : Int) = 2) : ∃ a b, l = [a, b] := by
  match l, h with
  | [a, b], _ => exact ⟨a, b, rfl⟩
theorem len1 {l : List ByteArray} (h : (l.length : Int) = 1) : ∃ a, l = [a] := by
  match l, h with
  | [a], _ => exact ⟨a, rfl⟩
theorem lenS {l : List ByteArray} (h : 1 ≤ (l.length : Int)) : ∃ a r, l = a :: r := by
  match l, h with
  | a :: r, _ => exact ⟨a, r, rfl⟩
/-- What operands may stand behind an operation. -/
theorem shapes {w : ByteArray} {l : List ByteArray} (hm : manyOk (opFrom w 1 8) l.length = true) : (∃ a b, opFrom w 1 8 = 1 ∧ l = [a, b]) ∨ (∃ d src, opFrom w 1 8 = 2 ∧ l = d :: src ∧ 1 ≤ src.length ∧ src.length ≤ 64) ∨ (∃ d ws, opFrom w 1 8 = 3 ∧ l = d :: ws ∧ ws.length ≤ 512) ∨ (∃ d, opFrom w 1 8 = 4 ∧ l = [d]) ∨ (∃ d, opFrom w 1 8 = 5 ∧ l = [d]) ∨ (∃ s, opFrom w 1 8 = 6 ∧ l = [s]) ∨ (opFrom w 1 8 = 7 ∧ l = []) ∨ (∃ s, opFrom w 1 8 = 7 ∧ l = [s]) ∨ (opFrom w 1 8 = 8 ∧ l.length ≤ 512) := by
  rcases opFrom_cases w with h | h | h | h | h | h | h | h | h <;> rw [h] at hm ⊢ <;> simp [manyOk] at hm
  · obtain ⟨a, b, rfl⟩ := len2 (l := l) (by omega)
    exact .inl ⟨a, b, rfl, rfl⟩
  · obtain ⟨a, r, rfl⟩ := lenS (l := l) (by omega)
    simp only [List.length_cons] at hm
    exact .inr (.inl ⟨a, r, rfl, rfl, by omega, by omega⟩)
  · obtain ⟨a, r, rfl⟩ := lenS (l := l) (by omega)
    simp only [List.length_cons] at hm
    exact .inr (.inr (.inl ⟨a, r, rfl, rfl, by omega⟩))
  · obtain ⟨a, rfl⟩ := len1 (l := l) (by omega)
    exact .inr (.inr (.inr (.inl ⟨a, rfl, rfl⟩)))
  · obtain ⟨a, rfl⟩ := len1 (l := l) (by omega)
    exact .inr (.inr (.inr (.inr (.inl ⟨a, rfl, rfl⟩))))
  · obtain ⟨a, rfl⟩ := len1 (l := l) (by omega)
    exact .inr (.inr (.inr (.inr (.inr (.inl ⟨a, rfl, rfl⟩)))))
  · match l, hm with
    | [], _ => exact .inr (.inr (.inr (.inr (.inr (.inr (.inl ⟨rfl, rfl⟩))))))
    | [s], _ => exact .inr (.inr (.inr (.inr (.inr (.inr (.inr (.inl ⟨s, rfl, rfl⟩)))))))
    | _ :: _ :: _, h => simp only [List.length_cons] at h; omega
  · exact .inr (.inr (.inr (.inr (.inr (.inr (.inr (.inr ⟨rfl, by omega⟩)))))))
theorem SzW.tail {w : ByteArray} {l : List ByteArray} (h : SzW (w :: l)) : SzW l := fun i hi => h (i + 1) (by simpa using hi)
theorem SzW.head {w : ByteArray} {l : List ByteArray} (h : SzW (w :: l)) : w.size ≤ 140737488355328 := h 0 (by simp)
theorem c_ref16_Parse {ws : List ByteArray} (hz : SzW ws) : XPure Tryz.prog 79 [eS ws] (.tup [(parseC ws).av, i64 (parseE ws)]) false := by
  by_cases hl : 514 < ws.length
  · exact rP_long hl
  cases ws with
  | nil => exact rP_nil
  | cons w l =>
    simp only [List.length_cons] at hl
    have hz' := hz.tail
    cases hm : manyOk (opFrom w 1 8) l.length with
    | false => exact rP_bad (by omega) rfl hm
    | true =>
      rcases shapes hm with ⟨a, b, ho, rfl⟩ | ⟨d, src, ho, rfl, h1, h2⟩ | ⟨d, ws, ho, rfl, h2⟩ | ⟨d, ho, rfl⟩ | ⟨d, ho, rfl⟩ | ⟨s, ho, rfl⟩ | ⟨ho, rfl⟩ | ⟨s, ho, rfl⟩ | ⟨ho, h2⟩
      · exact rP_1 ho hz'.head hz'.tail.head
      · exact rP_2 ho h1 h2 hz'.head hz'.tail
      · exact rP_3 ho h2 hz'.head
      · exact rP_4 ho hz'.head
      · exact rP_5 ho hz'.head
      · exact rP_6 ho hz'.head
      · exact rP_7a ho
      · exact rP_7b ho hz'.head
      · exact rP_8 ho h2
theorem c_cmd_Parse {ws : List ByteArray} (hz : SzW ws) : XPure Tryz.prog 67 [eS ws] (.tup [(parseC ws).av, i64 (parseE ws)]) false := by
  by_cases hl : 514 < ws.length
  · exact cP_long hl
  cases ws with
  | nil => exact cP_nil
  | cons w l =>
    simp only [List.length_cons] at hl
    have hz' := hz.tail
    cases hm : manyOk (opFrom w 1 8) l.length with
    | false => exact cP_bad (by omega) rfl hm
    | true =>
      rcases shapes hm with ⟨a, b, ho, rfl⟩ | ⟨d, src, ho, rfl, h1, h2⟩ | ⟨d, ws, ho, rfl, h2⟩ | ⟨d, ho, rfl⟩ | ⟨d, ho, rfl⟩ | ⟨s, ho, rfl⟩ | ⟨ho, rfl⟩ | ⟨s, ho, rfl⟩ | ⟨ho, h2⟩
      · exact cP_1 ho hz'.head hz'.tail.head
      · exact cP_2 ho h1 h2 hz'.head hz'.tail
      · exact cP_3 ho h2 hz'.head
      · exact cP_4 ho hz'.head
      · exact cP_5 ho hz'.head
      · exact cP_6 ho hz'.head
      · exact cP_7a ho
      · exact cP_7b ho hz'.head
      · exact cP_8 ho h2
theorem lexq_len : ∀ (l acc : List UInt8) (p : Nat) (w : List UInt8) (q : Nat), lexq l acc p = some (w, q) → w.length ≤ acc.length + l.length
  | [], _, _, _, _, h => by simp [lexq] at h
  | [c], acc, p, w, q, h => by
    rw [lexq_cons] at h
    split at h
    · cases h; simp
    · split at h
      · cases h
      · split at h
        · cases h
        · simp [lexq] at h
  | c :: d :: t, acc, p, w, q, h => by
    rw [lexq_cons] at h
    simp only at h
    split at h
    · cases h; simp
    · split at h
      · cases h
      · split at h
        · split at h
          · have := lexq_len _ _ _ _ _ h; simp only [List.length_cons, List.length_append, List.length_nil] at this ⊢; omega
          · split at h
            · have := lexq_len _ _ _ _ _ h; simp only [List.length_cons, List.length_append, List.length_nil] at this ⊢; omega
            · split at h
              · have := lexq_len _ _ _ _ _ h; simp only [List.length_cons, List.length_append, List.length_nil] at this ⊢; omega
              · cases h
        · have := lexq_len _ _ _ _ _ h; simp only [List.length_cons, List.length_append, List.length_nil] at this ⊢; omega
theorem wordsF_small : ∀ (k : Nat) (s : ByteArray) (i : Nat) (out r : List ByteArray), (∀ x ∈ out, x.size ≤ s.size) → wordsF k s i out = some r → ∀ x ∈ r, x.size ≤ s.size
  | 0, s, i, out, r, h, e => by simp only [wordsF, Option.some.injEq] at e; subst e; exact h
  | k + 1, s, i, out, r, h, e => by
    have app : ∀ y : ByteArray, y.size ≤ s.size → ∀ x ∈ out ++ [y], x.size ≤ s.size := fun y hy x hx => by
      rcases List.mem_append.1 hx with hx | hx
      · exact h x hx
      · rw [List.mem_singleton.1 hx]; exact hy
    rw [wordsF] at e
    split at e
    · split at e
      · exact wordsF_small k s _ out r h e
      · split at e
        · split at e
          · cases e
          · rename_i w q hq
            split at e
            · cases e
            · refine wordsF_small k s _ _ r (app _ ?_) e
              have := lexq_len _ _ _ _ _ hq
              rw [List.length_drop, len_data] at this
              show w.length ≤ s.size
              simp only [List.length_nil] at this
              omega
        · obtain ⟨n, hn⟩ : ∃ n, (if Lib.indexAny (s.extract i s.size).data.toList [32, 9] < 0 then s.size - i else (Lib.indexAny (s.extract i s.size).data.toList [32, 9]).toNat) = n := ⟨_, rfl⟩
          simp only [hn] at e
          split at e
          · cases e
          · refine wordsF_small k s _ _ r (app _ ?_) e
            rw [ByteArray.size_extract]; omega
    · simp only [Option.some.injEq] at e; subst e; exact h
theorem wordsV_small {t : ByteArray} : SzW (wordsV t) := by
  intro i hi
  rw [List.getD_eq_getElem?_getD, List.getElem?_eq_getElem hi]
  have hm : (wordsV t)[i] ∈ wordsV t := List.getElem_mem hi
  revert hm
  generalize (wordsV t)[i] = x
  intro hm
  show x.size ≤ _
  unfold wordsV at hm
  split at hm
  · cases hm
  · cases hL : wordsL t with
    | none => rw [hL] at hm; cases hm
    | some r =>
      rw [hL] at hm
      have := wordsF_small _ _ _ _ _ (by intro x hx; cases hx) hL x hm
      omega
/-- What a line says as a command. -/
@[irreducible] def lineE (t : ByteArray) : Int := if wordsE t = 0 then parseE (wordsV t) else wordsE t
@[irreducible] def lineC (t : ByteArray) : Cm := if wordsE t = 0 then parseC (wordsV t) else Cm.zero
theorem line_good {t : ByteArray} (h : wordsE t = 0) : lineE t = parseE (wordsV t) ∧ lineC t = parseC (wordsV t) := by
  unfold lineE lineC; exact ⟨if_pos h, if_pos h⟩
theorem line_bad {t : ByteArray} {e : Int} (h : wordsE t = e) (he : e ≠ 0) : LeqD (.tup [.agg [i64 0, str ⟨#[]⟩, nilv, nilv, i64 0], i64 e]) (.tup [(lineC t).av, i64 (lineE t)]) := by
  have h1 : lineE t = e := by unfold lineE; rw [if_neg (by rw [h]; exact he), h]
  have h2 : lineC t = Cm.zero := by unfold lineC; rw [if_neg (by rw [h]; exact he)]
  rw [h1, h2]
  repeat' (first | exact LeqD.nil (by decide) | exact LeqD.refl _ | exact LeqDL.refl _ | refine LeqDL.cons ?_ ?_ | refine LeqD.agg ?_ | refine LeqD.tup ?_)
theorem line_ok {t : ByteArray} (h : wordsE t = 0) : LeqD (.tup [(parseC (wordsV t)).av, i64 (parseE (wordsV t))]) (.tup [(lineC t).av, i64 (lineE t)]) := by
  obtain ⟨h1, h2⟩ := line_good h
  rw [h1, h2]; exact LeqD.refl _
theorem c_cmd_Line {t : ByteArray} : XPure Tryz.prog 44 [str t] (.tup [(lineC t).av, i64 (lineE t)]) false := by
  refine XPure.bodyN ⟨_, Tryz.func44, rfl, by kernel_rfl⟩ Tryz.func44 rfl (Nat.le_of_ble_eq_true (by rfl)) (pf_of1 rfl) fun env => ?_
  repeat' ((conv => whnf); (fail_if_success refine zC ?_); first | refine zS ?_ | refine zB (fun h hs => ?_) (fun h hs => ?_) <;> try exact hs.elim | refine .inl ⟨_, _, c_lex_Words, ?_⟩ | refine .inl ⟨_, _, c_cmd_Parse wordsV_small, ?_⟩ | exact zElw | refine zZlw ?_ | fail)
  · exact line_bad rfl hs
  · exact line_ok hs
theorem c_ref16_Line {t : ByteArray} : XPure Tryz.prog 62 [str t] (.tup [(lineC t).av, i64 (lineE t)]) false := by
  refine XPure.bodyN ⟨_, Tryz.func62, rfl, by kernel_rfl⟩ Tryz.func62 rfl (Nat.le_of_ble_eq_true (by rfl)) (pf_of1 rfl) fun env => ?_
  repeat' ((conv => whnf); (fail_if_success refine zC ?_); first | refine zS ?_ | refine zB (fun h hs => ?_) (fun h hs => ?_) <;> try exact hs.elim | refine .inl ⟨_, _, c_ref15_Words, ?_⟩ | refine .inl ⟨_, _, c_ref16_Parse wordsV_small, ?_⟩ | exact zElw | refine zZlw ?_ | fail)
  · exact line_bad (by unfold wordsE; rw [if_pos (by omega)]) (by decide)
  · exact line_bad rfl hs
  · exact line_ok hs
end Go.Proofs.YtepdiooaoegpfaaGreatDoor.Fx
end
section
/- Right commands of every kind: what the program tells of them. Conditions: those in each statement. -/
namespace Go.Proofs.YtepdiooaoegpfaaGreatDoor.Fx
open Go Go.Proofs Go.Ev Go.RowKit
set_option maxRecDepth 100000
set_option maxHeartbeats 1600000
set_option linter.unusedSimpArgs false
set_option linter.unusedVariables false
theorem all1 {d : ByteArray} (h : isName d = true) : [d].all isName = true := by simp [h]
theorem all2 {a b : ByteArray} (ha : isName a = true) (hb : isName b = true) : [a, b].all isName = true := by simp [ha, hb]
theorem e0 {x : Bool} (h : x = true) : errIf x 3 = 0 := by rw [h]; rfl
/-- The value that bears a right command. -/
def ifcOf (c : Cm) : AV :=
  if c.op = 1 then .ifc 155 (.agg [str (c.src.getD 0 .empty), str c.dst])
  else if c.op = 2 then .ifc 157 (.agg [str c.dst, eS c.src])
  else if c.op = 3 then .ifc 159 (.agg [str c.dst, eS c.words])
  else if c.op = 4 then .ifc 161 (.agg [str c.dst])
  else if c.op = 5 then .ifc 162 (.agg [str c.dst])
  else if c.op = 6 then .ifc 164 (.agg [str (c.src.getD 0 .empty)])
  else if c.op = 7 then .ifc 166 (.agg [i64 c.st])
  else .ifc 168 (.agg [eS c.words])
theorem r_copy {a b : ByteArray} (ha : isName a = true) (hb : isName b = true) : XPure Tryz.prog 171 [.agg [str a, str b]] (i64 0) false := by have h := c_copying_right (name_size ha) (name_size hb); rwa [e0 (all2 hb ha)] at h
theorem r_concat {d : ByteArray} {l : List ByteArray} (hd : isName d = true) (h1 : 1 ≤ l.length) (h2 : l.length ≤ 64) (hl : l.all isName = true) : XPure Tryz.prog 176 [.agg [str d, eS l]] (i64 0) false := c_joining_right hd h1 h2 hl
theorem r_echo {d : ByteArray} {w : List ByteArray} (hd : isName d = true) (hw : w.length ≤ 512) : XPure Tryz.prog 183 [.agg [str d, eS w]] (i64 0) false := c_echoing_right hd hw
theorem r_touch {d : ByteArray} (hd : isName d = true) : XPure Tryz.prog 190 [.agg [str d]] (i64 0) false := by have h := c_touching_right (name_size hd); rwa [e0 (all1 hd)] at h
theorem r_remove {d : ByteArray} (hd : isName d = true) : XPure Tryz.prog 195 [.agg [str d]] (i64 0) false := by have h := c_removing_right (name_size hd); rwa [e0 (all1 hd)] at h
theorem r_test {s : ByteArray} (hn : isName s = true) : XPure Tryz.prog 200 [.agg [str s]] (i64 0) false := by have h := c_testing_right (name_size hn); rwa [e0 (all1 hn)] at h
theorem r_fail {n : Int} (h1 : 1 ≤ n) (h2 : n ≤ 255) : XPure Tryz.prog 205 [.agg [i64 n]] (i64 0) false := by have h := c_failing_right (n := n); rwa [if_neg (by omega)] at h
theorem r_say {w : List ByteArray} (hw : w.length ≤ 512) : XPure Tryz.prog 210 [.agg [eS w]] (i64 0) false := by have h := c_saying_right (l := w); rwa [if_neg (by omega)] at h
theorem c_of {c : Cm} (h : Kind c) : XPure Tryz.prog 76 [c.av] (.tup [ifcOf c, i64 0]) false := by
  cases h
  case' concat => rename_i d l hd h1 h2 hl; obtain ⟨x, r, rfl⟩ := lenS (l := l) (by omega)
  case' echo => rename_i d w hd hw
  case' say => rename_i w hw
  all_goals dsimp only [Cm.av]
  all_goals
    refine XPure.body ⟨_, Tryz.func76, rfl, by kernel_rfl⟩ Tryz.func76 rfl (Nat.le_of_ble_eq_true (by rfl)) (pf_of1 rfl) fun env => ?_
    repeat' ((conv => whnf); (fail_if_success refine zC ?_); first | refine zSm ?_ | refine zB (fun h hs => ?_) (fun h hs => ?_) <;> try exact hs.elim | refine .inl ⟨_, _, c_CloneN (l := x :: r) (by omega) okL, ?_⟩ | refine .inl ⟨_, _, c_CloneN (l := w) (by omega) okL, ?_⟩ | exact zE | refine zZ ?_ | fail)
theorem c_told {c : Cm} (h : Kind c) : XPure Tryz.prog 54 [c.av] (.tup [ifcOf c, i64 0]) false := by
  have hO := c_of h
  cases h
  all_goals dsimp only [Cm.av]
  all_goals
    refine XPure.body ⟨_, Tryz.func54, rfl, by kernel_rfl⟩ Tryz.func54 rfl (Nat.le_of_ble_eq_true (by rfl)) (pf_of1 rfl) fun env => ?_
    repeat' ((conv => whnf); (fail_if_success refine zC ?_); first | refine zSd ?_ | refine zB (fun h hs => ?_) (fun h hs => ?_) <;> try exact hs.elim | refine .inl ⟨_, _, hO, ?_⟩ | refine .inl ⟨_, _, r_copy (by assumption) (by assumption), ?_⟩ | refine .inl ⟨_, _, r_concat (by assumption) (by assumption) (by assumption) (by assumption), ?_⟩ | refine .inl ⟨_, _, r_echo (by assumption) (by assumption), ?_⟩ | refine .inl ⟨_, _, r_touch (by assumption), ?_⟩ | refine .inl ⟨_, _, r_remove (by assumption), ?_⟩ | refine .inl ⟨_, _, r_test (by assumption), ?_⟩ | refine .inl ⟨_, _, r_fail (by assumption) (by assumption), ?_⟩ | refine .inl ⟨_, _, r_say (by assumption), ?_⟩ | exact zE | refine zZ ?_ | fail)
/-- The files that a right command reads, without doubles. -/
def readsOf (c : Cm) : List ByteArray := if c.op = 2 then uniqGo [] c.src else c.src
def wrOf (c : Cm) : Bool := decide (1 ≤ c.op) && decide (c.op ≤ 5)
theorem c_Reads {c : Cm} (h : Kind c) : XPure Tryz.prog 45 [c.av] (.tup [eS (readsOf c), i64 0]) false := by
  have hO := c_told h
  cases h
  all_goals dsimp only [Cm.av]
  all_goals
    refine XPure.body ⟨_, Tryz.func45, rfl, by kernel_rfl⟩ Tryz.func45 rfl (Nat.le_of_ble_eq_true (by rfl)) (pf_of1 rfl) fun env => ?_
    repeat' ((conv => whnf); (fail_if_success refine zC ?_); first | refine zSd ?_ | refine zB (fun h hs => ?_) (fun h hs => ?_) <;> try exact hs.elim | refine .inl ⟨_, _, hO, ?_⟩ | refine .inl ⟨_, _, c_copying_reads, ?_⟩ | refine .inl ⟨_, _, c_joining_reads (by first | omega | (dsimp only; omega)), ?_⟩ | refine .inl ⟨_, _, c_echoing_reads, ?_⟩ | refine .inl ⟨_, _, c_touching_reads, ?_⟩ | refine .inl ⟨_, _, c_removing_reads, ?_⟩ | refine .inl ⟨_, _, c_testing_reads, ?_⟩ | refine .inl ⟨_, _, c_failing_reads, ?_⟩ | refine .inl ⟨_, _, c_saying_reads, ?_⟩ | exact zE | refine zZ ?_ | fail)
theorem c_Writes {c : Cm} (h : Kind c) : XPure Tryz.prog 31 [c.av] (.tup [str c.dst, bln (wrOf c), i64 0]) false := by
  have hO := c_told h
  cases h
  all_goals dsimp only [Cm.av]
  all_goals
    refine XPure.body ⟨_, Tryz.func31, rfl, by kernel_rfl⟩ Tryz.func31 rfl (Nat.le_of_ble_eq_true (by rfl)) (pf_of1 rfl) fun env => ?_
    repeat' ((conv => whnf); (fail_if_success refine zC ?_); first | refine zSd ?_ | refine zB (fun h hs => ?_) (fun h hs => ?_) <;> try exact hs.elim | refine .inl ⟨_, _, hO, ?_⟩ | refine .inl ⟨_, _, c_copying_writes, ?_⟩ | refine .inl ⟨_, _, c_joining_writes, ?_⟩ | refine .inl ⟨_, _, c_echoing_writes, ?_⟩ | refine .inl ⟨_, _, c_touching_writes, ?_⟩ | refine .inl ⟨_, _, c_removing_writes, ?_⟩ | refine .inl ⟨_, _, c_testing_writes, ?_⟩ | refine .inl ⟨_, _, c_failing_writes, ?_⟩ | refine .inl ⟨_, _, c_saying_writes, ?_⟩ | exact zE | refine zZ ?_ | fail)
theorem told_echo {d : ByteArray} {w : List ByteArray} (hd : isName d = true) (hw : w.length ≤ 512) : XPure Tryz.prog 54 [eC 3 d [] w 0] (.tup [.ifc 159 (.agg [str d, eS w]), i64 0]) false := c_told (.echo hd hw)
end Go.Proofs.YtepdiooaoegpfaaGreatDoor.Fx
end
section
/- Names, nodes and plans. Conditions: those in each statement. -/
namespace Go.Proofs.YtepdiooaoegpfaaGreatDoor.Fx
open Go Go.Proofs Go.Ev Go.RowKit
set_option maxRecDepth 100000
set_option maxHeartbeats 1600000
set_option linter.unusedSimpArgs false
set_option linter.unusedVariables false
theorem c_ref12_Node {n : Node} (hz : SzN n) : XPure Tryz.prog 17 [eN n] (i64 (errIf (nodeOk n) 7)) false := by
  have hn1 := hz.needs.1
  have hn2 := hz.recipe.1
  refine XPure.body ⟨_, Tryz.func17, rfl, by kernel_rfl⟩ Tryz.func17 rfl (Nat.le_of_ble_eq_true (by rfl)) (pf_of1 rfl) fun env => ?_
  repeat' ((conv => whnf); (fail_if_success refine zC ?_); first | refine zS ?_ | refine zB (fun h hs => ?_) (fun h hs => ?_) <;> try exact hs.elim | refine .inl ⟨_, _, c_ref02_Name hz.target, ?_⟩ | exact zE | refine zZ ?_ | fail)
  all_goals try (have e : nodeOk n = false := by rw [← Bool.not_eq_true]; simp only [nodeOk, Bool.and_eq_true, nodeIn_iff]; simp only [cs, reduceCtorEq, Int.reduceEq, Int.reduceNe, Int.reduceLT, Int.reduceLE, Int.reduceBEq, Int.reduceBNe] at *; grind)
  all_goals try (rw [e]; rfl)
  all_goals have hF : isName n.target = true ∧ n.needs.length ≤ 65 ∧ n.recipe.length ≤ 64 ∧ (n.has = true ∨ n.recipe.length = 0) := by simp only [cs, reduceCtorEq, Int.reduceEq, Int.reduceNe, Int.reduceLT, Int.reduceLE, Int.reduceBEq, Int.reduceBNe] at *; grind
  all_goals clear h hs
  all_goals refine XW.countL n.needs.length [1] (fun i => [(3, i64 i)]) (fun _ => []) (fun _ => [.cells (eN n).leaves []]) (fun i => needsOk (fun x => !beqS x n.target) [] n.needs = needsOk (fun x => !beqS x n.target) (n.needs.take i) (n.needs.drop i)) Weak.go rfl ?_
  all_goals
    intro i hi hA
    refine codeS ?_
    repeat' ((conv => whnf); (fail_if_success refine zC ?_); first | refine zS ?_ | refine zB (fun h hs => ?_) (fun h hs => ?_) <;> try exact hs.elim | refine .inl ⟨_, _, c_ref02_Name (hz.needs.at (by omega)), ?_⟩ | refine .inl ⟨_, _, c_ref03_HasT hn1, ?_⟩ | refine XW.dr (m := 29) ?_ | refine XW.dr (m := 34) ?_ | refine ⟨_, _, c_ref02_Name (hz.needs.at (by omega)), ?_⟩ | refine ⟨_, _, c_ref03_HasT hn1, ?_⟩ | exact zE | refine zZ ?_ | rw [getD_mapI (ByteArray.empty) (by omega)] | rw [getD_map (ByteArray.empty) (by omega)] | fail)
    all_goals try (have hi' : i < n.needs.length := by assumption)
    all_goals try simp only [cs, reduceCtorEq, Int.reduceEq, Int.reduceNe, Int.reduceLT, Int.reduceLE, Int.reduceBEq, Int.reduceBNe] at hs
    all_goals try (have e : nodeOk n = false := by unfold nodeOk; rw [hA, needsOk_no hi' (by simp only [cs, reduceCtorEq, Int.reduceEq, Int.reduceNe, Int.reduceLT, Int.reduceLE, Int.reduceBEq, Int.reduceBNe] at *; grind), Bool.and_false])
    all_goals try (rw [e]; rfl)
    all_goals try exact hA.trans (needsOk_yes hi' (by grind) (by grind) (by simp only [cs, reduceCtorEq, Int.reduceEq, Int.reduceNe, Int.reduceLT, Int.reduceLE, Int.reduceBEq, Int.reduceBNe]; grind))
    have hN : needsOk (fun x => !beqS x n.target) [] n.needs = true := by rw [hA, needsOk_end hs]
    refine XW.countL n.recipe.length [1] (fun i => [(4, i64 i)]) (fun _ => []) (fun _ => [.cells (eN n).leaves []]) (fun i => (n.recipe.any fun s => decide ((s.size : Int) > 65536)) = (n.recipe.drop i).any fun s => decide ((s.size : Int) > 65536)) Weak.go rfl ?_
    intro k hk hB
    refine codeS ?_
    repeat' ((conv => whnf); (fail_if_success refine zC ?_); first | refine zS ?_ | refine zB (fun h hs => ?_) (fun h hs => ?_) <;> try exact hs.elim | refine XW.dr (m := 34) ?_ | exact zE | refine zZ ?_ | rw [getD_mapI (ByteArray.empty) (by omega)] | rw [getD_map (ByteArray.empty) (by omega)] | fail)
    all_goals try exact hB.trans (any_no .empty (by assumption) h)
    all_goals try (have e : nodeOk n = false := by rw [← Bool.not_eq_true]; simp only [nodeOk, Bool.and_eq_true, nodeIn_iff]; rw [hB, any_yes .empty (by assumption) h]; simp)
    all_goals try (rw [e]; rfl)
    all_goals have hR : (n.recipe.any fun s => decide ((s.size : Int) > 65536)) = false := by rw [hB, any_end (by assumption)]
    all_goals have hE0 : ByteArray.empty.size = 0 := rfl
    all_goals simp only [cs, reduceCtorEq, Int.reduceEq, Int.reduceNe, Int.reduceLT, Int.reduceLE, Int.reduceBEq, Int.reduceBNe] at *
    all_goals try (have e : nodeOk n = false := by rw [← Bool.not_eq_true]; simp only [nodeOk, Bool.and_eq_true, nodeIn_iff]; grind)
    all_goals try (rw [e]; rfl)
    all_goals try (have e : nodeOk n = true := by simp only [nodeOk, Bool.and_eq_true, nodeIn_iff]; grind)
    all_goals try (rw [e]; rfl)
end Go.Proofs.YtepdiooaoegpfaaGreatDoor.Fx
end
section
/- A target by itself. Conditions: those in each statement. -/
namespace Go.Proofs.YtepdiooaoegpfaaGreatDoor.Fx
open Go Go.Proofs Go.Ev Go.RowKit
set_option maxRecDepth 100000
set_option maxHeartbeats 1600000
set_option linter.unusedSimpArgs false
set_option linter.unusedVariables false
/-- A node of which the target alone is said. -/
abbrev sN (x : ByteArray) : AV := .agg [str x, nilv, nilv, bln false, str .empty, str .empty, bln false, bln false, bln false, bln false]
def bare (x : ByteArray) : Node := { (default : Node) with target := x, needs := [], recipe := [], has := false, source := .empty, stem := .empty, phony := false, precious := false, ignore := false, silent := false }
theorem sN_bare (x : ByteArray) : LeqD (sN x) (eN (bare x)) := by
  repeat' (first | exact LeqD.refl _ | exact LeqDL.refl _ | exact LeqD.nil (by decide) | refine LeqDL.cons ?_ ?_ | refine LeqD.agg ?_)
def aloneOk (n : Node) : Bool := planOk (n.needs.map bare ++ [n]) [n.target]
theorem c_alone {n : Node} (hz : SzN n) : XPure Tryz.prog 25 [eN n] (i64 (errIf (aloneOk n) 7)) false := by
  have hn1 := hz.needs.1
  have hzn : ∀ (i : Nat), ∀ m ∈ (n.needs.take i).map bare ++ [n], SzN m := by
    intro i m hm
    rcases List.mem_append.1 hm with hm | hm
    · obtain ⟨x, hx, rfl⟩ := List.mem_map.1 hm
      exact ⟨hz.needs.2 x (List.mem_of_mem_take hx), ⟨Nat.zero_le _, fun y hy => absurd hy List.not_mem_nil⟩, ⟨Nat.zero_le _, fun y hy => absurd hy List.not_mem_nil⟩⟩
    · obtain rfl := List.mem_singleton.1 hm; exact hz
  have hC : ∀ i : Nat, XPure Tryz.prog 42 [.agg [.sl 10 ((n.needs.take i).map sN ++ [eN n]), .sl 1 [str n.target]]] (i64 (errIf (planOk ((n.needs.take i).map bare ++ [n]) [n.target]) 7)) false := fun i =>
    (c_resolve_Check (goals := [n.target]) (hzn i)).nils (by
      refine LeqDL.cons (LeqD.agg (LeqDL.cons (LeqD.sl ?_) (LeqDL.refl _))) (LeqDL.refl _)
      · rw [List.map_append, List.map_map]
        exact (LeqDL.map sN_bare _).append (LeqDL.refl _))
  refine XPure.body ⟨_, Tryz.func25, rfl, by kernel_rfl⟩ Tryz.func25 rfl (Nat.le_of_ble_eq_true (by rfl)) (pf_of1 rfl) fun env => ?_
  repeat' ((conv => whnf); (fail_if_success refine zC ?_); first | refine zS ?_ | refine zB (fun h hs => ?_) (fun h hs => ?_) <;> try exact hs.elim | exact zE | refine zZ ?_ | fail)
  refine XW.countL n.needs.length [1, 2, 3, 11, 12] (fun i => [(13, i64 i)]) (fun _ => []) (fun i => [.cells (eN n).leaves [], .cells [.sl 10 ((n.needs.take i).map sN), eS [n.target]] [0]]) (fun i => True) Weak.go trivial ?_
  intro i hi hA
  refine codeS ?_
  repeat' ((conv => whnf); first | ((with_reducible show _ ∧ _ ∧ Weak _ _ _); have hM := app_next sN ByteArray.empty ‹i < n.needs.length›; refine ⟨?_, ?_, Weak.go⟩; omega) | refine zS ?_ | refine zB (fun h hs => ?_) (fun h hs => ?_) <;> try exact hs.elim | refine .inl ⟨_, _, hC _, ?_⟩ | exact zE | refine zZ ?_ | rw [getD_mapI (ByteArray.empty) (by omega)] | rw [getD_map (ByteArray.empty) (by omega)] | fail)
  · trivial
  · rw [List.take_of_length_le (by omega)]; rfl
end Go.Proofs.YtepdiooaoegpfaaGreatDoor.Fx
end
section
/- A target by itself, both ways the same. Conditions: those in each statement. -/
namespace Go.Proofs.YtepdiooaoegpfaaGreatDoor.Fx
open Go Go.Proofs Go.Ev Go.RowKit
set_option linter.unusedSimpArgs false
set_option linter.unusedVariables false
theorem needsOk_and {p : ByteArray → Bool} : ∀ (l d : List ByteArray), needsOk p d l = (needsOk (fun _ => true) d l && l.all p)
  | [], _ => rfl
  | x :: r, d => by
    show (isName x && !hasS d x && p x && needsOk p (d ++ [x]) r) = (isName x && !hasS d x && true && needsOk (fun _ => true) (d ++ [x]) r && (p x && r.all p))
    rw [needsOk_and r (d ++ [x])]
    cases isName x <;> cases hasS d x <;> cases p x <;> cases needsOk (fun _ => true) (d ++ [x]) r <;> rfl
theorem nodeIn_bare (x : ByteArray) : nodeIn (bare x) = isName x := by
  unfold nodeIn bare
  simp only [List.length_nil, List.any_nil, beqS_self, cond_true]
  cases isName x <;> rfl
theorem rightN_bare (a : List ByteArray) (x : ByteArray) : rightN a (bare x) = (isName x && !hasS a x) := by
  unfold rightN
  rw [nodeIn_bare]
  show (isName x && !hasS a x && needsOk (hasS a) [] []) = _
  rw [show needsOk (hasS a) [] [] = true from rfl, Bool.and_true]
theorem targets_bare (l : List ByteArray) : targets (l.map bare) = l := by
  unfold targets; rw [List.map_map]
  exact (List.map_congr_left fun x _ => rfl).trans (List.map_id l)
theorem nodesOk_bare : ∀ (l a : List ByteArray), nodesOk a (l.map bare) = needsOk (fun _ => true) a l
  | [], _ => rfl
  | x :: r, a => by
    show (rightN a (bare x) && nodesOk (a ++ [x]) (r.map bare)) = _
    rw [rightN_bare, nodesOk_bare r]
    simp only [needsOk, Bool.and_true]
theorem nodesOk_app : ∀ (l m : List Node) (a : List ByteArray), nodesOk a (l ++ m) = (nodesOk a l && nodesOk (a ++ targets l) m)
  | [], m, a => by simp [nodesOk, targets]
  | n :: l, m, a => by
    show (rightN a n && nodesOk (a ++ [n.target]) (l ++ m)) = (rightN a n && nodesOk (a ++ [n.target]) l && nodesOk (a ++ n.target :: targets l) m)
    rw [nodesOk_app l m, Bool.and_assoc, List.append_assoc]; rfl
theorem all_has (l : List ByteArray) : l.all (hasS l) = true := by
  rw [List.all_eq_true]
  intro x hx
  exact List.any_eq_true.2 ⟨x, hx, beqS_self⟩
theorem all_not (l : List ByteArray) (t : ByteArray) : (l.all fun x => !beqS x t) = !hasS l t := by
  unfold hasS; rw [List.not_any_eq_all_not]
theorem aloneOk_eq (n : Node) : aloneOk n = nodeOk n := by
  unfold aloneOk planOk nodeOk
  rw [nodesOk_app, nodesOk_bare, targets_bare, needsOk_and (p := fun x => !beqS x n.target), all_not]
  have e1 : nodesOk ([] ++ n.needs) [n] = (nodeIn n && !hasS n.needs n.target && needsOk (fun _ => true) [] n.needs) := by
    show (rightN ([] ++ n.needs) n && true) = _
    rw [Bool.and_true, List.nil_append]
    unfold rightN
    rw [needsOk_and (p := hasS n.needs), all_has, Bool.and_true]
  have e2 : goalsOk (targets (n.needs.map bare ++ [n])) [] [n.target] = true := by
    have : hasS (targets (n.needs.map bare ++ [n])) n.target = true := by
      unfold targets hasS
      rw [List.map_append, List.any_append]
      simp [beqS_self]
    show (hasS (targets (n.needs.map bare ++ [n])) n.target && !hasS [] n.target && true) = true
    rw [this]; rfl
  rw [e1, e2]
  cases hn : nodeIn n with
  | false => simp
  | true =>
    have hl : n.needs.length ≤ 65 := (nodeIn_iff.1 hn).2.1
    have : decide ((n.needs.map bare ++ [n]).length ≤ 256) = true := decide_eq_true (by simp; omega)
    rw [this]
    simp only [List.length_cons, List.length_nil, Bool.true_and, Bool.and_true]
    cases needsOk (fun _ => true) [] n.needs <;> cases hasS n.needs n.target <;> rfl
end Go.Proofs.YtepdiooaoegpfaaGreatDoor.Fx
end
