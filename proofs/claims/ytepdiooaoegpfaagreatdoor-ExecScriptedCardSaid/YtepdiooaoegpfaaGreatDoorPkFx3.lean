/- Written by programs of this session: laws and contracts that the law's proof stands on, merged into one text. Conditions: none beyond those in each statement. -/
import Derived.Test.YtepdiooaoegpfaaGreatDoorPkFx2
import Derived.Test.YtepdiooaoegpfaaGreatDoorPkSp1
import Derived.Test.YtepdiooaoegpfaaGreatDoorPkEv3
import Derived.WalkSpells
import Derived.WalkLawsBesides
import Derived.Lib.Builder
import Derived.Lib.Hide
import Derived.Test.YtepdiooaoegpfaaGreatDoorPkFx1
section
/- A file in its place on a disk. Conditions: those in each statement. -/
namespace Go.Proofs.YtepdiooaoegpfaaGreatDoor.Fx
open Go Go.Proofs Go.Ev Go.RowKit
set_option maxRecDepth 100000
set_option maxHeartbeats 12800000
set_option linter.unusedSimpArgs false
set_option linter.unusedVariables false
@[irreducible] def InsN (F : List AV) (env : List Bx) (r : AV) (ow : Bool) (env' : List Bx) : Prop :=
  ow = false ∧ ∃ B' c' new j, pfL B' = true ∧ 1 ≤ c' ∧ c' ≤ 9223372036854775807 ∧ B'.length = c' * 3 ∧ B'.take 3 = F ∧ r = .xs (env.length + j) 0 3 1 c' ∧ env' = env ++ new ∧ new[j]? = some (.cells B' [])
theorem InsN.new {cp j base : Nat} {F B' : List AV} {env own : List Bx} (h1 : pfL B' = true) (h2 : 1 ≤ cp) (h3 : cp ≤ 9223372036854775807) (h4 : B'.length = cp * 3) (h5 : B'.take 3 = F) (h6 : own[j]? = some (.cells B' [])) :
    InsN F env (.xs (env.length + j) 0 3 1 cp) false (env ++ own.map (Bx.up base)) := by
  unfold InsN
  exact ⟨rfl, B', cp, _, j, h1, h2, h3, h4, h5, rfl, rfl, by rw [List.getElem?_map, h6]; simp only [Option.map_some, Bx.up, upL_pf _ _ h1]⟩
theorem call_Insert : Callable Tryz.prog 118 := ⟨_, Tryz.func118, rfl, by kernel_rfl⟩
theorem c_InsertN {q2 : Nat} {F : List AV} {env : List Bx} (h2 : env[q2]? = some (.cells F [])) (hF : F.length = 3) (pF : pfL F = true) :
    XCalls Tryz.prog 118 [nilv, i64 0, .xs q2 0 3 1 1] env (InsN F env) := by
  refine XCalls.bodyB Tryz.func118 rfl (Nat.le_of_ble_eq_true (by rfl)) ?_
  repeat' ((conv => whnf); (fail_if_success (with_reducible show ∃ _, _ ∧ _ ∧ Weak _ _ _)); first
    | ((with_reducible show guardA _ _ _ _ _ _ ∨ _); first
      | (refine .inr ?_; (conv => whnf); refine ⟨_, ?_, fun h => rfl, rfl, ?_⟩; ((conv => whnf); first | exact trivial | (refine ⟨?_, trivial⟩; (first | exact fun h => h | exact fun _ => rfl | exact notF | exact andL | exact andR | exact fun h' => andI h h' | exact fun h' => andN h h'))))
      | (refine .inr ?_; (conv => whnf); refine ⟨_, trivial, fun h => ⟨?_, ?_, ?_, rfl⟩, rfl, ?_⟩; (first | exact h | rfl); (first | exact fun h => h | exact fun _ => rfl | exact notF | exact andL | exact andR | exact fun h' => andI h h' | exact fun h' => andN h h'); (first | exact fun h => h | exact fun _ => rfl | exact notF | exact andL | exact andR | exact fun h' => andI h h' | exact fun h' => andN h h'))
      | (refine .inl ?_; (conv => whnf); first | refine gY (by with_reducible first | rfl | assumption) ?_ | refine gTF (by with_reducible first | rfl | assumption) ?_ | refine gFT (by with_reducible first | rfl | assumption) ?_ | ((first | refine gsT (fun h => ?_) (fun h => ?_) | refine gsF (fun h => ?_) (fun h => ?_)) <;> (have hs := h; try simp only [reduceCtorEq, emptyLit, emptyLit2, Int.reduceEq, Int.reduceNe, Int.reduceLT, Int.reduceLE, Int.reduceBEq, Int.reduceBNe, false_and, and_false, false_or, or_false, true_and, and_true, true_or, or_true, not_true_eq_false, not_false_eq_true, cond_true, cond_false, Int.toNat_natCast, List.length_map, beqS_iff, beqS_no, Bool.cond_true_left, Bool.cond_false_right, Bool.or_eq_true, Bool.or_eq_false_iff, Bool.and_eq_true, Bool.and_eq_false_iff, decide_eq_true_eq, decide_eq_false_iff_not, Bool.not_eq_true', Bool.not_eq_false', beq_iff_eq, bne_iff_ne, beq_eq_false_iff_ne, bne_eq_false_iff_eq, Int.ofNat_lt, Int.ofNat_le, Int.not_lt, Int.not_le, ge_iff_le, gt_iff_lt, ne_eq] at hs)))
      | (refine .inl ?_))
    | refine cTrue (by with_reducible first | rfl | assumption) ?_
    | refine cFalse (by with_reducible first | rfl | assumption) ?_
    | refine gY (by with_reducible first | rfl | assumption) ?_
    | refine gTF (by with_reducible first | rfl | assumption) ?_
    | refine gFT (by with_reducible first | rfl | assumption) ?_
    | ((first | refine gsT (fun h => ?_) (fun h => ?_) | refine gsF (fun h => ?_) (fun h => ?_) | refine ⟨fun h => ?_, fun h => ?_⟩) <;> (have hs := h; try simp only [reduceCtorEq, emptyLit, emptyLit2, Int.reduceEq, Int.reduceNe, Int.reduceLT, Int.reduceLE, Int.reduceBEq, Int.reduceBNe, false_and, and_false, false_or, or_false, true_and, and_true, true_or, or_true, not_true_eq_false, not_false_eq_true, cond_true, cond_false, Int.toNat_natCast, List.length_map, beqS_iff, beqS_no, Bool.cond_true_left, Bool.cond_false_right, Bool.or_eq_true, Bool.or_eq_false_iff, Bool.and_eq_true, Bool.and_eq_false_iff, decide_eq_true_eq, decide_eq_false_iff_not, Bool.not_eq_true', Bool.not_eq_false', beq_iff_eq, bne_iff_ne, beq_eq_false_iff_ne, bne_eq_false_iff_eq, Int.ofNat_lt, Int.ofNat_le, Int.not_lt, Int.not_le, ge_iff_le, gt_iff_lt, ne_eq] at hs))
    | ((with_reducible show _ ∧ _ ∧ Weak _ _ _); refine ⟨?_, ?_, Weak.go⟩; (omega))
    | (rw [h2])
    | ((with_reducible show (_ ∧ _ ∧ _) ∧ _); refine ⟨⟨by kernel_rfl, by kernel_rfl, by rfl⟩, ?_⟩)
    | ((with_reducible show AV.pf _ = true ∧ _); refine ⟨pf_of1 rfl, ?_⟩)
    | (refine ⟨rfl, ?_, ?_, ?_⟩; (first | exact fun h => h | exact fun _ => rfl | exact notF | exact andL | exact andR | exact fun h' => andI h h' | exact fun h' => andN h h'); (first | exact fun h => h | exact fun _ => rfl | exact notF | exact andL | exact andR | exact fun h' => andI h h' | exact fun h' => andN h h'))
    | ((with_reducible show (_ ∨ _) ∧ _ ∧ retA _ _ _ _ _); refine ⟨?_, rfl, ?_⟩; (first | exact .inr rfl | exact .inl rfl))
    | ((with_reducible show _ = _ ∧ _ = false ∧ _ = _); refine ⟨?_, rfl, rfl⟩; try (first | rfl | (conv => lhs; whnf)))
    | ((with_reducible show LeqD _ _); try (first | (repeat' (first | exact LeqD.refl _ | exact LeqDL.refl _ | assumption | exact LeqD.nil (by decide) | refine LeqDL.cons ?_ ?_ | refine LeqD.agg ?_ | refine LeqD.tup ?_ | refine LeqD.sl ?_); done) | (first | rfl | (conv => lhs; whnf))); done)
    | ((with_reducible show _ = _ ∧ (_ → _)); refine ⟨?_, ?_⟩; try (first | rfl | (conv => lhs; whnf)))
    | exact fun h => h
    | exact fun _ => rfl
    | refine ⟨rfl, ?_⟩
    | (refine ⟨Nat.le_of_ble_eq_true rfl, ?_⟩)
    | (refine ⟨?_, ?_, ?_⟩; ((try dsimp only); first | omega | (simp only [s41, b41, List.length_append, List.length_take, List.length_drop]; omega)); ((try dsimp only); first | omega | (simp only [s41, b41, List.length_append, List.length_take, List.length_drop]; omega)))
    | (refine ⟨?_, ?_⟩; ((try dsimp only); first | omega | (simp only [s41, b41, List.length_append, List.length_take, List.length_drop]; omega)))
    | rw [wrapId (by omega) (by omega)]
    | fail)
  · intro c' k1 k2
    repeat' ((conv => whnf); (fail_if_success (with_reducible show ∃ _, _ ∧ _ ∧ Weak _ _ _)); first
      | ((with_reducible show guardA _ _ _ _ _ _ ∨ _); first
        | (refine .inr ?_; (conv => whnf); refine ⟨_, ?_, fun h => rfl, rfl, ?_⟩; ((conv => whnf); first | exact trivial | (refine ⟨?_, trivial⟩; (first | exact fun h => h | exact fun _ => rfl | exact notF | exact andL | exact andR | exact fun h' => andI h h' | exact fun h' => andN h h'))))
        | (refine .inr ?_; (conv => whnf); refine ⟨_, trivial, fun h => ⟨?_, ?_, ?_, rfl⟩, rfl, ?_⟩; (first | exact h | rfl); (first | exact fun h => h | exact fun _ => rfl | exact notF | exact andL | exact andR | exact fun h' => andI h h' | exact fun h' => andN h h'); (first | exact fun h => h | exact fun _ => rfl | exact notF | exact andL | exact andR | exact fun h' => andI h h' | exact fun h' => andN h h'))
        | (refine .inl ?_; (conv => whnf); first | refine gY (by with_reducible first | rfl | assumption) ?_ | refine gTF (by with_reducible first | rfl | assumption) ?_ | refine gFT (by with_reducible first | rfl | assumption) ?_ | ((first | refine gsT (fun h => ?_) (fun h => ?_) | refine gsF (fun h => ?_) (fun h => ?_)) <;> (have hs := h; try simp only [reduceCtorEq, emptyLit, emptyLit2, Int.reduceEq, Int.reduceNe, Int.reduceLT, Int.reduceLE, Int.reduceBEq, Int.reduceBNe, false_and, and_false, false_or, or_false, true_and, and_true, true_or, or_true, not_true_eq_false, not_false_eq_true, cond_true, cond_false, Int.toNat_natCast, List.length_map, beqS_iff, beqS_no, Bool.cond_true_left, Bool.cond_false_right, Bool.or_eq_true, Bool.or_eq_false_iff, Bool.and_eq_true, Bool.and_eq_false_iff, decide_eq_true_eq, decide_eq_false_iff_not, Bool.not_eq_true', Bool.not_eq_false', beq_iff_eq, bne_iff_ne, beq_eq_false_iff_ne, bne_eq_false_iff_eq, Int.ofNat_lt, Int.ofNat_le, Int.not_lt, Int.not_le, ge_iff_le, gt_iff_lt, ne_eq] at hs)))
        | (refine .inl ?_))
      | refine cTrue (by with_reducible first | rfl | assumption) ?_
      | refine cFalse (by with_reducible first | rfl | assumption) ?_
      | refine gY (by with_reducible first | rfl | assumption) ?_
      | refine gTF (by with_reducible first | rfl | assumption) ?_
      | refine gFT (by with_reducible first | rfl | assumption) ?_
      | ((first | refine gsT (fun h => ?_) (fun h => ?_) | refine gsF (fun h => ?_) (fun h => ?_) | refine ⟨fun h => ?_, fun h => ?_⟩) <;> (have hs := h; try simp only [reduceCtorEq, emptyLit, emptyLit2, Int.reduceEq, Int.reduceNe, Int.reduceLT, Int.reduceLE, Int.reduceBEq, Int.reduceBNe, false_and, and_false, false_or, or_false, true_and, and_true, true_or, or_true, not_true_eq_false, not_false_eq_true, cond_true, cond_false, Int.toNat_natCast, List.length_map, beqS_iff, beqS_no, Bool.cond_true_left, Bool.cond_false_right, Bool.or_eq_true, Bool.or_eq_false_iff, Bool.and_eq_true, Bool.and_eq_false_iff, decide_eq_true_eq, decide_eq_false_iff_not, Bool.not_eq_true', Bool.not_eq_false', beq_iff_eq, bne_iff_ne, beq_eq_false_iff_ne, bne_eq_false_iff_eq, Int.ofNat_lt, Int.ofNat_le, Int.not_lt, Int.not_le, ge_iff_le, gt_iff_lt, ne_eq] at hs))
      | ((with_reducible show _ ∧ _ ∧ Weak _ _ _); refine ⟨?_, ?_, Weak.go⟩; (omega))
      | ((with_reducible show (_ ∧ _ ∧ _) ∧ _); refine ⟨⟨by kernel_rfl, by kernel_rfl, by rfl⟩, ?_⟩)
      | ((with_reducible show AV.pf _ = true ∧ _); refine ⟨pf_of1 rfl, ?_⟩)
      | (refine ⟨rfl, ?_, ?_, ?_⟩; (first | exact fun h => h | exact fun _ => rfl | exact notF | exact andL | exact andR | exact fun h' => andI h h' | exact fun h' => andN h h'); (first | exact fun h => h | exact fun _ => rfl | exact notF | exact andL | exact andR | exact fun h' => andI h h' | exact fun h' => andN h h'))
      | ((with_reducible show (_ ∨ _) ∧ _ ∧ retA _ _ _ _ _); refine ⟨?_, rfl, ?_⟩; (first | exact .inr rfl | exact .inl rfl))
      | ((with_reducible show _ = _ ∧ _ = false ∧ _ = _); refine ⟨?_, rfl, rfl⟩; try (first | rfl | (conv => lhs; whnf)))
      | ((with_reducible show LeqD _ _); try (first | (repeat' (first | exact LeqD.refl _ | exact LeqDL.refl _ | assumption | exact LeqD.nil (by decide) | refine LeqDL.cons ?_ ?_ | refine LeqD.agg ?_ | refine LeqD.tup ?_ | refine LeqD.sl ?_); done) | (first | rfl | (conv => lhs; whnf))); done)
      | ((with_reducible show _ = _ ∧ (_ → _)); refine ⟨?_, ?_⟩; try (first | rfl | (conv => lhs; whnf)))
      | exact fun h => h
      | exact fun _ => rfl
      | refine ⟨rfl, ?_⟩
      | (refine ⟨Nat.le_of_ble_eq_true rfl, ?_⟩)
      | (refine ⟨?_, ?_, ?_⟩; (first | (refine sizeOk rfl ?_; simp only [List.length_map, List.length_append, List.length_take, List.length_drop, List.length_cons, List.length_nil]; omega) | omega | (simp only [List.length_map, List.length_append, List.length_take, List.length_drop, List.length_cons, List.length_nil]; omega)); (first | (refine sizeOk rfl ?_; simp only [List.length_map, List.length_append, List.length_take, List.length_drop, List.length_cons, List.length_nil]; omega) | omega | (simp only [List.length_map, List.length_append, List.length_take, List.length_drop, List.length_cons, List.length_nil]; omega)))
      | (refine ⟨?_, ?_⟩; (first | (refine sizeOk rfl ?_; simp only [List.length_map, List.length_append, List.length_take, List.length_drop, List.length_cons, List.length_nil]; omega) | omega | (simp only [List.length_map, List.length_append, List.length_take, List.length_drop, List.length_cons, List.length_nil]; omega)))
      | rw [wrapId (by omega) (by omega)]
      | fail)
    conv => whnf
    refine ⟨.inr rfl, rfl, ?_⟩
    conv => whnf
    refine InsN.new (j := 0) (B' := grownL [] ((F.drop 0).take (1 * 3)) (c' - 1) (.agg #[.string .empty, .string .empty, .int .i64 0])) ?_ k1 k2 ?_ ?_ rfl
    all_goals rw [takeF hF]
    all_goals unfold grownL
    · exact pfL_append (pfL_append rfl pF) (pfL_rep rfl _)
    · simp only [List.length_append, repLen, zl42, hF, List.length_nil]; omega
    · exact List.take_left' (by simpa using hF)
  all_goals exact absurd (rfl : (0 : Int) = ((0 : Nat) : Int)) (by assumption)
/-- What is handed back, in boxes: the file put into the row. -/
theorem c_InsertC {q q2 n cp i : Nat} {B F : List AV} {env : List Bx} (h1 : env[q]? = some (.cells B [])) (h2 : env[q2]? = some (.cells F [])) (hF : F.length = 3) (hq : q ≠ q2) (hB : B.length = cp * 3) (pB : pfL B = true) (pF : pfL F = true) (hn : n ≤ cp) (hn9 : n ≤ 1000000000) (hc : cp ≤ 9223372036854775807) (hi : i ≤ n) :
    XCalls Tryz.prog 118 [.xs q 0 3 n cp, i64 i, .xs q2 0 3 1 1] env fun r ow env' => ow = false ∧ ∃ B' c', pfL B' = true ∧ n + 1 ≤ c' ∧ c' ≤ 9223372036854775807 ∧ B'.length = c' * 3 ∧ B'.take ((n + 1) * 3) = B.take (i * 3) ++ F ++ (B.take (n * 3)).drop (i * 3) ∧
      ((r = .xs q 0 3 (n + 1) c' ∧ env' = env.set q (.cells B' [])) ∨ (r = .xs env.length 0 3 (n + 1) c' ∧ env' = env ++ [.cells B' []])) := by
  refine (c_InsertB h1 h2 hF hq hB pB pF hn hn9 hc hi).only fun r ow env' hR => ?_
  unfold InsR at hR
  obtain ⟨ho, B', c', k1, k2, k3, k4, k5, ⟨k6, k7⟩ | ⟨new, j, k6, k7, k8⟩⟩ := hR
  · exact .inl ⟨ho, B', c', k1, k2, k3, k4, k5, .inl ⟨k6, k7⟩⟩
  · exact .inr ⟨new, j, 0, 3, n + 1, c', B', k7, k6, k8, k1, rfl, B', c', k1, k2, k3, k4, k5, .inr ⟨rfl, rfl⟩⟩
theorem boxUp {c : Cfg} {j : Nat} {B : List AV} (pB : pfL B = true) (h : c.own[j]? = some (.cells B [])) : (c.env ++ c.own.map (Bx.up c.base))[c.base + j]? = some (.cells B []) := by
  rw [List.getElem?_append_right (by simp [Cfg.base]), show c.base + j - c.env.length = j from by simp [Cfg.base], List.getElem?_map, h]
  simp only [Option.map_some, Bx.up, upL_pf _ _ pB]
theorem own_cl {base : Nat} {env own : List Bx} (h : ∀ x ∈ env ++ own, Bx.cl base own.length x) {j : Nat} {B : List AV} (pB : pfL B = true) : ∀ x ∈ env ++ own.set j (.cells B []), Bx.cl base (own.set j (.cells B [])).length x := by
  intro x hx
  rw [List.length_set]
  rcases List.mem_append.1 hx with hx | hx
  · exact h x (List.mem_append_left _ hx)
  · rcases List.mem_or_eq_of_mem_set hx with hx | hx
    · exact h x (List.mem_append_right _ hx)
    · exact (mapUp_self (base := base) pB hx).2
theorem callG_ins {c : Cfg} {dst : Option Tmp} {K : Cfg → Prop} {j j2 n cp i : Nat} {B F : List AV} (h1 : c.own[j]? = some (.cells B [])) (h2 : c.own[j2]? = some (.cells F [])) (hF : F.length = 3) (hq : j ≠ j2) (hB : B.length = cp * 3) (pB : pfL B = true) (pF : pfL F = true) (hn : n ≤ cp) (hn9 : n ≤ 1000000000) (hc : cp ≤ 9223372036854775807) (hi : i ≤ n)
    (k1 : ∀ B' c', pfL B' = true → n + 1 ≤ c' → B'.length = c' * 3 → B'.take ((n + 1) * 3) = B.take (i * 3) ++ F ++ (B.take (n * 3)).drop (i * 3) → K (({ c with own := c.own.set j (.cells B' []) } : Cfg).after dst (.bs j 0 3 (n + 1) c') false))
    (k2 : ∀ B' c', pfL B' = true → n + 1 ≤ c' → B'.length = c' * 3 → B'.take ((n + 1) * 3) = B.take (i * 3) ++ F ++ (B.take (n * 3)).drop (i * 3) → K (({ c with own := c.own ++ [.cells B' []] } : Cfg).after dst (.bs c.own.length 0 3 (n + 1) c') false)) :
    callG Tryz.prog c [.bs j 0 3 n cp, i64 i, .bs j2 0 3 1 1] 118 dst K := by
  unfold callG
  refine ⟨call_Insert, _, c_InsertC (q := c.base + j) (q2 := c.base + j2) (boxUp pB h1) (boxUp pF h2) hF (by omega) hB pB pF hn hn9 hc hi, fun hE hA r ow env' hR => ?_⟩
  obtain ⟨rfl, B', c', q1, q2, q3, q4, q5, ⟨rfl, rfl⟩ | ⟨rfl, rfl⟩⟩ := hR
  · refine ⟨.bs j 0 3 (n + 1) c', c.env, c.own.set j (.cells B' []), rfl, ?_, rfl, ?_, hE, own_cl hA q1, k1 B' c' q1 q2 q4 q5⟩
    · rw [List.set_append_right _ _ (by simp [Cfg.base]), show c.base + j - c.env.length = j from by simp [Cfg.base], List.map_set]
      simp only [Bx.up, upL_pf _ _ q1]
    · simp only [AV.cl, List.length_set]; exact (List.getElem?_eq_some_iff.1 h1).1
  · obtain ⟨m1, m2⟩ := mapUp_self (base := c.base) (m := (c.own ++ [Bx.cells B' []]).length) q1 rfl
    refine ⟨.bs c.own.length 0 3 (n + 1) c', c.env, c.own ++ [.cells B' []], ?_, ?_, rfl, ?_, hE, clAll_app hE hA (fun x hx => ?_), k2 B' c' q1 q2 q4 q5⟩
    · simp [AV.up, Cfg.base, Nat.add_comm]
    · simp only [List.map_append, List.map_cons, List.map_nil, m1, List.append_assoc]
    · simp only [AV.cl]; simp
    · rw [List.mem_singleton] at hx; subst hx; exact m2
theorem callG_insN {c : Cfg} {dst : Option Tmp} {K : Cfg → Prop} {j2 : Nat} {F : List AV} (h2 : c.own[j2]? = some (.cells F [])) (hF : F.length = 3) (pF : pfL F = true)
    (k2 : ∀ B' c', pfL B' = true → 1 ≤ c' → B'.length = c' * 3 → B'.take 3 = F → K (({ c with own := c.own ++ [.cells B' []] } : Cfg).after dst (.bs c.own.length 0 3 1 c') false)) :
    callG Tryz.prog c [nilv, i64 0, .bs j2 0 3 1 1] 118 dst K := by
  unfold callG
  have hx := (c_InsertN (q2 := c.base + j2) (boxUp pF h2) hF pF).only (R' := fun r ow env' => ow = false ∧ ∃ B' c', pfL B' = true ∧ 1 ≤ c' ∧ B'.length = c' * 3 ∧ B'.take 3 = F ∧ r = .xs (c.env ++ c.own.map (Bx.up c.base)).length 0 3 1 c' ∧ env' = (c.env ++ c.own.map (Bx.up c.base)) ++ [.cells B' []]) fun r ow env' hR => by
    unfold InsN at hR
    obtain ⟨ho, B', c', new, j, k1, k2, k3, k4, k5, k6, k7, k8⟩ := hR
    exact .inr ⟨new, j, 0, 3, 1, c', B', k7, k6, k8, k1, rfl, B', c', k1, k2, k4, k5, rfl, rfl⟩
  refine ⟨call_Insert, _, hx, fun hE hA r ow env' hR => ?_⟩
  obtain ⟨rfl, B', c', q1, q2, q4, q5, rfl, rfl⟩ := hR
  obtain ⟨m1, m2⟩ := mapUp_self (base := c.base) (m := (c.own ++ [Bx.cells B' []]).length) q1 rfl
  refine ⟨.bs c.own.length 0 3 1 c', c.env, c.own ++ [.cells B' []], ?_, ?_, rfl, ?_, hE, clAll_app hE hA (fun x hx => ?_), k2 B' c' q1 q2 q4 q5⟩
  · simp [AV.up, Cfg.base, Nat.add_comm]
  · simp only [List.map_append, List.map_cons, List.map_nil, m1, List.append_assoc]
  · simp only [AV.cl]; simp
  · rw [List.mem_singleton] at hx; subst hx; exact m2
@[irreducible] def laidE (l : List File) (f : File) : Int := if thereF l f.name = true then 0 else if l.length = 256 then 22 else 0
@[irreducible] def laidL (l : List File) (f : File) : List File := if thereF l f.name = true then l.set (posF l f.name) f else if l.length = 256 then [] else l.take (posF l f.name) ++ f :: l.drop (posF l f.name)
theorem flat_len (l : List File) : ((l.map eF).flatMap AV.leaves).length = l.length * 3 := by rw [(els_F l).len, List.length_map]
theorem flat_take : ∀ (l : List File) (i : Nat), ((l.map eF).flatMap AV.leaves).take (i * 3) = ((l.take i).map eF).flatMap AV.leaves
  | [], i => by simp
  | f :: l, 0 => by simp
  | f :: l, i + 1 => by
    rw [List.map_cons, List.flatMap_cons, List.take_succ_cons, List.map_cons, List.flatMap_cons, ← flat_take l i]
    rw [show (i + 1) * 3 = (eF f).leaves.length + i * 3 from by show (i + 1) * 3 = 3 + i * 3; omega, List.take_length_add_append]
theorem flat_drop : ∀ (l : List File) (i : Nat), ((l.map eF).flatMap AV.leaves).drop (i * 3) = ((l.drop i).map eF).flatMap AV.leaves
  | [], i => by simp
  | f :: l, 0 => by simp
  | f :: l, i + 1 => by
    rw [List.map_cons, List.flatMap_cons, List.drop_succ_cons, ← flat_drop l i]
    rw [show (i + 1) * 3 = (eF f).leaves.length + i * 3 from by show (i + 1) * 3 = 3 + i * 3; omega, List.drop_length_add_append]
theorem shutI_disk {own : List Bx} {j n c1 : Nat} {c c' e e' : Int} {B : List AV} {L l' : List File} (hc : c = c') (he : e = e') (hL : L = l') (h : own[j]? = some (.cells B [])) (hn : n = l'.length) (h9 : l'.length ≤ 1000000000) (hB : l'.length * 3 ≤ B.length) (ht : B.take (n * 3) = (l'.map eF).flatMap AV.leaves) :
    ShutI own (.tup [.agg [i64 c', .bs j 0 3 n c1], i64 e']) (.tup [eD c L, i64 e]) := by
  subst hc he hL
  unfold ShutI
  simp only [ShutQ, ShutQL]
  refine ⟨_, rfl, _, _, rfl, ⟨_, rfl, _, _, rfl, .inl rfl, _, _, rfl, ?_, rfl⟩, _, _, rfl, .inl rfl, rfl⟩
  exact ⟨B, [], L.map eF, h, rfl, by simp [hn], by omega, by omega, by rw [List.drop_zero]; exact ht, els_F L⟩
theorem shutI_none {own : List Bx} {c c' e e' : Int} {L : List File} (hc : c = c') (he : e = e') (hL : L = []) : ShutI own (.tup [.agg [i64 c', nilv], i64 e']) (.tup [eD c L, i64 e]) := by
  subst hc he hL
  unfold ShutI
  simp only [ShutQ, ShutQL]
  exact ⟨_, rfl, _, _, rfl, ⟨_, rfl, _, _, rfl, .inl rfl, _, _, rfl, .inr ⟨3, 0, by decide, rfl, rfl⟩, rfl⟩, _, _, rfl, .inl rfl, rfl⟩
theorem condT {b : Bool} {A : Prop} (hb : b = true) (h : A) : (bif b then A else False) := by rw [hb]; exact h
theorem laidE_yes {l : List File} {f : File} (h : thereF l f.name = true) : laidE l f = 0 ∧ laidL l f = l.set (posF l f.name) f := by simp [laidE, laidL, h]
theorem laidE_full {l : List File} {f : File} (h : thereF l f.name = false) (hl : l.length = 256) : laidE l f = 22 ∧ laidL l f = [] := by simp [laidE, laidL, h, hl]
theorem laidE_no {l : List File} {f : File} (h : thereF l f.name = false) (hl : ¬ l.length = 256) : laidE l f = 0 ∧ laidL l f = l.take (posF l f.name) ++ f :: l.drop (posF l f.name) := by simp [laidE, laidL, h, hl]
theorem flat_ins (l : List File) (f : File) (i : Nat) (zs : List AV) (hi : i ≤ l.length) : ((l.map eF).flatMap AV.leaves ++ zs).take (i * 3) ++ (eF f).leaves ++ (((l.map eF).flatMap AV.leaves ++ zs).take ((l.map eF).length * 3)).drop (i * 3) = ((l.take i ++ f :: l.drop i).map eF).flatMap AV.leaves := by
  have h1 : ((l.map eF).flatMap AV.leaves ++ zs).take (i * 3) = ((l.take i).map eF).flatMap AV.leaves := by
    rw [List.take_append_of_le_length (by rw [flat_len]; omega), flat_take]
  have h2 : ((l.map eF).flatMap AV.leaves ++ zs).take ((l.map eF).length * 3) = (l.map eF).flatMap AV.leaves := by
    rw [List.length_map, ← flat_len l, List.take_left]
  rw [h1, h2, flat_drop]
  simp
theorem flat_set (l : List File) (f : File) (i : Nat) (zs : List AV) (hi : i < l.length) : (wrL ((l.map eF).flatMap AV.leaves ++ zs) (i * 3) (eF f).leaves).take (l.length * 3) = ((l.set i f).map eF).flatMap AV.leaves := by
  have h1 : ((l.map eF).flatMap AV.leaves ++ zs).take (i * 3) = ((l.take i).map eF).flatMap AV.leaves := by
    rw [List.take_append_of_le_length (by rw [flat_len]; omega), flat_take]
  have h2 : ((l.map eF).flatMap AV.leaves ++ zs).drop (i * 3 + (eF f).leaves.length) = ((l.drop (i + 1)).map eF).flatMap AV.leaves ++ zs := by
    rw [show i * 3 + (eF f).leaves.length = (i + 1) * 3 from by show i * 3 + 3 = _; omega, List.drop_append_of_le_length (by rw [flat_len]; omega), flat_drop]
  unfold wrL
  rw [h1, h2, List.set_eq_take_append_cons_drop, if_pos hi]
  rw [← List.append_assoc, List.take_left']
  · simp
  · simp only [List.length_append, flat_len, List.length_take, List.length_drop]; show _ + 3 + _ = _; omega
theorem nilThere {l : List File} {s : ByteArray} (h0 : l.map eF = []) (h : thereF l s = true) : False := by
  obtain rfl : l = [] := by simpa using h0
  cases h
theorem call_laid : Callable Tryz.prog 95 := ⟨_, Tryz.func95, rfl, by kernel_rfl⟩
theorem c_disk_laid {clock : Int} {l : List File} {f : File} (hl : l.length ≤ 256) (hp : l.Pairwise fun a b => ltS a.name b.name = true) : XPure Tryz.prog 95 [eD clock l, eF f] (.tup [eD (if laidE l f = 0 then clock else 0) (laidL l f), i64 (laidE l f)]) false := by
  refine XPure.bodyS call_laid Tryz.func95 rfl (Nat.le_of_ble_eq_true (by rfl)) (pf_of1 rfl) fun env => ?_
  repeat' ((conv => whnf); (fail_if_success (with_reducible show ∃ _, _ ∧ _ ∧ Weak _ _ _)); first
    | ((with_reducible show guardA _ _ _ _ _ _ ∨ _); first
      | (refine .inr ?_; (conv => whnf); refine ⟨_, ?_, fun h => rfl, rfl, ?_⟩; ((conv => whnf); first | exact trivial | (refine ⟨?_, trivial⟩; (first | exact fun h => h | exact fun _ => rfl | exact notF | exact andL | exact andR | exact fun h' => andI h h' | exact fun h' => andN h h'))))
      | (refine .inr ?_; (conv => whnf); refine ⟨_, trivial, fun h => ⟨?_, ?_, ?_, rfl⟩, rfl, ?_⟩; (first | exact h | rfl); (first | exact fun h => h | exact fun _ => rfl | exact notF | exact andL | exact andR | exact fun h' => andI h h' | exact fun h' => andN h h'); (first | exact fun h => h | exact fun _ => rfl | exact notF | exact andL | exact andR | exact fun h' => andI h h' | exact fun h' => andN h h'))
      | (refine .inl ?_; (conv => whnf); first | refine gY (by with_reducible first | rfl | assumption) ?_ | refine gTF (by with_reducible first | rfl | assumption) ?_ | refine gFT (by with_reducible first | rfl | assumption) ?_ | ((first | refine gsT (fun h => ?_) (fun h => ?_) | refine gsF (fun h => ?_) (fun h => ?_)) <;> (have hs := h; try simp only [reduceCtorEq, emptyLit, emptyLit2, Int.reduceEq, Int.reduceNe, Int.reduceLT, Int.reduceLE, Int.reduceBEq, Int.reduceBNe, false_and, and_false, false_or, or_false, true_and, and_true, true_or, or_true, not_true_eq_false, not_false_eq_true, cond_true, cond_false, Int.toNat_natCast, List.length_map, beqS_iff, beqS_no, Bool.cond_true_left, Bool.cond_false_right, Bool.or_eq_true, Bool.or_eq_false_iff, Bool.and_eq_true, Bool.and_eq_false_iff, decide_eq_true_eq, decide_eq_false_iff_not, Bool.not_eq_true', Bool.not_eq_false', beq_iff_eq, bne_iff_ne, beq_eq_false_iff_ne, bne_eq_false_iff_eq, Int.ofNat_lt, Int.ofNat_le, Int.not_lt, Int.not_le, ge_iff_le, gt_iff_lt, ne_eq] at hs)))
      | (refine .inl ?_))
    | refine cTrue (by with_reducible first | rfl | assumption) ?_
    | refine cFalse (by with_reducible first | rfl | assumption) ?_
    | refine gY (by with_reducible first | rfl | assumption) ?_
    | refine gTF (by with_reducible first | rfl | assumption) ?_
    | refine gFT (by with_reducible first | rfl | assumption) ?_
    | ((first | refine gsT (fun h => ?_) (fun h => ?_) | refine gsF (fun h => ?_) (fun h => ?_) | refine ⟨fun h => ?_, fun h => ?_⟩) <;> (have hs := h; try simp only [reduceCtorEq, emptyLit, emptyLit2, Int.reduceEq, Int.reduceNe, Int.reduceLT, Int.reduceLE, Int.reduceBEq, Int.reduceBNe, false_and, and_false, false_or, or_false, true_and, and_true, true_or, or_true, not_true_eq_false, not_false_eq_true, cond_true, cond_false, Int.toNat_natCast, List.length_map, beqS_iff, beqS_no, Bool.cond_true_left, Bool.cond_false_right, Bool.or_eq_true, Bool.or_eq_false_iff, Bool.and_eq_true, Bool.and_eq_false_iff, decide_eq_true_eq, decide_eq_false_iff_not, Bool.not_eq_true', Bool.not_eq_false', beq_iff_eq, bne_iff_ne, beq_eq_false_iff_ne, bne_eq_false_iff_eq, Int.ofNat_lt, Int.ofNat_le, Int.not_lt, Int.not_le, ge_iff_le, gt_iff_lt, ne_eq] at hs))
    | (refine .inl ⟨_, _, c_disk_place hl hp, ?_⟩)
    | ((with_reducible show _ ∧ _ ∧ Weak _ _ _); refine ⟨?_, ?_, Weak.go⟩; (omega))
    | (first | (refine XW.drawW (M := 7) (p := 3) (W := [4, 5, 6]) (by kernel_rfl) (by kernel_rfl) ?_) | ((with_reducible show _ ∧ allW _ _); refine ⟨?_, ?_⟩) | exact trivial | (refine wildA_box call_CloneF rfl (els_F _) (fun env => c_CloneFB (by simp; omega) (els_F _) env) (fun h0 => ?_) (fun cp zs k1 k2 k3 k4 => ?_)) | ((with_reducible show (_ ∨ _) ∧ _ ∧ retB _ _ _ _ _); refine ⟨by first | exact .inr rfl | exact .inl rfl, rfl, ?_⟩) | (refine .inr ?_))
    | ((with_reducible show (_ ∧ _ ∧ _) ∧ _); refine ⟨⟨by kernel_rfl, by kernel_rfl, by rfl⟩, ?_⟩)
    | ((with_reducible show AV.pf _ = true ∧ _); refine ⟨pf_of1 rfl, ?_⟩)
    | (refine ⟨rfl, ?_, ?_, ?_⟩; (first | exact fun h => h | exact fun _ => rfl | exact notF | exact andL | exact andR | exact fun h' => andI h h' | exact fun h' => andN h h'); (first | exact fun h => h | exact fun _ => rfl | exact notF | exact andL | exact andR | exact fun h' => andI h h' | exact fun h' => andN h h'))
    | ((with_reducible show (_ ∨ _) ∧ _ ∧ retA _ _ _ _ _); refine ⟨?_, rfl, ?_⟩; (first | exact .inr rfl | exact .inl rfl))
    | ((with_reducible show _ = _ ∧ _ = false ∧ _ = _); refine ⟨?_, rfl, rfl⟩; try (first | rfl | (conv => lhs; whnf)))
    | ((with_reducible show LeqD _ _); try (first | (repeat' (first | exact LeqD.refl _ | exact LeqDL.refl _ | assumption | exact LeqD.nil (by decide) | refine LeqDL.cons ?_ ?_ | refine LeqD.agg ?_ | refine LeqD.tup ?_ | refine LeqD.sl ?_); done) | (first | rfl | (conv => lhs; whnf))); done)
    | ((with_reducible show _ = _ ∧ (_ → _)); refine ⟨?_, ?_⟩; try (first | rfl | (conv => lhs; whnf)))
    | exact fun h => h
    | exact fun _ => rfl
    | refine ⟨rfl, ?_⟩
    | (refine ⟨Nat.le_of_ble_eq_true rfl, ?_⟩)
    | (refine ⟨?_, ?_, ?_⟩; (first | omega | (have := posF_lt (by assumption); simp only [List.length_map]; omega) | (have := posF_lt (by assumption); simp only [List.length_map, List.length_append, flat_len, k3]; omega)); (first | omega | (have := posF_lt (by assumption); simp only [List.length_map]; omega) | (have := posF_lt (by assumption); simp only [List.length_map, List.length_append, flat_len, k3]; omega)))
    | (refine ⟨?_, ?_⟩; (first | omega | (have := posF_lt (by assumption); simp only [List.length_map]; omega) | (have := posF_lt (by assumption); simp only [List.length_map, List.length_append, flat_len, k3]; omega)))
    | fail)
  iterate 6
    first
    | · exact (nilThere h0 (by assumption)).elim
      · obtain ⟨e1, e2⟩ := laidE_full (l := l) (f := f) (by assumption) (by omega)
        conv => whnf
        refine shutI_none ?_ e1 e2
        rw [e1]; rfl
      · obtain ⟨e1, e2⟩ := laidE_no (l := l) (f := f) (by assumption) (by omega)
        obtain rfl : l = [] := by simpa using h0
        conv => whnf
        refine callG_insN (F := (eF f).leaves) rfl rfl rfl (fun B2 c2 q1 q2 q3 q4 => ?_)
        repeat' ((conv => whnf); (fail_if_success (with_reducible show ∃ _, _ ∧ _ ∧ Weak _ _ _)); first
          | ((with_reducible show guardA _ _ _ _ _ _ ∨ _); first
            | (refine .inr ?_; (conv => whnf); refine ⟨_, ?_, fun h => rfl, rfl, ?_⟩; ((conv => whnf); first | exact trivial | (refine ⟨?_, trivial⟩; (first | exact fun h => h | exact fun _ => rfl | exact notF | exact andL | exact andR | exact fun h' => andI h h' | exact fun h' => andN h h'))))
            | (refine .inr ?_; (conv => whnf); refine ⟨_, trivial, fun h => ⟨?_, ?_, ?_, rfl⟩, rfl, ?_⟩; (first | exact h | rfl); (first | exact fun h => h | exact fun _ => rfl | exact notF | exact andL | exact andR | exact fun h' => andI h h' | exact fun h' => andN h h'); (first | exact fun h => h | exact fun _ => rfl | exact notF | exact andL | exact andR | exact fun h' => andI h h' | exact fun h' => andN h h'))
            | (refine .inl ?_; (conv => whnf); first | refine gY (by with_reducible first | rfl | assumption) ?_ | refine gTF (by with_reducible first | rfl | assumption) ?_ | refine gFT (by with_reducible first | rfl | assumption) ?_ | ((first | refine gsT (fun h => ?_) (fun h => ?_) | refine gsF (fun h => ?_) (fun h => ?_)) <;> (have hs := h; try simp only [reduceCtorEq, emptyLit, emptyLit2, Int.reduceEq, Int.reduceNe, Int.reduceLT, Int.reduceLE, Int.reduceBEq, Int.reduceBNe, false_and, and_false, false_or, or_false, true_and, and_true, true_or, or_true, not_true_eq_false, not_false_eq_true, cond_true, cond_false, Int.toNat_natCast, List.length_map, beqS_iff, beqS_no, Bool.cond_true_left, Bool.cond_false_right, Bool.or_eq_true, Bool.or_eq_false_iff, Bool.and_eq_true, Bool.and_eq_false_iff, decide_eq_true_eq, decide_eq_false_iff_not, Bool.not_eq_true', Bool.not_eq_false', beq_iff_eq, bne_iff_ne, beq_eq_false_iff_ne, bne_eq_false_iff_eq, Int.ofNat_lt, Int.ofNat_le, Int.not_lt, Int.not_le, ge_iff_le, gt_iff_lt, ne_eq] at hs)))
            | (refine .inl ?_))
          | refine cTrue (by with_reducible first | rfl | assumption) ?_
          | refine cFalse (by with_reducible first | rfl | assumption) ?_
          | refine gY (by with_reducible first | rfl | assumption) ?_
          | refine gTF (by with_reducible first | rfl | assumption) ?_
          | refine gFT (by with_reducible first | rfl | assumption) ?_
          | ((first | refine gsT (fun h => ?_) (fun h => ?_) | refine gsF (fun h => ?_) (fun h => ?_) | refine ⟨fun h => ?_, fun h => ?_⟩) <;> (have hs := h; try simp only [reduceCtorEq, emptyLit, emptyLit2, Int.reduceEq, Int.reduceNe, Int.reduceLT, Int.reduceLE, Int.reduceBEq, Int.reduceBNe, false_and, and_false, false_or, or_false, true_and, and_true, true_or, or_true, not_true_eq_false, not_false_eq_true, cond_true, cond_false, Int.toNat_natCast, List.length_map, beqS_iff, beqS_no, Bool.cond_true_left, Bool.cond_false_right, Bool.or_eq_true, Bool.or_eq_false_iff, Bool.and_eq_true, Bool.and_eq_false_iff, decide_eq_true_eq, decide_eq_false_iff_not, Bool.not_eq_true', Bool.not_eq_false', beq_iff_eq, bne_iff_ne, beq_eq_false_iff_ne, bne_eq_false_iff_eq, Int.ofNat_lt, Int.ofNat_le, Int.not_lt, Int.not_le, ge_iff_le, gt_iff_lt, ne_eq] at hs))
          | ((with_reducible show _ ∧ _ ∧ Weak _ _ _); refine ⟨?_, ?_, Weak.go⟩; (omega))
          | ((with_reducible show (_ ∨ _) ∧ _ ∧ retB _ _ _ _ _); refine ⟨by first | exact .inr rfl | exact .inl rfl, rfl, ?_⟩)
          | ((with_reducible show (_ ∧ _ ∧ _) ∧ _); refine ⟨⟨by kernel_rfl, by kernel_rfl, by rfl⟩, ?_⟩)
          | ((with_reducible show AV.pf _ = true ∧ _); refine ⟨pf_of1 rfl, ?_⟩)
          | (refine ⟨rfl, ?_, ?_, ?_⟩; (first | exact fun h => h | exact fun _ => rfl | exact notF | exact andL | exact andR | exact fun h' => andI h h' | exact fun h' => andN h h'); (first | exact fun h => h | exact fun _ => rfl | exact notF | exact andL | exact andR | exact fun h' => andI h h' | exact fun h' => andN h h'))
          | ((with_reducible show (_ ∨ _) ∧ _ ∧ retA _ _ _ _ _); refine ⟨?_, rfl, ?_⟩; (first | exact .inr rfl | exact .inl rfl))
          | ((with_reducible show _ = _ ∧ _ = false ∧ _ = _); refine ⟨?_, rfl, rfl⟩; try (first | rfl | (conv => lhs; whnf)))
          | ((with_reducible show LeqD _ _); try (first | (repeat' (first | exact LeqD.refl _ | exact LeqDL.refl _ | assumption | exact LeqD.nil (by decide) | refine LeqDL.cons ?_ ?_ | refine LeqD.agg ?_ | refine LeqD.tup ?_ | refine LeqD.sl ?_); done) | (first | rfl | (conv => lhs; whnf))); done)
          | ((with_reducible show _ = _ ∧ (_ → _)); refine ⟨?_, ?_⟩; try (first | rfl | (conv => lhs; whnf)))
          | exact fun h => h
          | exact fun _ => rfl
          | refine ⟨rfl, ?_⟩
          | (refine ⟨Nat.le_of_ble_eq_true rfl, ?_⟩)
          | (refine ⟨?_, ?_, ?_⟩; (first | (refine sizeOk rfl ?_; simp only [List.length_map, List.length_append, List.length_take, List.length_drop, List.length_cons, List.length_nil]; omega) | omega | (simp only [List.length_map, List.length_append, List.length_take, List.length_drop, List.length_cons, List.length_nil]; omega)); (first | (refine sizeOk rfl ?_; simp only [List.length_map, List.length_append, List.length_take, List.length_drop, List.length_cons, List.length_nil]; omega) | omega | (simp only [List.length_map, List.length_append, List.length_take, List.length_drop, List.length_cons, List.length_nil]; omega)))
          | (refine ⟨?_, ?_⟩; (first | (refine sizeOk rfl ?_; simp only [List.length_map, List.length_append, List.length_take, List.length_drop, List.length_cons, List.length_nil]; omega) | omega | (simp only [List.length_map, List.length_append, List.length_take, List.length_drop, List.length_cons, List.length_nil]; omega)))
          | fail)
        conv => whnf
        refine shutI_disk (by rw [e1]; rfl) e1 e2 rfl rfl (by simp) ?_ ?_
        · show 1 * 3 ≤ _; omega
        · exact q4
    | · conv => whnf
        refine condT (Nat.ble_eq_true_of_le (show 0 + posF l f.name * 3 + 3 ≤ ((l.map eF).flatMap AV.leaves ++ zs).length from ?_)) ?_
        · have := posF_lt (l := l) (s := f.name) (by assumption)
          rw [k3]; simp only [List.length_map] at k1; omega
        · obtain ⟨e1, e2⟩ := laidE_yes (l := l) (f := f) (by assumption)
          repeat' ((conv => whnf); (fail_if_success (with_reducible show ∃ _, _ ∧ _ ∧ Weak _ _ _)); first
            | ((with_reducible show guardA _ _ _ _ _ _ ∨ _); first
              | (refine .inr ?_; (conv => whnf); refine ⟨_, ?_, fun h => rfl, rfl, ?_⟩; ((conv => whnf); first | exact trivial | (refine ⟨?_, trivial⟩; (first | exact fun h => h | exact fun _ => rfl | exact notF | exact andL | exact andR | exact fun h' => andI h h' | exact fun h' => andN h h'))))
              | (refine .inr ?_; (conv => whnf); refine ⟨_, trivial, fun h => ⟨?_, ?_, ?_, rfl⟩, rfl, ?_⟩; (first | exact h | rfl); (first | exact fun h => h | exact fun _ => rfl | exact notF | exact andL | exact andR | exact fun h' => andI h h' | exact fun h' => andN h h'); (first | exact fun h => h | exact fun _ => rfl | exact notF | exact andL | exact andR | exact fun h' => andI h h' | exact fun h' => andN h h'))
              | (refine .inl ?_; (conv => whnf); first | refine gY (by with_reducible first | rfl | assumption) ?_ | refine gTF (by with_reducible first | rfl | assumption) ?_ | refine gFT (by with_reducible first | rfl | assumption) ?_ | ((first | refine gsT (fun h => ?_) (fun h => ?_) | refine gsF (fun h => ?_) (fun h => ?_)) <;> (have hs := h; try simp only [reduceCtorEq, emptyLit, emptyLit2, Int.reduceEq, Int.reduceNe, Int.reduceLT, Int.reduceLE, Int.reduceBEq, Int.reduceBNe, false_and, and_false, false_or, or_false, true_and, and_true, true_or, or_true, not_true_eq_false, not_false_eq_true, cond_true, cond_false, Int.toNat_natCast, List.length_map, beqS_iff, beqS_no, Bool.cond_true_left, Bool.cond_false_right, Bool.or_eq_true, Bool.or_eq_false_iff, Bool.and_eq_true, Bool.and_eq_false_iff, decide_eq_true_eq, decide_eq_false_iff_not, Bool.not_eq_true', Bool.not_eq_false', beq_iff_eq, bne_iff_ne, beq_eq_false_iff_ne, bne_eq_false_iff_eq, Int.ofNat_lt, Int.ofNat_le, Int.not_lt, Int.not_le, ge_iff_le, gt_iff_lt, ne_eq] at hs)))
              | (refine .inl ?_))
            | refine cTrue (by with_reducible first | rfl | assumption) ?_
            | refine cFalse (by with_reducible first | rfl | assumption) ?_
            | refine gY (by with_reducible first | rfl | assumption) ?_
            | refine gTF (by with_reducible first | rfl | assumption) ?_
            | refine gFT (by with_reducible first | rfl | assumption) ?_
            | ((first | refine gsT (fun h => ?_) (fun h => ?_) | refine gsF (fun h => ?_) (fun h => ?_) | refine ⟨fun h => ?_, fun h => ?_⟩) <;> (have hs := h; try simp only [reduceCtorEq, emptyLit, emptyLit2, Int.reduceEq, Int.reduceNe, Int.reduceLT, Int.reduceLE, Int.reduceBEq, Int.reduceBNe, false_and, and_false, false_or, or_false, true_and, and_true, true_or, or_true, not_true_eq_false, not_false_eq_true, cond_true, cond_false, Int.toNat_natCast, List.length_map, beqS_iff, beqS_no, Bool.cond_true_left, Bool.cond_false_right, Bool.or_eq_true, Bool.or_eq_false_iff, Bool.and_eq_true, Bool.and_eq_false_iff, decide_eq_true_eq, decide_eq_false_iff_not, Bool.not_eq_true', Bool.not_eq_false', beq_iff_eq, bne_iff_ne, beq_eq_false_iff_ne, bne_eq_false_iff_eq, Int.ofNat_lt, Int.ofNat_le, Int.not_lt, Int.not_le, ge_iff_le, gt_iff_lt, ne_eq] at hs))
            | ((with_reducible show _ ∧ _ ∧ Weak _ _ _); refine ⟨?_, ?_, Weak.go⟩; (omega))
            | ((with_reducible show (_ ∨ _) ∧ _ ∧ retB _ _ _ _ _); refine ⟨by first | exact .inr rfl | exact .inl rfl, rfl, ?_⟩)
            | ((with_reducible show (_ ∧ _ ∧ _) ∧ _); refine ⟨⟨by kernel_rfl, by kernel_rfl, by rfl⟩, ?_⟩)
            | ((with_reducible show AV.pf _ = true ∧ _); refine ⟨pf_of1 rfl, ?_⟩)
            | (refine ⟨rfl, ?_, ?_, ?_⟩; (first | exact fun h => h | exact fun _ => rfl | exact notF | exact andL | exact andR | exact fun h' => andI h h' | exact fun h' => andN h h'); (first | exact fun h => h | exact fun _ => rfl | exact notF | exact andL | exact andR | exact fun h' => andI h h' | exact fun h' => andN h h'))
            | ((with_reducible show (_ ∨ _) ∧ _ ∧ retA _ _ _ _ _); refine ⟨?_, rfl, ?_⟩; (first | exact .inr rfl | exact .inl rfl))
            | ((with_reducible show _ = _ ∧ _ = false ∧ _ = _); refine ⟨?_, rfl, rfl⟩; try (first | rfl | (conv => lhs; whnf)))
            | ((with_reducible show LeqD _ _); try (first | (repeat' (first | exact LeqD.refl _ | exact LeqDL.refl _ | assumption | exact LeqD.nil (by decide) | refine LeqDL.cons ?_ ?_ | refine LeqD.agg ?_ | refine LeqD.tup ?_ | refine LeqD.sl ?_); done) | (first | rfl | (conv => lhs; whnf))); done)
            | ((with_reducible show _ = _ ∧ (_ → _)); refine ⟨?_, ?_⟩; try (first | rfl | (conv => lhs; whnf)))
            | exact fun h => h
            | exact fun _ => rfl
            | refine ⟨rfl, ?_⟩
            | (refine ⟨Nat.le_of_ble_eq_true rfl, ?_⟩)
            | (refine ⟨?_, ?_, ?_⟩; (first | (refine sizeOk rfl ?_; simp only [List.length_map, List.length_append, List.length_take, List.length_drop, List.length_cons, List.length_nil]; omega) | omega | (simp only [List.length_map, List.length_append, List.length_take, List.length_drop, List.length_cons, List.length_nil]; omega)); (first | (refine sizeOk rfl ?_; simp only [List.length_map, List.length_append, List.length_take, List.length_drop, List.length_cons, List.length_nil]; omega) | omega | (simp only [List.length_map, List.length_append, List.length_take, List.length_drop, List.length_cons, List.length_nil]; omega)))
            | (refine ⟨?_, ?_⟩; (first | (refine sizeOk rfl ?_; simp only [List.length_map, List.length_append, List.length_take, List.length_drop, List.length_cons, List.length_nil]; omega) | omega | (simp only [List.length_map, List.length_append, List.length_take, List.length_drop, List.length_cons, List.length_nil]; omega)))
            | fail)
          conv => whnf
          refine shutI_disk (by rw [e1]; rfl) e1 e2 rfl (by simp) (by simp; omega) ?_ ?_
          · show (l.set (posF l f.name) f).length * 3 ≤ (wrL ((l.map eF).flatMap AV.leaves ++ zs) (0 + posF l f.name * 3) (eF f).leaves).length
            rw [wrL_len (by have := posF_lt (l := l) (s := f.name) (by assumption); rw [k3]; simp only [List.length_map] at k1; show _ + 3 ≤ _; omega), k3, List.length_set]
            simp only [List.length_map] at k1; omega
          · show (wrL ((l.map eF).flatMap AV.leaves ++ zs) (0 + posF l f.name * 3) (eF f).leaves).take ((l.map eF).length * 3) = _
            rw [Nat.zero_add, List.length_map]
            exact flat_set l f _ zs (posF_lt (by assumption))
      · obtain ⟨e1, e2⟩ := laidE_full (l := l) (f := f) (by assumption) (by omega)
        conv => whnf
        refine shutI_none ?_ e1 e2
        rw [e1]; rfl
      · obtain ⟨e1, e2⟩ := laidE_no (l := l) (f := f) (by assumption) (by omega)
        conv => whnf
        refine callG_ins (B := (l.map eF).flatMap AV.leaves ++ zs) (F := (eF f).leaves) rfl rfl rfl (Nat.ne_of_beq_eq_false rfl) k3 (pfL_append (els_F l).pf k4) rfl k1 (by simp; omega) k2 (by rw [List.length_map]; exact posF_le) (fun B2 c2 q1 q2 q3 q4 => ?_) (fun B2 c2 q1 q2 q3 q4 => ?_)
        all_goals replace q4 := q4.trans (flat_ins l f _ zs posF_le)
        · repeat' ((conv => whnf); (fail_if_success (with_reducible show ∃ _, _ ∧ _ ∧ Weak _ _ _)); first
            | ((with_reducible show guardA _ _ _ _ _ _ ∨ _); first
              | (refine .inr ?_; (conv => whnf); refine ⟨_, ?_, fun h => rfl, rfl, ?_⟩; ((conv => whnf); first | exact trivial | (refine ⟨?_, trivial⟩; (first | exact fun h => h | exact fun _ => rfl | exact notF | exact andL | exact andR | exact fun h' => andI h h' | exact fun h' => andN h h'))))
              | (refine .inr ?_; (conv => whnf); refine ⟨_, trivial, fun h => ⟨?_, ?_, ?_, rfl⟩, rfl, ?_⟩; (first | exact h | rfl); (first | exact fun h => h | exact fun _ => rfl | exact notF | exact andL | exact andR | exact fun h' => andI h h' | exact fun h' => andN h h'); (first | exact fun h => h | exact fun _ => rfl | exact notF | exact andL | exact andR | exact fun h' => andI h h' | exact fun h' => andN h h'))
              | (refine .inl ?_; (conv => whnf); first | refine gY (by with_reducible first | rfl | assumption) ?_ | refine gTF (by with_reducible first | rfl | assumption) ?_ | refine gFT (by with_reducible first | rfl | assumption) ?_ | ((first | refine gsT (fun h => ?_) (fun h => ?_) | refine gsF (fun h => ?_) (fun h => ?_)) <;> (have hs := h; try simp only [reduceCtorEq, emptyLit, emptyLit2, Int.reduceEq, Int.reduceNe, Int.reduceLT, Int.reduceLE, Int.reduceBEq, Int.reduceBNe, false_and, and_false, false_or, or_false, true_and, and_true, true_or, or_true, not_true_eq_false, not_false_eq_true, cond_true, cond_false, Int.toNat_natCast, List.length_map, beqS_iff, beqS_no, Bool.cond_true_left, Bool.cond_false_right, Bool.or_eq_true, Bool.or_eq_false_iff, Bool.and_eq_true, Bool.and_eq_false_iff, decide_eq_true_eq, decide_eq_false_iff_not, Bool.not_eq_true', Bool.not_eq_false', beq_iff_eq, bne_iff_ne, beq_eq_false_iff_ne, bne_eq_false_iff_eq, Int.ofNat_lt, Int.ofNat_le, Int.not_lt, Int.not_le, ge_iff_le, gt_iff_lt, ne_eq] at hs)))
              | (refine .inl ?_))
            | refine cTrue (by with_reducible first | rfl | assumption) ?_
            | refine cFalse (by with_reducible first | rfl | assumption) ?_
            | refine gY (by with_reducible first | rfl | assumption) ?_
            | refine gTF (by with_reducible first | rfl | assumption) ?_
            | refine gFT (by with_reducible first | rfl | assumption) ?_
            | ((first | refine gsT (fun h => ?_) (fun h => ?_) | refine gsF (fun h => ?_) (fun h => ?_) | refine ⟨fun h => ?_, fun h => ?_⟩) <;> (have hs := h; try simp only [reduceCtorEq, emptyLit, emptyLit2, Int.reduceEq, Int.reduceNe, Int.reduceLT, Int.reduceLE, Int.reduceBEq, Int.reduceBNe, false_and, and_false, false_or, or_false, true_and, and_true, true_or, or_true, not_true_eq_false, not_false_eq_true, cond_true, cond_false, Int.toNat_natCast, List.length_map, beqS_iff, beqS_no, Bool.cond_true_left, Bool.cond_false_right, Bool.or_eq_true, Bool.or_eq_false_iff, Bool.and_eq_true, Bool.and_eq_false_iff, decide_eq_true_eq, decide_eq_false_iff_not, Bool.not_eq_true', Bool.not_eq_false', beq_iff_eq, bne_iff_ne, beq_eq_false_iff_ne, bne_eq_false_iff_eq, Int.ofNat_lt, Int.ofNat_le, Int.not_lt, Int.not_le, ge_iff_le, gt_iff_lt, ne_eq] at hs))
            | ((with_reducible show _ ∧ _ ∧ Weak _ _ _); refine ⟨?_, ?_, Weak.go⟩; (omega))
            | ((with_reducible show (_ ∨ _) ∧ _ ∧ retB _ _ _ _ _); refine ⟨by first | exact .inr rfl | exact .inl rfl, rfl, ?_⟩)
            | ((with_reducible show (_ ∧ _ ∧ _) ∧ _); refine ⟨⟨by kernel_rfl, by kernel_rfl, by rfl⟩, ?_⟩)
            | ((with_reducible show AV.pf _ = true ∧ _); refine ⟨pf_of1 rfl, ?_⟩)
            | (refine ⟨rfl, ?_, ?_, ?_⟩; (first | exact fun h => h | exact fun _ => rfl | exact notF | exact andL | exact andR | exact fun h' => andI h h' | exact fun h' => andN h h'); (first | exact fun h => h | exact fun _ => rfl | exact notF | exact andL | exact andR | exact fun h' => andI h h' | exact fun h' => andN h h'))
            | ((with_reducible show (_ ∨ _) ∧ _ ∧ retA _ _ _ _ _); refine ⟨?_, rfl, ?_⟩; (first | exact .inr rfl | exact .inl rfl))
            | ((with_reducible show _ = _ ∧ _ = false ∧ _ = _); refine ⟨?_, rfl, rfl⟩; try (first | rfl | (conv => lhs; whnf)))
            | ((with_reducible show LeqD _ _); try (first | (repeat' (first | exact LeqD.refl _ | exact LeqDL.refl _ | assumption | exact LeqD.nil (by decide) | refine LeqDL.cons ?_ ?_ | refine LeqD.agg ?_ | refine LeqD.tup ?_ | refine LeqD.sl ?_); done) | (first | rfl | (conv => lhs; whnf))); done)
            | ((with_reducible show _ = _ ∧ (_ → _)); refine ⟨?_, ?_⟩; try (first | rfl | (conv => lhs; whnf)))
            | exact fun h => h
            | exact fun _ => rfl
            | refine ⟨rfl, ?_⟩
            | (refine ⟨Nat.le_of_ble_eq_true rfl, ?_⟩)
            | (refine ⟨?_, ?_, ?_⟩; (first | (refine sizeOk rfl ?_; simp only [List.length_map, List.length_append, List.length_take, List.length_drop, List.length_cons, List.length_nil]; omega) | omega | (simp only [List.length_map, List.length_append, List.length_take, List.length_drop, List.length_cons, List.length_nil]; omega)); (first | (refine sizeOk rfl ?_; simp only [List.length_map, List.length_append, List.length_take, List.length_drop, List.length_cons, List.length_nil]; omega) | omega | (simp only [List.length_map, List.length_append, List.length_take, List.length_drop, List.length_cons, List.length_nil]; omega)))
            | (refine ⟨?_, ?_⟩; (first | (refine sizeOk rfl ?_; simp only [List.length_map, List.length_append, List.length_take, List.length_drop, List.length_cons, List.length_nil]; omega) | omega | (simp only [List.length_map, List.length_append, List.length_take, List.length_drop, List.length_cons, List.length_nil]; omega)))
            | fail)
          conv => whnf
          refine shutI_disk (by rw [e1]; rfl) e1 e2 rfl ?_ ?_ ?_ q4
          all_goals (simp only [List.length_append, List.length_take, List.length_cons, List.length_drop, List.length_map] at q2 ⊢; have := @posF_le l f.name; omega)
        · repeat' ((conv => whnf); (fail_if_success (with_reducible show ∃ _, _ ∧ _ ∧ Weak _ _ _)); first
            | ((with_reducible show guardA _ _ _ _ _ _ ∨ _); first
              | (refine .inr ?_; (conv => whnf); refine ⟨_, ?_, fun h => rfl, rfl, ?_⟩; ((conv => whnf); first | exact trivial | (refine ⟨?_, trivial⟩; (first | exact fun h => h | exact fun _ => rfl | exact notF | exact andL | exact andR | exact fun h' => andI h h' | exact fun h' => andN h h'))))
              | (refine .inr ?_; (conv => whnf); refine ⟨_, trivial, fun h => ⟨?_, ?_, ?_, rfl⟩, rfl, ?_⟩; (first | exact h | rfl); (first | exact fun h => h | exact fun _ => rfl | exact notF | exact andL | exact andR | exact fun h' => andI h h' | exact fun h' => andN h h'); (first | exact fun h => h | exact fun _ => rfl | exact notF | exact andL | exact andR | exact fun h' => andI h h' | exact fun h' => andN h h'))
              | (refine .inl ?_; (conv => whnf); first | refine gY (by with_reducible first | rfl | assumption) ?_ | refine gTF (by with_reducible first | rfl | assumption) ?_ | refine gFT (by with_reducible first | rfl | assumption) ?_ | ((first | refine gsT (fun h => ?_) (fun h => ?_) | refine gsF (fun h => ?_) (fun h => ?_)) <;> (have hs := h; try simp only [reduceCtorEq, emptyLit, emptyLit2, Int.reduceEq, Int.reduceNe, Int.reduceLT, Int.reduceLE, Int.reduceBEq, Int.reduceBNe, false_and, and_false, false_or, or_false, true_and, and_true, true_or, or_true, not_true_eq_false, not_false_eq_true, cond_true, cond_false, Int.toNat_natCast, List.length_map, beqS_iff, beqS_no, Bool.cond_true_left, Bool.cond_false_right, Bool.or_eq_true, Bool.or_eq_false_iff, Bool.and_eq_true, Bool.and_eq_false_iff, decide_eq_true_eq, decide_eq_false_iff_not, Bool.not_eq_true', Bool.not_eq_false', beq_iff_eq, bne_iff_ne, beq_eq_false_iff_ne, bne_eq_false_iff_eq, Int.ofNat_lt, Int.ofNat_le, Int.not_lt, Int.not_le, ge_iff_le, gt_iff_lt, ne_eq] at hs)))
              | (refine .inl ?_))
            | refine cTrue (by with_reducible first | rfl | assumption) ?_
            | refine cFalse (by with_reducible first | rfl | assumption) ?_
            | refine gY (by with_reducible first | rfl | assumption) ?_
            | refine gTF (by with_reducible first | rfl | assumption) ?_
            | refine gFT (by with_reducible first | rfl | assumption) ?_
            | ((first | refine gsT (fun h => ?_) (fun h => ?_) | refine gsF (fun h => ?_) (fun h => ?_) | refine ⟨fun h => ?_, fun h => ?_⟩) <;> (have hs := h; try simp only [reduceCtorEq, emptyLit, emptyLit2, Int.reduceEq, Int.reduceNe, Int.reduceLT, Int.reduceLE, Int.reduceBEq, Int.reduceBNe, false_and, and_false, false_or, or_false, true_and, and_true, true_or, or_true, not_true_eq_false, not_false_eq_true, cond_true, cond_false, Int.toNat_natCast, List.length_map, beqS_iff, beqS_no, Bool.cond_true_left, Bool.cond_false_right, Bool.or_eq_true, Bool.or_eq_false_iff, Bool.and_eq_true, Bool.and_eq_false_iff, decide_eq_true_eq, decide_eq_false_iff_not, Bool.not_eq_true', Bool.not_eq_false', beq_iff_eq, bne_iff_ne, beq_eq_false_iff_ne, bne_eq_false_iff_eq, Int.ofNat_lt, Int.ofNat_le, Int.not_lt, Int.not_le, ge_iff_le, gt_iff_lt, ne_eq] at hs))
            | ((with_reducible show _ ∧ _ ∧ Weak _ _ _); refine ⟨?_, ?_, Weak.go⟩; (omega))
            | ((with_reducible show (_ ∨ _) ∧ _ ∧ retB _ _ _ _ _); refine ⟨by first | exact .inr rfl | exact .inl rfl, rfl, ?_⟩)
            | ((with_reducible show (_ ∧ _ ∧ _) ∧ _); refine ⟨⟨by kernel_rfl, by kernel_rfl, by rfl⟩, ?_⟩)
            | ((with_reducible show AV.pf _ = true ∧ _); refine ⟨pf_of1 rfl, ?_⟩)
            | (refine ⟨rfl, ?_, ?_, ?_⟩; (first | exact fun h => h | exact fun _ => rfl | exact notF | exact andL | exact andR | exact fun h' => andI h h' | exact fun h' => andN h h'); (first | exact fun h => h | exact fun _ => rfl | exact notF | exact andL | exact andR | exact fun h' => andI h h' | exact fun h' => andN h h'))
            | ((with_reducible show (_ ∨ _) ∧ _ ∧ retA _ _ _ _ _); refine ⟨?_, rfl, ?_⟩; (first | exact .inr rfl | exact .inl rfl))
            | ((with_reducible show _ = _ ∧ _ = false ∧ _ = _); refine ⟨?_, rfl, rfl⟩; try (first | rfl | (conv => lhs; whnf)))
            | ((with_reducible show LeqD _ _); try (first | (repeat' (first | exact LeqD.refl _ | exact LeqDL.refl _ | assumption | exact LeqD.nil (by decide) | refine LeqDL.cons ?_ ?_ | refine LeqD.agg ?_ | refine LeqD.tup ?_ | refine LeqD.sl ?_); done) | (first | rfl | (conv => lhs; whnf))); done)
            | ((with_reducible show _ = _ ∧ (_ → _)); refine ⟨?_, ?_⟩; try (first | rfl | (conv => lhs; whnf)))
            | exact fun h => h
            | exact fun _ => rfl
            | refine ⟨rfl, ?_⟩
            | (refine ⟨Nat.le_of_ble_eq_true rfl, ?_⟩)
            | (refine ⟨?_, ?_, ?_⟩; (first | (refine sizeOk rfl ?_; simp only [List.length_map, List.length_append, List.length_take, List.length_drop, List.length_cons, List.length_nil]; omega) | omega | (simp only [List.length_map, List.length_append, List.length_take, List.length_drop, List.length_cons, List.length_nil]; omega)); (first | (refine sizeOk rfl ?_; simp only [List.length_map, List.length_append, List.length_take, List.length_drop, List.length_cons, List.length_nil]; omega) | omega | (simp only [List.length_map, List.length_append, List.length_take, List.length_drop, List.length_cons, List.length_nil]; omega)))
            | (refine ⟨?_, ?_⟩; (first | (refine sizeOk rfl ?_; simp only [List.length_map, List.length_append, List.length_take, List.length_drop, List.length_cons, List.length_nil]; omega) | omega | (simp only [List.length_map, List.length_append, List.length_take, List.length_drop, List.length_cons, List.length_nil]; omega)))
            | fail)
          conv => whnf
          refine shutI_disk (by rw [e1]; rfl) e1 e2 rfl ?_ ?_ ?_ q4
          all_goals (simp only [List.length_append, List.length_take, List.length_cons, List.length_drop, List.length_map] at q2 ⊢; have := @posF_le l f.name; omega)
end Go.Proofs.YtepdiooaoegpfaaGreatDoor.Fx
end
section
/- Files are written. Conditions: those in each statement. -/
namespace Go.Proofs.YtepdiooaoegpfaaGreatDoor.Fx
open Go Go.Proofs Go.Ev Go.RowKit
set_option maxRecDepth 100000
set_option maxHeartbeats 1600000
set_option linter.unusedSimpArgs false
set_option linter.unusedVariables false
/-- A file written: the clock, the files, what is wrong. -/
@[irreducible] def writE (clock : Int) (l : List File) (f : File) : Int := if laidE l f = 0 then if clock = 1099511627776 then 23 else 0 else laidE l f
@[irreducible] def writC (clock : Int) (l : List File) (f : File) : Int := if writE clock l f = 0 then clock + 1 else 0
@[irreducible] def writL (clock : Int) (l : List File) (f : File) : List File := if writE clock l f = 0 then laidL l f else []
theorem leq_disk {c c' e e' : Int} {L : List File} (hc : c = c') (he : e = e') (hL : L = []) : LeqD (.tup [.agg [i64 c, nilv], i64 e]) (.tup [eD c' L, i64 e']) := by
  subst hc he hL
  repeat' (first | exact LeqD.refl _ | exact LeqDL.refl _ | exact LeqD.nil (by decide) | refine LeqDL.cons ?_ ?_ | refine LeqD.agg ?_ | refine LeqD.tup ?_)
theorem leq_disk2 {c c' e e' : Int} {L L' : List File} (hc : c = c') (he : e = e') (hL : L = L') : LeqD (.tup [eD c L, i64 e]) (.tup [eD c' L', i64 e']) := by
  subst hc he hL; exact LeqD.refl _
theorem c_disk_written {clock : Int} {l : List File} {name text : ByteArray} (hc : 0 ≤ clock ∧ clock ≤ 1099511627776) (hl : l.length ≤ 256) (hp : l.Pairwise fun a b => ltS a.name b.name = true) :
    XPure Tryz.prog 72 [eD clock l, str name, str text] (.tup [eD (writC clock l ⟨name, text, clock + 1⟩) (writL clock l ⟨name, text, clock + 1⟩), i64 (writE clock l ⟨name, text, clock + 1⟩)]) false := by
  have hw : IntKind.i64.wrap (clock + 1) = clock + 1 := wrapId (by omega) (by omega)
  refine XPure.bodyN ⟨_, Tryz.func72, rfl, by kernel_rfl⟩ Tryz.func72 rfl (Nat.le_of_ble_eq_true (by rfl)) (pf_of1 rfl) fun env => ?_
  repeat' ((conv => whnf); (fail_if_success (with_reducible show LeqD _ _)); (fail_if_success (with_reducible show ∃ _, _ ∧ _ ∧ Weak _ _ _)); first
    | ((with_reducible show guardA _ _ _ _ _ _ ∨ _); first
      | (refine .inr ?_; (conv => whnf); refine ⟨_, ?_, fun h => rfl, rfl, ?_⟩; ((conv => whnf); first | exact trivial | (refine ⟨?_, trivial⟩; (first | exact fun h => h | exact fun _ => rfl | exact notF | exact andL | exact andR | exact fun h' => andI h h' | exact fun h' => andN h h'))))
      | (refine .inr ?_; (conv => whnf); refine ⟨_, trivial, fun h => ⟨?_, ?_, ?_, rfl⟩, rfl, ?_⟩; (first | exact h | rfl); (first | exact fun h => h | exact fun _ => rfl | exact notF | exact andL | exact andR | exact fun h' => andI h h' | exact fun h' => andN h h'); (first | exact fun h => h | exact fun _ => rfl | exact notF | exact andL | exact andR | exact fun h' => andI h h' | exact fun h' => andN h h'))
      | (refine .inl ?_; (conv => whnf); first | refine gY (by with_reducible first | rfl | assumption) ?_ | refine gTF (by with_reducible first | rfl | assumption) ?_ | refine gFT (by with_reducible first | rfl | assumption) ?_ | ((first | refine gsT (fun h => ?_) (fun h => ?_) | refine gsF (fun h => ?_) (fun h => ?_)) <;> (have hs := h; try simp only [reduceCtorEq, emptyLit, emptyLit2, Int.reduceEq, Int.reduceNe, Int.reduceLT, Int.reduceLE, Int.reduceBEq, Int.reduceBNe, false_and, and_false, false_or, or_false, true_and, and_true, true_or, or_true, not_true_eq_false, not_false_eq_true, cond_true, cond_false, Int.toNat_natCast, List.length_map, beqS_iff, beqS_no, Bool.cond_true_left, Bool.cond_false_right, Bool.or_eq_true, Bool.or_eq_false_iff, Bool.and_eq_true, Bool.and_eq_false_iff, decide_eq_true_eq, decide_eq_false_iff_not, Bool.not_eq_true', Bool.not_eq_false', beq_iff_eq, bne_iff_ne, beq_eq_false_iff_ne, bne_eq_false_iff_eq, Int.ofNat_lt, Int.ofNat_le, Int.not_lt, Int.not_le, ge_iff_le, gt_iff_lt, ne_eq] at hs)))
      | (refine .inl ?_))
    | refine cTrue (by with_reducible first | rfl | assumption) ?_
    | refine cFalse (by with_reducible first | rfl | assumption) ?_
    | refine gY (by with_reducible first | rfl | assumption) ?_
    | refine gTF (by with_reducible first | rfl | assumption) ?_
    | refine gFT (by with_reducible first | rfl | assumption) ?_
    | ((first | refine gsT (fun h => ?_) (fun h => ?_) | refine gsF (fun h => ?_) (fun h => ?_) | refine ⟨fun h => ?_, fun h => ?_⟩) <;> (have hs := h; try simp only [reduceCtorEq, emptyLit, emptyLit2, Int.reduceEq, Int.reduceNe, Int.reduceLT, Int.reduceLE, Int.reduceBEq, Int.reduceBNe, false_and, and_false, false_or, or_false, true_and, and_true, true_or, or_true, not_true_eq_false, not_false_eq_true, cond_true, cond_false, Int.toNat_natCast, List.length_map, beqS_iff, beqS_no, Bool.cond_true_left, Bool.cond_false_right, Bool.or_eq_true, Bool.or_eq_false_iff, Bool.and_eq_true, Bool.and_eq_false_iff, decide_eq_true_eq, decide_eq_false_iff_not, Bool.not_eq_true', Bool.not_eq_false', beq_iff_eq, bne_iff_ne, beq_eq_false_iff_ne, bne_eq_false_iff_eq, Int.ofNat_lt, Int.ofNat_le, Int.not_lt, Int.not_le, ge_iff_le, gt_iff_lt, ne_eq] at hs))
    | (refine .inl ⟨_, _, c_disk_laid (f := ⟨name, text, IntKind.i64.wrap (clock + 1)⟩) hl hp, ?_⟩)
    | ((with_reducible show _ ∧ _ ∧ Weak _ _ _); refine ⟨?_, ?_, Weak.go⟩; (omega))
    | ((with_reducible show (_ ∧ _ ∧ _) ∧ _); refine ⟨⟨by kernel_rfl, by kernel_rfl, by rfl⟩, ?_⟩)
    | ((with_reducible show AV.pf _ = true ∧ _); refine ⟨pf_of1 rfl, ?_⟩)
    | (refine ⟨rfl, ?_, ?_, ?_⟩; (first | exact fun h => h | exact fun _ => rfl | exact notF | exact andL | exact andR | exact fun h' => andI h h' | exact fun h' => andN h h'); (first | exact fun h => h | exact fun _ => rfl | exact notF | exact andL | exact andR | exact fun h' => andI h h' | exact fun h' => andN h h'))
    | ((with_reducible show (_ ∨ _) ∧ _ ∧ retA _ _ _ _ _); refine ⟨?_, rfl, ?_⟩; (first | exact .inr rfl | exact .inl rfl))
    | ((with_reducible show _ = _ ∧ _ = false ∧ _ = _); refine ⟨?_, rfl, rfl⟩; try (first | rfl | (conv => lhs; whnf)))
    | ((with_reducible show _ = _ ∧ (_ → _)); refine ⟨?_, ?_⟩; try (first | rfl | (conv => lhs; whnf)))
    | exact fun h => h
    | exact fun _ => rfl
    | refine ⟨rfl, ?_⟩
    | (refine ⟨Nat.le_of_ble_eq_true rfl, ?_⟩)
    | (refine ⟨?_, ?_, ?_⟩; (first | (refine sizeOk rfl ?_; simp only [List.length_map, List.length_append, List.length_take, List.length_drop, List.length_cons, List.length_nil]; omega) | omega | (simp only [List.length_map, List.length_append, List.length_take, List.length_drop, List.length_cons, List.length_nil]; omega)); (first | (refine sizeOk rfl ?_; simp only [List.length_map, List.length_append, List.length_take, List.length_drop, List.length_cons, List.length_nil]; omega) | omega | (simp only [List.length_map, List.length_append, List.length_take, List.length_drop, List.length_cons, List.length_nil]; omega)))
    | (refine ⟨?_, ?_⟩; (first | (refine sizeOk rfl ?_; simp only [List.length_map, List.length_append, List.length_take, List.length_drop, List.length_cons, List.length_nil]; omega) | omega | (simp only [List.length_map, List.length_append, List.length_take, List.length_drop, List.length_cons, List.length_nil]; omega)))
    | fail)
  all_goals rw [hw] at *
  · have e : writE clock l ⟨name, text, clock + 1⟩ = laidE l ⟨name, text, clock + 1⟩ := by unfold writE; rw [if_neg hs]
    exact leq_disk (by unfold writC; rw [e, if_neg hs]) e.symm (by unfold writL; rw [e, if_neg hs])
  · have e : writE clock l ⟨name, text, clock + 1⟩ = 23 := by unfold writE; rw [if_pos (by assumption), if_pos hs]
    exact leq_disk (by unfold writC; rw [e]; rfl) e.symm (by unfold writL; rw [e]; rfl)
  · have e : writE clock l ⟨name, text, clock + 1⟩ = 0 := by unfold writE; rw [if_pos (by assumption), if_neg hs]
    have e3 : laidE l ⟨name, text, clock + 1⟩ = 0 := by assumption
    exact leq_disk2 (by unfold writC; rw [e, e3, if_pos rfl, if_pos rfl, wrapId (by omega) (by omega)]) e.symm (by unfold writL; rw [e]; rfl)
theorem okD_clock {clock : Int} {l : List File} (h : okD clock l = true) : 0 ≤ clock ∧ clock ≤ 1099511627776 := by
  simp only [okD, Bool.and_eq_true, decide_eq_true_eq] at h; omega
/-- What is wrong with a write. -/
@[irreducible] def wrE (clock : Int) (l : List File) (name text : ByteArray) : Int := if okD clock l = true then if isName name = true then if 4096 < text.size then 20 else writE clock l ⟨name, text, clock + 1⟩ else 3 else 4
@[irreducible] def wrC (clock : Int) (l : List File) (name text : ByteArray) : Int := if wrE clock l name text = 0 then clock + 1 else 0
@[irreducible] def wrL' (clock : Int) (l : List File) (name text : ByteArray) : List File := if wrE clock l name text = 0 then laidL l ⟨name, text, clock + 1⟩ else []
theorem c_disk_Write {clock : Int} {l : List File} {name text : ByteArray} : XPure Tryz.prog 48 [eD clock l, str name, str text] (.tup [eD (wrC clock l name text) (wrL' clock l name text), i64 (wrE clock l name text)]) false := by
  refine XPure.bodyN ⟨_, Tryz.func48, rfl, by kernel_rfl⟩ Tryz.func48 rfl (Nat.le_of_ble_eq_true (by rfl)) (pf_of1 rfl) fun env => ?_
  repeat' ((conv => whnf); (fail_if_success (with_reducible show LeqD _ _)); (fail_if_success (with_reducible show ∃ _, _ ∧ _ ∧ Weak _ _ _)); first
    | ((with_reducible show guardA _ _ _ _ _ _ ∨ _); first
      | (refine .inr ?_; (conv => whnf); refine ⟨_, ?_, fun h => rfl, rfl, ?_⟩; ((conv => whnf); first | exact trivial | (refine ⟨?_, trivial⟩; (first | exact fun h => h | exact fun _ => rfl | exact notF | exact andL | exact andR | exact fun h' => andI h h' | exact fun h' => andN h h'))))
      | (refine .inr ?_; (conv => whnf); refine ⟨_, trivial, fun h => ⟨?_, ?_, ?_, rfl⟩, rfl, ?_⟩; (first | exact h | rfl); (first | exact fun h => h | exact fun _ => rfl | exact notF | exact andL | exact andR | exact fun h' => andI h h' | exact fun h' => andN h h'); (first | exact fun h => h | exact fun _ => rfl | exact notF | exact andL | exact andR | exact fun h' => andI h h' | exact fun h' => andN h h'))
      | (refine .inl ?_; (conv => whnf); first | refine gY (by with_reducible first | rfl | assumption) ?_ | refine gTF (by with_reducible first | rfl | assumption) ?_ | refine gFT (by with_reducible first | rfl | assumption) ?_ | ((first | refine gsT (fun h => ?_) (fun h => ?_) | refine gsF (fun h => ?_) (fun h => ?_)) <;> (have hs := h; try simp only [reduceCtorEq, emptyLit, emptyLit2, Int.reduceEq, Int.reduceNe, Int.reduceLT, Int.reduceLE, Int.reduceBEq, Int.reduceBNe, false_and, and_false, false_or, or_false, true_and, and_true, true_or, or_true, not_true_eq_false, not_false_eq_true, cond_true, cond_false, Int.toNat_natCast, List.length_map, beqS_iff, beqS_no, Bool.cond_true_left, Bool.cond_false_right, Bool.or_eq_true, Bool.or_eq_false_iff, Bool.and_eq_true, Bool.and_eq_false_iff, decide_eq_true_eq, decide_eq_false_iff_not, Bool.not_eq_true', Bool.not_eq_false', beq_iff_eq, bne_iff_ne, beq_eq_false_iff_ne, bne_eq_false_iff_eq, Int.ofNat_lt, Int.ofNat_le, Int.not_lt, Int.not_le, ge_iff_le, gt_iff_lt, ne_eq] at hs)))
      | (refine .inl ?_))
    | refine cTrue (by with_reducible first | rfl | assumption) ?_
    | refine cFalse (by with_reducible first | rfl | assumption) ?_
    | refine gY (by with_reducible first | rfl | assumption) ?_
    | refine gTF (by with_reducible first | rfl | assumption) ?_
    | refine gFT (by with_reducible first | rfl | assumption) ?_
    | ((first | refine gsT (fun h => ?_) (fun h => ?_) | refine gsF (fun h => ?_) (fun h => ?_) | refine ⟨fun h => ?_, fun h => ?_⟩) <;> (have hs := h; try simp only [reduceCtorEq, emptyLit, emptyLit2, Int.reduceEq, Int.reduceNe, Int.reduceLT, Int.reduceLE, Int.reduceBEq, Int.reduceBNe, false_and, and_false, false_or, or_false, true_and, and_true, true_or, or_true, not_true_eq_false, not_false_eq_true, cond_true, cond_false, Int.toNat_natCast, List.length_map, beqS_iff, beqS_no, Bool.cond_true_left, Bool.cond_false_right, Bool.or_eq_true, Bool.or_eq_false_iff, Bool.and_eq_true, Bool.and_eq_false_iff, decide_eq_true_eq, decide_eq_false_iff_not, Bool.not_eq_true', Bool.not_eq_false', beq_iff_eq, bne_iff_ne, beq_eq_false_iff_ne, bne_eq_false_iff_eq, Int.ofNat_lt, Int.ofNat_le, Int.not_lt, Int.not_le, ge_iff_le, gt_iff_lt, ne_eq] at hs))
    | (refine .inl ⟨_, _, c_disk_asked, ?_⟩)
    | (refine .inl ⟨_, _, c_disk_written (okD_clock (asked0 (by assumption)).1) (okD_sorted (asked0 (by assumption)).1).1 (okD_sorted (asked0 (by assumption)).1).2, ?_⟩)
    | ((with_reducible show _ ∧ _ ∧ Weak _ _ _); refine ⟨?_, ?_, Weak.go⟩; (omega))
    | ((with_reducible show (_ ∧ _ ∧ _) ∧ _); refine ⟨⟨by kernel_rfl, by kernel_rfl, by rfl⟩, ?_⟩)
    | ((with_reducible show AV.pf _ = true ∧ _); refine ⟨pf_of1 rfl, ?_⟩)
    | (refine ⟨rfl, ?_, ?_, ?_⟩; (first | exact fun h => h | exact fun _ => rfl | exact notF | exact andL | exact andR | exact fun h' => andI h h' | exact fun h' => andN h h'); (first | exact fun h => h | exact fun _ => rfl | exact notF | exact andL | exact andR | exact fun h' => andI h h' | exact fun h' => andN h h'))
    | ((with_reducible show (_ ∨ _) ∧ _ ∧ retA _ _ _ _ _); refine ⟨?_, rfl, ?_⟩; (first | exact .inr rfl | exact .inl rfl))
    | ((with_reducible show _ = _ ∧ _ = false ∧ _ = _); refine ⟨?_, rfl, rfl⟩; try (first | rfl | (conv => lhs; whnf)))
    | ((with_reducible show _ = _ ∧ (_ → _)); refine ⟨?_, ?_⟩; try (first | rfl | (conv => lhs; whnf)))
    | exact fun h => h
    | exact fun _ => rfl
    | refine ⟨rfl, ?_⟩
    | (refine ⟨Nat.le_of_ble_eq_true rfl, ?_⟩)
    | (refine ⟨?_, ?_, ?_⟩; (first | (refine sizeOk rfl ?_; simp only [List.length_map, List.length_append, List.length_take, List.length_drop, List.length_cons, List.length_nil]; omega) | omega | (simp only [List.length_map, List.length_append, List.length_take, List.length_drop, List.length_cons, List.length_nil]; omega)); (first | (refine sizeOk rfl ?_; simp only [List.length_map, List.length_append, List.length_take, List.length_drop, List.length_cons, List.length_nil]; omega) | omega | (simp only [List.length_map, List.length_append, List.length_take, List.length_drop, List.length_cons, List.length_nil]; omega)))
    | (refine ⟨?_, ?_⟩; (first | (refine sizeOk rfl ?_; simp only [List.length_map, List.length_append, List.length_take, List.length_drop, List.length_cons, List.length_nil]; omega) | omega | (simp only [List.length_map, List.length_append, List.length_take, List.length_drop, List.length_cons, List.length_nil]; omega)))
    | fail)
  · have e : wrE clock l name text = bif okD clock l then errIf (isName name) 3 else 4 := by
      unfold wrE
      cases h1 : okD clock l <;> cases h2 : isName name <;> simp_all [errIf]
    have e0 : ¬ wrE clock l name text = 0 := by rw [e]; exact hs
    exact leq_disk (by unfold wrC; rw [if_neg e0]) e.symm (by unfold wrL'; rw [if_neg e0])
  · obtain ⟨q1, q2⟩ := asked0 (by assumption)
    have e : wrE clock l name text = 20 := by unfold wrE; rw [if_pos q1, if_pos q2, if_pos (by omega)]
    exact leq_disk (by unfold wrC; rw [e]; rfl) e.symm (by unfold wrL'; rw [e]; rfl)
  · obtain ⟨q1, q2⟩ := asked0 (by assumption)
    have e : wrE clock l name text = writE clock l ⟨name, text, clock + 1⟩ := by unfold wrE; rw [if_pos q1, if_pos q2, if_neg (by omega)]
    exact leq_disk2 (by unfold wrC writC; rw [e]) e.symm (by unfold wrL' writL; rw [e])
end Go.Proofs.YtepdiooaoegpfaaGreatDoor.Fx
end
section
/- Where one of some bytes stands; quoted words; texts joined. Conditions: those in each statement. -/
namespace Go.Proofs.YtepdiooaoegpfaaGreatDoor.Fx
open Go Go.Proofs Go.Ev Go.RowKit Go.Proofs.YtepdiooaoegpfaaGreatDoor.Sup
set_option maxRecDepth 100000
set_option maxHeartbeats 1600000
set_option linter.unusedSimpArgs false
set_option linter.unusedVariables false
def asciiS (s : ByteArray) : Bool := s.data.toList.all fun b => decide (b.toNat < 128)
theorem c_IndexAny {s cs : ByteArray} (h2 : 2 ≤ cs.size) (h3 : cs.size < 4294967281) (hs : s.size ≤ 140737488351232) (ha : asciiS cs = true) : XPure Tryz.prog 86 [str s, str cs] (i64 (Lib.indexAny s.data.toList cs.data.toList)) false :=
  XPure.ofCalls (l := [.string s, .string cs]) ⟨_, Tryz.func86, rfl, by kernel_rfl⟩ rfl (fun w => by
    have h5 : ∀ b ∈ cs.data.toList, b.toNat < 128 := fun b hb => of_decide_eq_true (List.all_eq_true.1 ha b hb)
    by_cases h8 : s.size ≤ 8
    · exact IndexAny_short s cs w h2 (by omega) h8 (fun j hj => h5 _ (List.mem_of_getElem? (Lib.data_getElem? cs j hj)))
    · exact IndexAny_long s cs w h2 (by omega) hs h3 (fun j b hb => h5 b (List.mem_of_getElem? hb))) fun _ _ _ _ => rep_v_mk rfl
theorem c_ContainsAny {s cs : ByteArray} (h2 : 2 ≤ cs.size) (h3 : cs.size < 4294967281) (hs : s.size ≤ 140737488351232) (ha : asciiS cs = true) : XPure Tryz.prog 87 [str s, str cs] (bln (decide (0 ≤ Lib.indexAny s.data.toList cs.data.toList))) false := by
  refine XPure.body ⟨_, Tryz.func87, rfl, by kernel_rfl⟩ Tryz.func87 rfl (Nat.le_of_ble_eq_true (by rfl)) (pf_of1 rfl) fun env => ?_
  repeat' ((conv => whnf); (fail_if_success (with_reducible show ∃ _, _ ∧ _ ∧ Weak _ _ _)); first
    | ((with_reducible show guardA _ _ _ _ _ _ ∨ _); first
      | (refine .inr ?_; (conv => whnf); refine ⟨_, ?_, fun h => rfl, rfl, ?_⟩; ((conv => whnf); first | exact trivial | (refine ⟨?_, trivial⟩; (first | exact fun h => h | exact fun _ => rfl | exact notF | exact andL | exact andR | exact fun h' => andI h h' | exact fun h' => andN h h'))))
      | (refine .inr ?_; (conv => whnf); refine ⟨_, trivial, fun h => ⟨?_, ?_, ?_, rfl⟩, rfl, ?_⟩; (first | exact h | rfl); (first | exact fun h => h | exact fun _ => rfl | exact notF | exact andL | exact andR | exact fun h' => andI h h' | exact fun h' => andN h h'); (first | exact fun h => h | exact fun _ => rfl | exact notF | exact andL | exact andR | exact fun h' => andI h h' | exact fun h' => andN h h'))
      | (refine .inl ?_; (conv => whnf); first | refine gY (by with_reducible first | rfl | assumption) ?_ | refine gTF (by with_reducible first | rfl | assumption) ?_ | refine gFT (by with_reducible first | rfl | assumption) ?_ | ((first | refine gsT (fun h => ?_) (fun h => ?_) | refine gsF (fun h => ?_) (fun h => ?_)) <;> (have hs := h; try simp only [reduceCtorEq, emptyLit, emptyLit2, Int.reduceEq, Int.reduceNe, Int.reduceLT, Int.reduceLE, Int.reduceBEq, Int.reduceBNe, false_and, and_false, false_or, or_false, true_and, and_true, true_or, or_true, not_true_eq_false, not_false_eq_true, cond_true, cond_false, Int.toNat_natCast, List.length_map, beqS_iff, beqS_no, Bool.cond_true_left, Bool.cond_false_right, Bool.or_eq_true, Bool.or_eq_false_iff, Bool.and_eq_true, Bool.and_eq_false_iff, decide_eq_true_eq, decide_eq_false_iff_not, Bool.not_eq_true', Bool.not_eq_false', beq_iff_eq, bne_iff_ne, beq_eq_false_iff_ne, bne_eq_false_iff_eq, Int.ofNat_lt, Int.ofNat_le, Int.not_lt, Int.not_le, ge_iff_le, gt_iff_lt, ne_eq] at hs)))
      | (refine .inl ?_))
    | refine cTrue (by with_reducible first | rfl | assumption) ?_
    | refine cFalse (by with_reducible first | rfl | assumption) ?_
    | refine gY (by with_reducible first | rfl | assumption) ?_
    | refine gTF (by with_reducible first | rfl | assumption) ?_
    | refine gFT (by with_reducible first | rfl | assumption) ?_
    | ((first | refine gsT (fun h => ?_) (fun h => ?_) | refine gsF (fun h => ?_) (fun h => ?_) | refine ⟨fun h => ?_, fun h => ?_⟩) <;> (have hs := h; try simp only [reduceCtorEq, emptyLit, emptyLit2, Int.reduceEq, Int.reduceNe, Int.reduceLT, Int.reduceLE, Int.reduceBEq, Int.reduceBNe, false_and, and_false, false_or, or_false, true_and, and_true, true_or, or_true, not_true_eq_false, not_false_eq_true, cond_true, cond_false, Int.toNat_natCast, List.length_map, beqS_iff, beqS_no, Bool.cond_true_left, Bool.cond_false_right, Bool.or_eq_true, Bool.or_eq_false_iff, Bool.and_eq_true, Bool.and_eq_false_iff, decide_eq_true_eq, decide_eq_false_iff_not, Bool.not_eq_true', Bool.not_eq_false', beq_iff_eq, bne_iff_ne, beq_eq_false_iff_ne, bne_eq_false_iff_eq, Int.ofNat_lt, Int.ofNat_le, Int.not_lt, Int.not_le, ge_iff_le, gt_iff_lt, ne_eq] at hs))
    | (refine .inl ⟨_, _, c_IndexAny h2 h3 hs ha, ?_⟩)
    | ((with_reducible show _ ∧ _ ∧ Weak _ _ _); refine ⟨?_, ?_, Weak.go⟩; (omega))
    | ((with_reducible show (_ ∧ _ ∧ _) ∧ _); refine ⟨⟨by kernel_rfl, by kernel_rfl, by rfl⟩, ?_⟩)
    | ((with_reducible show AV.pf _ = true ∧ _); refine ⟨pf_of1 rfl, ?_⟩)
    | (refine ⟨rfl, ?_, ?_, ?_⟩; (first | exact fun h => h | exact fun _ => rfl | exact notF | exact andL | exact andR | exact fun h' => andI h h' | exact fun h' => andN h h'); (first | exact fun h => h | exact fun _ => rfl | exact notF | exact andL | exact andR | exact fun h' => andI h h' | exact fun h' => andN h h'))
    | ((with_reducible show (_ ∨ _) ∧ _ ∧ retA _ _ _ _ _); refine ⟨?_, rfl, ?_⟩; (first | exact .inr rfl | exact .inl rfl))
    | ((with_reducible show _ = _ ∧ _ = false ∧ _ = _); refine ⟨?_, rfl, rfl⟩; try (first | rfl | (conv => lhs; whnf)))
    | ((with_reducible show LeqD _ _); try (first | (repeat' (first | exact LeqD.refl _ | exact LeqDL.refl _ | assumption | exact LeqD.nil (by decide) | refine LeqDL.cons ?_ ?_ | refine LeqD.agg ?_ | refine LeqD.tup ?_ | refine LeqD.sl ?_); done) | (first | rfl | (conv => lhs; whnf))); done)
    | ((with_reducible show _ = _ ∧ (_ → _)); refine ⟨?_, ?_⟩; try (first | rfl | (conv => lhs; whnf)))
    | exact fun h => h
    | exact fun _ => rfl
    | refine ⟨rfl, ?_⟩
    | (refine ⟨Nat.le_of_ble_eq_true rfl, ?_⟩)
    | (refine ⟨?_, ?_, ?_⟩; (first | (refine sizeOk rfl ?_; simp only [List.length_map, List.length_append, List.length_take, List.length_drop, List.length_cons, List.length_nil]; omega) | omega | (simp only [List.length_map, List.length_append, List.length_take, List.length_drop, List.length_cons, List.length_nil]; omega)); (first | (refine sizeOk rfl ?_; simp only [List.length_map, List.length_append, List.length_take, List.length_drop, List.length_cons, List.length_nil]; omega) | omega | (simp only [List.length_map, List.length_append, List.length_take, List.length_drop, List.length_cons, List.length_nil]; omega)))
    | (refine ⟨?_, ?_⟩; (first | (refine sizeOk rfl ?_; simp only [List.length_map, List.length_append, List.length_take, List.length_drop, List.length_cons, List.length_nil]; omega) | omega | (simp only [List.length_map, List.length_append, List.length_take, List.length_drop, List.length_cons, List.length_nil]; omega)))
    | rw [wrapId (by omega) (by omega)]
    | fail)
theorem c_lex_quoted {s : ByteArray} {i : Nat} (hi : i < s.size) (hs : s.size ≤ 140737488351232) : XPure Tryz.prog 85 [str s, i64 i] (.tup [str (qW (lexq (s.data.toList.drop (i + 1)) [] (i + 1))), i64 (qP (lexq (s.data.toList.drop (i + 1)) [] (i + 1))), bln (qB (lexq (s.data.toList.drop (i + 1)) [] (i + 1)))]) false :=
  XPure.ofCalls (l := [.string s, .int .i64 i]) ⟨_, Tryz.func85, rfl, by kernel_rfl⟩ rfl (fun w => quoted_walk s i w hi hs) fun w hw bs base => by
    refine ⟨_, rfl, ?_⟩
    simp only [RepT]
    exact ⟨_, _, rfl, rep1_of rfl (rep_v_mk rfl), _, _, rfl, rep1_of rfl (rep_v_mk rfl), _, _, rfl, rep1_of rfl (rep_v_mk rfl), rfl⟩
theorem lexq_at : ∀ (l acc : List UInt8) (p : Nat) (w : List UInt8) (q : Nat), lexq l acc p = some (w, q) → p < q ∧ q ≤ p + l.length
  | [], _, _, _, _, h => by simp [lexq] at h
  | [c], acc, p, w, q, h => by
    rw [lexq_cons] at h
    split at h
    · cases h; simp
    · split at h
      · cases h
      · split at h
        · cases h
        · simp [lexq] at h
  | c :: d :: t, acc, p, w, q, h => by
    rw [lexq_cons] at h
    simp only at h
    split at h
    · cases h; simp
    · split at h
      · cases h
      · split at h
        · split at h
          · have := lexq_at _ _ _ _ _ h; simp only [List.length_cons]; omega
          · split at h
            · have := lexq_at _ _ _ _ _ h; simp only [List.length_cons]; omega
            · split at h
              · have := lexq_at _ _ _ _ _ h; simp only [List.length_cons]; omega
              · cases h
        · have := lexq_at _ _ _ _ _ h; simp only [List.length_cons] at this ⊢; omega
theorem indexAny_lt (cs : List UInt8) : ∀ l : List UInt8, Lib.indexAny l cs < l.length ∨ (l = [] ∧ Lib.indexAny l cs = -1)
  | [] => .inr ⟨rfl, rfl⟩
  | b :: l => by
    left
    simp only [Lib.indexAny, List.length_cons]
    have ih := indexAny_lt cs l
    have ge := Lib.indexAny_ge cs l
    split
    · omega
    · split
      · omega
      · rcases ih with h | ⟨rfl, h⟩
        · omega
        · rename_i hne; rw [h] at hne; simp at hne
theorem indexAny_pos {b : UInt8} {l cs : List UInt8} (h : cs.contains b = false) : Lib.indexAny (b :: l) cs ≠ 0 := by
  simp only [Lib.indexAny, h, Bool.false_eq_true, if_false]
  have ge := Lib.indexAny_ge cs l
  split
  · omega
  · rename_i hne; simp only [beq_iff_eq] at hne; omega
theorem size_ext {s : ByteArray} {i j : Nat} (hj : j ≤ s.size) : (s.extract i j).size = j - i := by rw [ByteArray.size_extract]; omega
theorem len_data (s : ByteArray) : s.data.toList.length = s.size := by simp
theorem ext_head {s : ByteArray} {i : Nat} (hi : i < s.size) : ∃ t, (s.extract i s.size).data.toList = byteAt s i :: t := by
  have h' : i < s.data.toList.length := by simpa using hi
  refine ⟨s.data.toList.drop (i + 1), ?_⟩
  rw [ByteArray.data_extract, Array.toList_extract, List.extract_eq_take_drop]
  rw [List.take_of_length_le (by simp), List.drop_eq_getElem_cons h']
  congr 1
  unfold byteAt
  rw [List.getD_eq_getElem?_getD, List.getElem?_eq_getElem h']; rfl
def blankB (c : UInt8) : Bool := ((c.toNat : Int) == 32) || ((c.toNat : Int) == 9)
/-- Words of a line from a place on, behind those that are read; none: a fault. -/
def wordsF : Nat → ByteArray → Nat → List ByteArray → Option (List ByteArray)
  | 0, _, _, out => some out
  | k + 1, s, i, out =>
    if i < s.size then
      if blankB (byteAt s i) = true then wordsF k s (i + 1) out
      else if byteAt s i = 34 then
        match lexq (s.data.toList.drop (i + 1)) [] (i + 1) with
        | none => none
        | some (w, q) => if q < s.size ∧ blankB (byteAt s q) = false then none else wordsF k s q (out ++ [⟨w.toArray⟩])
      else
        let n := if Lib.indexAny (s.extract i s.size).data.toList [32, 9] < 0 then s.size - i else (Lib.indexAny (s.extract i s.size).data.toList [32, 9]).toNat
        if 0 ≤ Lib.indexAny (s.extract i (i + n)).data.toList [34, 10] then none else wordsF k s (i + n) (out ++ [s.extract i (i + n)])
    else some out
def wordsL (s : ByteArray) : Option (List ByteArray) := wordsF (s.size + 1) s 0 []
@[irreducible] def wordsE (s : ByteArray) : Int := if 65536 < s.size then 2 else if (wordsL s).isSome = true then 0 else 150
@[irreducible] def wordsV (s : ByteArray) : List ByteArray := if 65536 < s.size then [] else (wordsL s).getD []
theorem words_bad {s : ByteArray} (hz : s.size ≤ 65536) (h : wordsL s = none) : LeqD (.tup [nilv, i64 150]) (.tup [eS (wordsV s), i64 (wordsE s)]) := by
  have e1 : wordsE s = 150 := by unfold wordsE; rw [if_neg (by omega), h]; rfl
  have e2 : wordsV s = [] := by unfold wordsV; rw [if_neg (by omega), h]; rfl
  rw [e1, e2]
  repeat' (first | exact LeqD.refl _ | exact LeqDL.refl _ | exact LeqD.nil (by decide) | refine LeqDL.cons ?_ ?_ | refine LeqD.tup ?_)
theorem words_good {s : ByteArray} {o : List ByteArray} (hz : s.size ≤ 65536) (h : wordsL s = some o) : LeqD (.tup [eS o, i64 0]) (.tup [eS (wordsV s), i64 (wordsE s)]) := by
  have e1 : wordsE s = 0 := by unfold wordsE; rw [if_neg (by omega), h]; rfl
  have e2 : wordsV s = o := by unfold wordsV; rw [if_neg (by omega), h]; rfl
  rw [e1, e2]; exact LeqD.refl _
theorem words_long {s : ByteArray} (hz : 65536 < s.size) : LeqD (.tup [nilv, i64 2]) (.tup [eS (wordsV s), i64 (wordsE s)]) := by
  have e1 : wordsE s = 2 := by unfold wordsE; rw [if_pos hz]
  have e2 : wordsV s = [] := by unfold wordsV; rw [if_pos hz]
  rw [e1, e2]
  repeat' (first | exact LeqD.refl _ | exact LeqDL.refl _ | exact LeqD.nil (by decide) | refine LeqDL.cons ?_ ?_ | refine LeqD.tup ?_)
theorem blankB_yes {s : ByteArray} {i : Nat} (h : ((byteAt s i).toNat : Int) = 32 ∨ ((byteAt s i).toNat : Int) = 9) : blankB (byteAt s i) = true := by simp only [blankB, Bool.or_eq_true, beq_iff_eq]; exact h
theorem blankB_no {s : ByteArray} {i : Nat} (h : ¬ ((byteAt s i).toNat : Int) = 32 ∧ ¬ ((byteAt s i).toNat : Int) = 9) : blankB (byteAt s i) = false := by simp only [blankB, Bool.or_eq_false_iff, beq_eq_false_iff_ne]; exact h
theorem u8_yes {c : UInt8} (h : (c.toNat : Int) = 34) : c = 34 := UInt8.toNat_inj.1 (by simpa using (by omega : c.toNat = 34))
theorem u8_no {c : UInt8} (h : ¬ (c.toNat : Int) = 34) : ¬ c = 34 := fun e => h (by rw [e]; rfl)
/-- A place at which no blank and no quote stands. -/
theorem wordsF_plain {k : Nat} {s : ByteArray} {i : Nat} {out : List ByteArray} {r : Int} {n : Nat} (hi : i < s.size) (h1 : blankB (byteAt s i) = false) (h2 : ¬ byteAt s i = 34) (hr : Lib.indexAny (s.extract i s.size).data.toList [32, 9] = r) (hn : (if r < 0 then s.size - i else r.toNat) = n) :
    wordsF (k + 1) s i out = if 0 ≤ Lib.indexAny (s.extract i (i + n)).data.toList [34, 10] then none else wordsF k s (i + n) (out ++ [s.extract i (i + n)]) := by
  rw [wordsF, if_pos hi, if_neg (by rw [h1]; simp), if_neg h2]
  simp only [hr, hn]
theorem wordsF_q0 {k : Nat} {s : ByteArray} {i : Nat} {out : List ByteArray} (hi : i < s.size) (h1 : blankB (byteAt s i) = false) (h2 : byteAt s i = 34) (hR : lexq (s.data.toList.drop (i + 1)) [] (i + 1) = none) : wordsF (k + 1) s i out = none := by
  rw [wordsF, if_pos hi, if_neg (by rw [h1]; simp), if_pos h2]
  simp only [hR]
theorem wordsF_q1 {k : Nat} {s : ByteArray} {i : Nat} {out : List ByteArray} {w : List UInt8} {q : Nat} (hi : i < s.size) (h1 : blankB (byteAt s i) = false) (h2 : byteAt s i = 34) (hR : lexq (s.data.toList.drop (i + 1)) [] (i + 1) = some (w, q)) :
    wordsF (k + 1) s i out = if q < s.size ∧ blankB (byteAt s q) = false then none else wordsF k s q (out ++ [⟨w.toArray⟩]) := by
  rw [wordsF, if_pos hi, if_neg (by rw [h1]; simp), if_pos h2]
  simp only [hR]
theorem c_lex_Words {s : ByteArray} : XPure Tryz.prog 66 [str s] (.tup [eS (wordsV s), i64 (wordsE s)]) false := by
  refine XPure.bodyN ⟨_, Tryz.func66, rfl, by kernel_rfl⟩ Tryz.func66 rfl (Nat.le_of_ble_eq_true (by rfl)) (pf_of1 rfl) fun env => ?_
  repeat' ((conv => whnf); (fail_if_success (with_reducible show LeqD _ _)); (fail_if_success (with_reducible show ∃ _, _ ∧ _ ∧ Weak _ _ _)); first
    | ((with_reducible show guardA _ _ _ _ _ _ ∨ _); first
      | (refine .inr ?_; (conv => whnf); refine ⟨_, ?_, fun h => rfl, rfl, ?_⟩; ((conv => whnf); first | exact trivial | (refine ⟨?_, trivial⟩; (first | exact fun h => h | exact fun _ => rfl | exact notF | exact andL | exact andR | exact fun h' => andI h h' | exact fun h' => andN h h'))))
      | (refine .inr ?_; (conv => whnf); refine ⟨_, trivial, fun h => ⟨?_, ?_, ?_, rfl⟩, rfl, ?_⟩; (first | exact h | rfl); (first | exact fun h => h | exact fun _ => rfl | exact notF | exact andL | exact andR | exact fun h' => andI h h' | exact fun h' => andN h h'); (first | exact fun h => h | exact fun _ => rfl | exact notF | exact andL | exact andR | exact fun h' => andI h h' | exact fun h' => andN h h'))
      | (refine .inl ?_; (conv => whnf); first | refine gY (by with_reducible first | rfl | assumption) ?_ | refine gTF (by with_reducible first | rfl | assumption) ?_ | refine gFT (by with_reducible first | rfl | assumption) ?_ | ((first | refine gsT (fun h => ?_) (fun h => ?_) | refine gsF (fun h => ?_) (fun h => ?_)) <;> (have hs := h; try simp only [reduceCtorEq, emptyLit, emptyLit2, Int.reduceEq, Int.reduceNe, Int.reduceLT, Int.reduceLE, Int.reduceBEq, Int.reduceBNe, false_and, and_false, false_or, or_false, true_and, and_true, true_or, or_true, not_true_eq_false, not_false_eq_true, cond_true, cond_false, Int.toNat_natCast, List.length_map, beqS_iff, beqS_no, Bool.cond_true_left, Bool.cond_false_right, Bool.or_eq_true, Bool.or_eq_false_iff, Bool.and_eq_true, Bool.and_eq_false_iff, decide_eq_true_eq, decide_eq_false_iff_not, Bool.not_eq_true', Bool.not_eq_false', beq_iff_eq, bne_iff_ne, beq_eq_false_iff_ne, bne_eq_false_iff_eq, Int.ofNat_lt, Int.ofNat_le, Int.not_lt, Int.not_le, ge_iff_le, gt_iff_lt, ne_eq] at hs)))
      | (refine .inl ?_))
    | refine cTrue (by with_reducible first | rfl | assumption) ?_
    | refine cFalse (by with_reducible first | rfl | assumption) ?_
    | refine gY (by with_reducible first | rfl | assumption) ?_
    | refine gTF (by with_reducible first | rfl | assumption) ?_
    | refine gFT (by with_reducible first | rfl | assumption) ?_
    | ((first | refine gsT (fun h => ?_) (fun h => ?_) | refine gsF (fun h => ?_) (fun h => ?_) | refine ⟨fun h => ?_, fun h => ?_⟩) <;> (have hs := h; try simp only [reduceCtorEq, emptyLit, emptyLit2, Int.reduceEq, Int.reduceNe, Int.reduceLT, Int.reduceLE, Int.reduceBEq, Int.reduceBNe, false_and, and_false, false_or, or_false, true_and, and_true, true_or, or_true, not_true_eq_false, not_false_eq_true, cond_true, cond_false, Int.toNat_natCast, List.length_map, beqS_iff, beqS_no, Bool.cond_true_left, Bool.cond_false_right, Bool.or_eq_true, Bool.or_eq_false_iff, Bool.and_eq_true, Bool.and_eq_false_iff, decide_eq_true_eq, decide_eq_false_iff_not, Bool.not_eq_true', Bool.not_eq_false', beq_iff_eq, bne_iff_ne, beq_eq_false_iff_ne, bne_eq_false_iff_eq, Int.ofNat_lt, Int.ofNat_le, Int.not_lt, Int.not_le, ge_iff_le, gt_iff_lt, ne_eq] at hs))
    | ((with_reducible show _ ∧ _ ∧ Weak _ _ _); refine ⟨?_, ?_, Weak.go⟩; (omega))
    | ((with_reducible show (_ ∧ _ ∧ _) ∧ _); refine ⟨⟨by kernel_rfl, by kernel_rfl, by rfl⟩, ?_⟩)
    | ((with_reducible show AV.pf _ = true ∧ _); refine ⟨pf_of1 rfl, ?_⟩)
    | (refine ⟨rfl, ?_, ?_, ?_⟩; (first | exact fun h => h | exact fun _ => rfl | exact notF | exact andL | exact andR | exact fun h' => andI h h' | exact fun h' => andN h h'); (first | exact fun h => h | exact fun _ => rfl | exact notF | exact andL | exact andR | exact fun h' => andI h h' | exact fun h' => andN h h'))
    | ((with_reducible show (_ ∨ _) ∧ _ ∧ retA _ _ _ _ _); refine ⟨?_, rfl, ?_⟩; (first | exact .inr rfl | exact .inl rfl))
    | ((with_reducible show _ = _ ∧ _ = false ∧ _ = _); refine ⟨?_, rfl, rfl⟩; try (first | rfl | (conv => lhs; whnf)))
    | ((with_reducible show _ = _ ∧ (_ → _)); refine ⟨?_, ?_⟩; try (first | rfl | (conv => lhs; whnf)))
    | exact fun h => h
    | exact fun _ => rfl
    | refine ⟨rfl, ?_⟩
    | (refine ⟨Nat.le_of_ble_eq_true rfl, ?_⟩)
    | (refine ⟨?_, ?_, ?_⟩; (first | (refine sizeOk rfl ?_; simp only [List.length_map, List.length_append, List.length_take, List.length_drop, List.length_cons, List.length_nil]; omega) | omega | (simp only [List.length_map, List.length_append, List.length_take, List.length_drop, List.length_cons, List.length_nil]; omega)); (first | (refine sizeOk rfl ?_; simp only [List.length_map, List.length_append, List.length_take, List.length_drop, List.length_cons, List.length_nil]; omega) | omega | (simp only [List.length_map, List.length_append, List.length_take, List.length_drop, List.length_cons, List.length_nil]; omega)))
    | (refine ⟨?_, ?_⟩; (first | (refine sizeOk rfl ?_; simp only [List.length_map, List.length_append, List.length_take, List.length_drop, List.length_cons, List.length_nil]; omega) | omega | (simp only [List.length_map, List.length_append, List.length_take, List.length_drop, List.length_cons, List.length_nil]; omega)))
    | fail)
  · exact words_long (by omega)
  refine XW.overL [0] (fun (p : Nat × List ByteArray) => [(4, eS p.2), (5, i64 p.1)]) (fun _ => [4]) (fun _ => []) (fun p => p.1 ≤ s.size ∧ p.2.length ≤ p.1 ∧ ∃ k, s.size + 1 ≤ p.1 + k ∧ wordsF k s p.1 p.2 = wordsL s) (fun p => s.size - p.1) (0, []) Weak.go ⟨Nat.zero_le _, Nat.zero_le _, s.size + 1, by omega, rfl⟩ ?_
  rintro ⟨i, out⟩ ⟨hi, ho, k, hk, hA⟩
  dsimp only at hi ho hk hA ⊢
  obtain ⟨k, rfl⟩ : ∃ k', k = k' + 1 := ⟨k - 1, by omega⟩
  refine codeS ?_
  have hq : i < s.size → XPure Tryz.prog 85 [str s, i64 i] _ false := fun h => c_lex_quoted h (by omega)
  obtain ⟨R, hR⟩ : ∃ R, lexq (s.data.toList.drop (i + 1)) [] (i + 1) = R := ⟨_, rfl⟩
  have hI := c_IndexAny (s := s.extract i s.size) (cs := ⟨#[32, 9]⟩) (Nat.le_of_ble_eq_true rfl) (Nat.le_of_ble_eq_true rfl) (by rw [size_ext (Nat.le_refl _)]; omega) rfl
  obtain ⟨r, hr⟩ : ∃ r, Lib.indexAny (s.extract i s.size).data.toList [32, 9] = r := ⟨_, rfl⟩
  rw [hR] at hq
  rw [show (⟨#[32, 9]⟩ : ByteArray).data.toList = [32, 9] from rfl, hr] at hI
  have hr1 : -1 ≤ r := hr ▸ Lib.indexAny_ge _ _
  have hr2 : r < ((s.size - i : Nat) : Int) ∨ r = -1 := by
    rcases indexAny_lt [32, 9] (s.extract i s.size).data.toList with h | ⟨_, h⟩
    · rw [len_data, size_ext (Nat.le_refl _), hr] at h; exact .inl h
    · exact .inr (hr ▸ h)
  have hwi : IntKind.i64.wrap ((i : Int) + 1) = ((i + 1 : Nat) : Int) := by rw [wrapId (by omega) (by omega)]; omega
  have hw2 : IntKind.i64.wrap ((s.size : Int) - (i : Int)) = ((s.size - i : Nat) : Int) := by rw [wrapId (by omega) (by omega)]; omega
  have hw3 : IntKind.i64.wrap ((i : Int) + ((s.size - i : Nat) : Int)) = (s.size : Int) := by rw [wrapId (by omega) (by omega)]; omega
  have hw4 : 0 ≤ r → IntKind.i64.wrap ((i : Int) + r) = ((i + r.toNat : Nat) : Int) := fun h => by rw [wrapId (by omega) (by omega)]; omega
  have hqp : 0 ≤ qP R := by rcases R with _ | ⟨w, q⟩ <;> simp [qP]
  repeat' ((conv => whnf); (fail_if_success (with_reducible show LeqD _ _)); (fail_if_success (with_reducible show ∃ _, _ ∧ _ ∧ Weak _ _ _)); first
    | ((with_reducible show guardA _ _ _ _ _ _ ∨ _); first
      | (refine .inr ?_; (conv => whnf); refine ⟨_, ?_, fun h => rfl, rfl, ?_⟩; ((conv => whnf); first | exact trivial | (refine ⟨?_, trivial⟩; (first | exact fun h => h | exact fun _ => rfl | exact notF | exact andL | exact andR | exact fun h' => andI h h' | exact fun h' => andN h h'))))
      | (refine .inr ?_; (conv => whnf); refine ⟨_, trivial, fun h => ⟨?_, ?_, ?_, rfl⟩, rfl, ?_⟩; (first | exact h | rfl); (first | exact fun h => h | exact fun _ => rfl | exact notF | exact andL | exact andR | exact fun h' => andI h h' | exact fun h' => andN h h'); (first | exact fun h => h | exact fun _ => rfl | exact notF | exact andL | exact andR | exact fun h' => andI h h' | exact fun h' => andN h h'))
      | (refine .inl ?_; (conv => whnf); first | refine gY (by with_reducible first | rfl | assumption) ?_ | refine gTF (by with_reducible first | rfl | assumption) ?_ | refine gFT (by with_reducible first | rfl | assumption) ?_ | ((first | refine gsT (fun h => ?_) (fun h => ?_) | refine gsF (fun h => ?_) (fun h => ?_)) <;> (have hs := h; try simp only [reduceCtorEq, emptyLit, emptyLit2, Int.reduceEq, Int.reduceNe, Int.reduceLT, Int.reduceLE, Int.reduceBEq, Int.reduceBNe, false_and, and_false, false_or, or_false, true_and, and_true, true_or, or_true, not_true_eq_false, not_false_eq_true, cond_true, cond_false, Int.toNat_natCast, List.length_map, beqS_iff, beqS_no, Bool.cond_true_left, Bool.cond_false_right, Bool.or_eq_true, Bool.or_eq_false_iff, Bool.and_eq_true, Bool.and_eq_false_iff, decide_eq_true_eq, decide_eq_false_iff_not, Bool.not_eq_true', Bool.not_eq_false', beq_iff_eq, bne_iff_ne, beq_eq_false_iff_ne, bne_eq_false_iff_eq, Int.ofNat_lt, Int.ofNat_le, Int.not_lt, Int.not_le, ge_iff_le, gt_iff_lt, ne_eq] at hs)))
      | (refine .inl ?_))
    | refine cTrue (by with_reducible first | rfl | assumption) ?_
    | refine cFalse (by with_reducible first | rfl | assumption) ?_
    | refine gY (by with_reducible first | rfl | assumption) ?_
    | refine gTF (by with_reducible first | rfl | assumption) ?_
    | refine gFT (by with_reducible first | rfl | assumption) ?_
    | ((first | refine gsT (fun h => ?_) (fun h => ?_) | refine gsF (fun h => ?_) (fun h => ?_) | refine ⟨fun h => ?_, fun h => ?_⟩) <;> (have hs := h; try simp only [reduceCtorEq, emptyLit, emptyLit2, Int.reduceEq, Int.reduceNe, Int.reduceLT, Int.reduceLE, Int.reduceBEq, Int.reduceBNe, false_and, and_false, false_or, or_false, true_and, and_true, true_or, or_true, not_true_eq_false, not_false_eq_true, cond_true, cond_false, Int.toNat_natCast, List.length_map, beqS_iff, beqS_no, Bool.cond_true_left, Bool.cond_false_right, Bool.or_eq_true, Bool.or_eq_false_iff, Bool.and_eq_true, Bool.and_eq_false_iff, decide_eq_true_eq, decide_eq_false_iff_not, Bool.not_eq_true', Bool.not_eq_false', beq_iff_eq, bne_iff_ne, beq_eq_false_iff_ne, bne_eq_false_iff_eq, Int.ofNat_lt, Int.ofNat_le, Int.not_lt, Int.not_le, ge_iff_le, gt_iff_lt, ne_eq] at hs))
    | (refine .inl ⟨_, _, c_lex_blank, ?_⟩)
    | (refine .inl ⟨_, _, hq (by omega), ?_⟩)
    | (refine .inl ⟨_, _, hI, ?_⟩)
    | (refine .inl ⟨_, _, c_ContainsAny (Nat.le_of_ble_eq_true rfl) (Nat.le_of_ble_eq_true rfl) (by rw [size_ext (by omega)]; omega) rfl, ?_⟩)
    | ((with_reducible show _ ∧ _ ∧ Weak _ _ _); refine ⟨?_, ?_, Weak.go⟩; (omega))
    | (first | rw [hw2] | rw [hw3] | rw [hw4 (by omega)])
    | ((with_reducible show (_ ∧ _ ∧ _) ∧ _); refine ⟨⟨by kernel_rfl, by kernel_rfl, by rfl⟩, ?_⟩)
    | ((with_reducible show AV.pf _ = true ∧ _); refine ⟨pf_of1 rfl, ?_⟩)
    | (refine ⟨rfl, ?_, ?_, ?_⟩; (first | exact fun h => h | exact fun _ => rfl | exact notF | exact andL | exact andR | exact fun h' => andI h h' | exact fun h' => andN h h'); (first | exact fun h => h | exact fun _ => rfl | exact notF | exact andL | exact andR | exact fun h' => andI h h' | exact fun h' => andN h h'))
    | ((with_reducible show (_ ∨ _) ∧ _ ∧ retA _ _ _ _ _); refine ⟨?_, rfl, ?_⟩; (first | exact .inr rfl | exact .inl rfl))
    | ((with_reducible show _ = _ ∧ _ = false ∧ _ = _); refine ⟨?_, rfl, rfl⟩; try (first | rfl | (conv => lhs; whnf)))
    | ((with_reducible show _ = _ ∧ (_ → _)); refine ⟨?_, ?_⟩; try (first | rfl | (conv => lhs; whnf)))
    | exact fun h => h
    | exact fun _ => rfl
    | refine ⟨rfl, ?_⟩
    | (refine ⟨Nat.le_of_ble_eq_true rfl, ?_⟩)
    | (refine ⟨?_, ?_, ?_⟩; (first | (refine sizeOk rfl ?_; simp only [List.length_map, List.length_append, List.length_cons, List.length_nil]; omega) | omega | (simp only [List.length_map, List.length_append, List.length_cons, List.length_nil]; omega) | (rw [size_ext (by omega)]; omega)); (first | (refine sizeOk rfl ?_; simp only [List.length_map, List.length_append, List.length_cons, List.length_nil]; omega) | omega | (simp only [List.length_map, List.length_append, List.length_cons, List.length_nil]; omega) | (rw [size_ext (by omega)]; omega)))
    | (refine ⟨?_, ?_⟩; (first | (refine sizeOk rfl ?_; simp only [List.length_map, List.length_append, List.length_cons, List.length_nil]; omega) | omega | (simp only [List.length_map, List.length_append, List.length_cons, List.length_nil]; omega) | (rw [size_ext (by omega)]; omega)))
    | fail)
  · rw [wordsF, if_pos (by assumption), if_pos (blankB_yes hs)] at hA
    conv => whnf
    rw [hwi]
    refine ⟨(i + 1, out), by dsimp only; omega, ⟨by dsimp only; omega, by dsimp only; omega, k, by dsimp only; omega, hA⟩, Weak.go⟩
  · rcases R with _ | ⟨w, q⟩
    · exact words_bad (by omega) (by rw [← hA, wordsF_q0 (by assumption) (blankB_no (by assumption)) (u8_yes (by assumption)) hR])
    · rw [wordsF_q1 (by assumption) (blankB_no (by assumption)) (u8_yes (by assumption)) hR] at hA
      have hlt : q < s.size := by have : ((q : Nat) : Int) < s.size := by assumption
                                  omega
      have hb : blankB (byteAt s q) = false := by
        rcases hs with h | ⟨_, h⟩
        · cases h
        · exact blankB_no h
      rw [if_pos ⟨hlt, hb⟩] at hA
      exact words_bad (by omega) hA.symm
  · rcases R with _ | ⟨w, q⟩
    · cases ‹qB none = true›
    · have hb := lexq_at _ _ _ _ _ hR
      rw [List.length_drop, len_data] at hb
      rw [wordsF_q1 (by assumption) (blankB_no (by assumption)) (u8_yes (by assumption)) hR] at hA
      have hM := map_snoc eStr out (qW (some (w, q)))
      rw [if_neg (by
        rintro ⟨g1, g2⟩
        rcases hs.2 with g | g
        · have : (s.size : Int) ≤ ((q : Nat) : Int) := g
          omega
        · exact absurd (blankB_yes g) (by show ¬ blankB (byteAt s q) = true; rw [g2]; simp))] at hA
      conv => whnf
      refine ⟨(q, out ++ [qW (some (w, q))]), by dsimp only; omega, ⟨by dsimp only; omega, by simp only [List.length_append, List.length_cons, List.length_nil]; omega, k, by dsimp only; omega, hA⟩, Weak.go⟩
  · exfalso; simp_all
  · rcases R with _ | ⟨w, q⟩
    · cases ‹qB none = true›
    · have hb := lexq_at _ _ _ _ _ hR
      rw [List.length_drop, len_data] at hb
      rw [wordsF_q1 (by assumption) (blankB_no (by assumption)) (u8_yes (by assumption)) hR] at hA
      have hM := map_snoc eStr out (qW (some (w, q)))
      rw [if_neg (by
        rintro ⟨g1, g2⟩
        have : (s.size : Int) ≤ ((q : Nat) : Int) := by assumption
        omega)] at hA
      conv => whnf
      refine ⟨(q, out ++ [qW (some (w, q))]), by dsimp only; omega, ⟨by dsimp only; omega, by simp only [List.length_append, List.length_cons, List.length_nil]; omega, k, by dsimp only; omega, hA⟩, Weak.go⟩
  · rcases R with _ | ⟨w, q⟩
    · exact words_bad (by omega) (by rw [← hA, wordsF_q0 (by assumption) (blankB_no (by assumption)) (u8_yes (by assumption)) hR])
    · cases hs
  · rw [wordsF_plain (n := s.size - i) (by assumption) (blankB_no (by assumption)) (u8_no (by assumption)) hr (if_pos (by assumption)), show i + (s.size - i) = s.size from by omega, if_pos hs] at hA
    exact words_bad (by omega) hA.symm
  · rw [wordsF_plain (n := s.size - i) (by assumption) (blankB_no (by assumption)) (u8_no (by assumption)) hr (if_pos (by assumption)), show i + (s.size - i) = s.size from by omega, if_neg (by omega)] at hA
    have hM := map_snoc eStr out (s.extract i s.size)
    conv => whnf
    refine ⟨(s.size, out ++ [s.extract i s.size]), by dsimp only; omega, ⟨by dsimp only; omega, by simp only [List.length_append, List.length_cons, List.length_nil]; omega, k, by dsimp only; omega, hA⟩, Weak.go⟩
  · rw [wordsF_plain (n := r.toNat) (by assumption) (blankB_no (by assumption)) (u8_no (by assumption)) hr (if_neg (by omega)), if_pos hs] at hA
    exact words_bad (by omega) hA.symm
  · have hq' : Lib.indexAny (s.extract i (i + r.toNat)).data.toList [34, 10] < 0 := hs
    rw [wordsF_plain (n := r.toNat) (by assumption) (blankB_no (by assumption)) (u8_no (by assumption)) hr (if_neg (by omega)), if_neg (by omega)] at hA
    have hM := map_snoc eStr out (s.extract i (i + r.toNat))
    have hr0 : r ≠ 0 := by
      rintro rfl
      obtain ⟨t, ht⟩ := ext_head (s := s) (i := i) (by assumption)
      rw [ht] at hr
      exact indexAny_pos (by have := blankB_no (s := s) (i := i) (by assumption); simp only [blankB, Bool.or_eq_false_iff, beq_eq_false_iff_ne] at this; simp only [List.contains_cons, List.contains_nil, Bool.or_false, Bool.or_eq_false_iff, beq_eq_false_iff_ne]; exact ⟨fun e => this.1 (by rw [e]; rfl), fun e => this.2 (by rw [e]; rfl)⟩) hr
    conv => whnf
    refine ⟨(i + r.toNat, out ++ [s.extract i (i + r.toNat)]), by dsimp only; omega, ⟨by dsimp only; omega, by simp only [List.length_append, List.length_cons, List.length_nil]; omega, k, by dsimp only; omega, hA⟩, Weak.go⟩
  · rw [wordsF, if_neg hs] at hA
    exact words_good (by omega) hA.symm
end Go.Proofs.YtepdiooaoegpfaaGreatDoor.Fx
end
section
/- A copying command is read. Conditions: those in each statement. -/
namespace Go.Proofs.YtepdiooaoegpfaaGreatDoor.Fx
open Go Go.Proofs Go.Ev Go.RowKit
set_option maxRecDepth 100000
set_option maxHeartbeats 1600000
set_option linter.unusedSimpArgs false
set_option linter.unusedVariables false
abbrev eC (op : Int) (dst : ByteArray) (src words : List ByteArray) (st : Int) : AV := .agg [i64 op, str dst, eS src, eS words, i64 st]
abbrev copyW : ByteArray := ⟨#[99, 111, 112, 121]⟩
abbrev heads1 : List ByteArray := [copyW, ⟨#[99, 111, 110, 99, 97, 116]⟩, ⟨#[101, 99, 104, 111, 45, 116, 111]⟩, ⟨#[116, 111, 117, 99, 104]⟩, ⟨#[114, 101, 109, 111, 118, 101]⟩, ⟨#[116, 101, 115, 116, 45, 101, 120, 105, 115, 116, 115]⟩, ⟨#[102, 97, 105, 108]⟩, ⟨#[115, 97, 121]⟩]
theorem c_heads : XPure Tryz.prog 88 [] (eS (⟨#[]⟩ :: heads1)) false := by
  refine XPure.body ⟨_, Tryz.func88, rfl, by kernel_rfl⟩ Tryz.func88 rfl (Nat.le_of_ble_eq_true (by rfl)) (pf_of1 rfl) fun env => ?_
  repeat' ((conv => whnf); (fail_if_success (with_reducible show ∃ _, _ ∧ _ ∧ Weak _ _ _)); first
    | ((with_reducible show guardA _ _ _ _ _ _ ∨ _); first
      | (refine .inr ?_; (conv => whnf); refine ⟨_, ?_, fun h => rfl, rfl, ?_⟩; ((conv => whnf); first | exact trivial | (refine ⟨?_, trivial⟩; (first | exact fun h => h | exact fun _ => rfl | exact notF | exact andL | exact andR | exact fun h' => andI h h' | exact fun h' => andN h h'))))
      | (refine .inr ?_; (conv => whnf); refine ⟨_, trivial, fun h => ⟨?_, ?_, ?_, rfl⟩, rfl, ?_⟩; (first | exact h | rfl); (first | exact fun h => h | exact fun _ => rfl | exact notF | exact andL | exact andR | exact fun h' => andI h h' | exact fun h' => andN h h'); (first | exact fun h => h | exact fun _ => rfl | exact notF | exact andL | exact andR | exact fun h' => andI h h' | exact fun h' => andN h h'))
      | (refine .inl ?_; (conv => whnf); first | refine gY (by with_reducible first | rfl | assumption) ?_ | refine gTF (by with_reducible first | rfl | assumption) ?_ | refine gFT (by with_reducible first | rfl | assumption) ?_ | ((first | refine gsT (fun h => ?_) (fun h => ?_) | refine gsF (fun h => ?_) (fun h => ?_)) <;> (have hs := h; try simp only [reduceCtorEq, emptyLit, emptyLit2, Int.reduceEq, Int.reduceNe, Int.reduceLT, Int.reduceLE, Int.reduceBEq, Int.reduceBNe, false_and, and_false, false_or, or_false, true_and, and_true, true_or, or_true, not_true_eq_false, not_false_eq_true, cond_true, cond_false, Int.toNat_natCast, List.length_map, beqS_iff, beqS_no, Bool.cond_true_left, Bool.cond_false_right, Bool.or_eq_true, Bool.or_eq_false_iff, Bool.and_eq_true, Bool.and_eq_false_iff, decide_eq_true_eq, decide_eq_false_iff_not, Bool.not_eq_true', Bool.not_eq_false', beq_iff_eq, bne_iff_ne, beq_eq_false_iff_ne, bne_eq_false_iff_eq, Int.ofNat_lt, Int.ofNat_le, Int.not_lt, Int.not_le, ge_iff_le, gt_iff_lt, ne_eq] at hs)))
      | (refine .inl ?_))
    | refine cTrue (by with_reducible first | rfl | assumption) ?_
    | refine cFalse (by with_reducible first | rfl | assumption) ?_
    | refine gY (by with_reducible first | rfl | assumption) ?_
    | refine gTF (by with_reducible first | rfl | assumption) ?_
    | refine gFT (by with_reducible first | rfl | assumption) ?_
    | ((first | refine gsT (fun h => ?_) (fun h => ?_) | refine gsF (fun h => ?_) (fun h => ?_) | refine ⟨fun h => ?_, fun h => ?_⟩) <;> (have hs := h; try simp only [reduceCtorEq, emptyLit, emptyLit2, Int.reduceEq, Int.reduceNe, Int.reduceLT, Int.reduceLE, Int.reduceBEq, Int.reduceBNe, false_and, and_false, false_or, or_false, true_and, and_true, true_or, or_true, not_true_eq_false, not_false_eq_true, cond_true, cond_false, Int.toNat_natCast, List.length_map, beqS_iff, beqS_no, Bool.cond_true_left, Bool.cond_false_right, Bool.or_eq_true, Bool.or_eq_false_iff, Bool.and_eq_true, Bool.and_eq_false_iff, decide_eq_true_eq, decide_eq_false_iff_not, Bool.not_eq_true', Bool.not_eq_false', beq_iff_eq, bne_iff_ne, beq_eq_false_iff_ne, bne_eq_false_iff_eq, Int.ofNat_lt, Int.ofNat_le, Int.not_lt, Int.not_le, ge_iff_le, gt_iff_lt, ne_eq] at hs))
    | ((with_reducible show _ ∧ _ ∧ Weak _ _ _); refine ⟨?_, ?_, Weak.go⟩; (omega))
    | ((with_reducible show (_ ∧ _ ∧ _) ∧ _); refine ⟨⟨by kernel_rfl, by kernel_rfl, by rfl⟩, ?_⟩)
    | ((with_reducible show AV.pf _ = true ∧ _); refine ⟨pf_of1 rfl, ?_⟩)
    | (refine ⟨rfl, ?_, ?_, ?_⟩; (first | exact fun h => h | exact fun _ => rfl | exact notF | exact andL | exact andR | exact fun h' => andI h h' | exact fun h' => andN h h'); (first | exact fun h => h | exact fun _ => rfl | exact notF | exact andL | exact andR | exact fun h' => andI h h' | exact fun h' => andN h h'))
    | ((with_reducible show (_ ∨ _) ∧ _ ∧ retA _ _ _ _ _); refine ⟨?_, rfl, ?_⟩; (first | exact .inr rfl | exact .inl rfl))
    | ((with_reducible show _ = _ ∧ _ = false ∧ _ = _); refine ⟨?_, rfl, rfl⟩; try (first | rfl | (conv => lhs; whnf)))
    | ((with_reducible show LeqD _ _); try (first | (repeat' (first | exact LeqD.refl _ | exact LeqDL.refl _ | assumption | exact LeqD.nil (by decide) | refine LeqDL.cons ?_ ?_ | refine LeqD.agg ?_ | refine LeqD.tup ?_ | refine LeqD.sl ?_); done) | (first | rfl | (conv => lhs; whnf))); done)
    | ((with_reducible show _ = _ ∧ (_ → _)); refine ⟨?_, ?_⟩; try (first | rfl | (conv => lhs; whnf)))
    | exact fun h => h
    | exact fun _ => rfl
    | refine ⟨rfl, ?_⟩
    | (refine ⟨Nat.le_of_ble_eq_true rfl, ?_⟩)
    | (refine ⟨?_, ?_, ?_⟩; (first | (refine sizeOk rfl ?_; simp only [List.length_map, List.length_append, List.length_take, List.length_drop, List.length_cons, List.length_nil]; omega) | omega | (simp only [List.length_map, List.length_append, List.length_take, List.length_drop, List.length_cons, List.length_nil]; omega)); (first | (refine sizeOk rfl ?_; simp only [List.length_map, List.length_append, List.length_take, List.length_drop, List.length_cons, List.length_nil]; omega) | omega | (simp only [List.length_map, List.length_append, List.length_take, List.length_drop, List.length_cons, List.length_nil]; omega)))
    | (refine ⟨?_, ?_⟩; (first | (refine sizeOk rfl ?_; simp only [List.length_map, List.length_append, List.length_take, List.length_drop, List.length_cons, List.length_nil]; omega) | omega | (simp only [List.length_map, List.length_append, List.length_take, List.length_drop, List.length_cons, List.length_nil]; omega)))
    | rw [wrapId (by omega) (by omega)]
    | fail)
theorem leq_cmd {op op' st st' e e' : Int} {d d' : ByteArray} {a a' : List ByteArray} (h1 : op = op') (h2 : d = d') (h3 : a = a') (h4 : st = st') (h5 : e = e') : LeqD (.tup [.agg [i64 op, str d, eS a, nilv, i64 st], i64 e]) (.tup [eC op' d' a' [] st', i64 e']) := by
  subst h1 h2 h3 h4 h5
  repeat' (first | exact LeqD.nil (by decide) | exact LeqD.refl _ | exact LeqDL.refl _ | refine LeqDL.cons ?_ ?_ | refine LeqD.agg ?_ | refine LeqD.tup ?_)
theorem c_Parse_copy {a b : ByteArray} (ha : isName a = true) (hb : isName b = true) : XPure Tryz.prog 67 [eS [copyW, a, b]] (.tup [eC 1 b [a] [] 0, i64 0]) false := by
  have hI : XPure Tryz.prog 68 [eS heads1, str copyW] (i64 0) false := by
    have h := c_Index (l := heads1) (s := copyW) (Nat.le_of_ble_eq_true rfl)
    have e : findN heads1 copyW 0 = 0 := by simp [findN, beqS_self]
    rwa [e] at h
  have hsz : ∀ x : ByteArray, isName x = true → x.size ≤ 140737488355328 := fun x h => by
    unfold isName at h; simp only [Bool.and_eq_true, decide_eq_true_eq] at h; omega
  have hF : XPure Tryz.prog 93 [eS [a, b]] (i64 0) false := by
    have h := c_cmd_files (l := [a, b]) (Nat.le_of_ble_eq_true rfl) (sz2 (hsz a ha) (hsz b hb))
    rwa [show errIf ([a, b].all isName) 3 = 0 from by simp [errIf, ha, hb]] at h
  refine XPure.bodyN ⟨_, Tryz.func67, rfl, by kernel_rfl⟩ Tryz.func67 rfl (Nat.le_of_ble_eq_true (by rfl)) (pf_of1 rfl) fun env => ?_
  repeat' ((conv => whnf); (fail_if_success (with_reducible show LeqD _ _)); (fail_if_success (with_reducible show ∃ _, _ ∧ _ ∧ Weak _ _ _)); first
    | ((with_reducible show guardA _ _ _ _ _ _ ∨ _); first
      | (refine .inr ?_; (conv => whnf); refine ⟨_, ?_, fun h => rfl, rfl, ?_⟩; ((conv => whnf); first | exact trivial | (refine ⟨?_, trivial⟩; (first | exact fun h => h | exact fun _ => rfl | exact notF | exact andL | exact andR | exact fun h' => andI h h' | exact fun h' => andN h h'))))
      | (refine .inr ?_; (conv => whnf); refine ⟨_, trivial, fun h => ⟨?_, ?_, ?_, rfl⟩, rfl, ?_⟩; (first | exact h | rfl); (first | exact fun h => h | exact fun _ => rfl | exact notF | exact andL | exact andR | exact fun h' => andI h h' | exact fun h' => andN h h'); (first | exact fun h => h | exact fun _ => rfl | exact notF | exact andL | exact andR | exact fun h' => andI h h' | exact fun h' => andN h h'))
      | (refine .inl ?_; (conv => whnf); first | refine gY (by first | (with_reducible first | rfl | assumption) | decide) ?_ | refine gTF (by first | (with_reducible first | rfl | assumption) | decide) ?_ | refine gFT (by first | (with_reducible first | rfl | assumption) | decide) ?_ | ((first | refine gsT (fun h => ?_) (fun h => ?_) | refine gsF (fun h => ?_) (fun h => ?_)) <;> (have hs := h; try simp only [reduceCtorEq, emptyLit, emptyLit2, Int.reduceEq, Int.reduceNe, Int.reduceLT, Int.reduceLE, Int.reduceBEq, Int.reduceBNe, false_and, and_false, false_or, or_false, true_and, and_true, true_or, or_true, not_true_eq_false, not_false_eq_true, cond_true, cond_false, Int.toNat_natCast, List.length_map, beqS_iff, beqS_no, Bool.cond_true_left, Bool.cond_false_right, Bool.or_eq_true, Bool.or_eq_false_iff, Bool.and_eq_true, Bool.and_eq_false_iff, decide_eq_true_eq, decide_eq_false_iff_not, Bool.not_eq_true', Bool.not_eq_false', beq_iff_eq, bne_iff_ne, beq_eq_false_iff_ne, bne_eq_false_iff_eq, Int.ofNat_lt, Int.ofNat_le, Int.not_lt, Int.not_le, ge_iff_le, gt_iff_lt, ne_eq] at hs)))
      | (refine .inl ?_))
    | refine cTrue (by first | (with_reducible first | rfl | assumption) | decide) ?_
    | refine cFalse (by first | (with_reducible first | rfl | assumption) | decide) ?_
    | refine gY (by first | (with_reducible first | rfl | assumption) | decide) ?_
    | refine gTF (by first | (with_reducible first | rfl | assumption) | decide) ?_
    | refine gFT (by first | (with_reducible first | rfl | assumption) | decide) ?_
    | ((first | refine gsT (fun h => ?_) (fun h => ?_) | refine gsF (fun h => ?_) (fun h => ?_) | refine ⟨fun h => ?_, fun h => ?_⟩) <;> (have hs := h; try simp only [reduceCtorEq, emptyLit, emptyLit2, Int.reduceEq, Int.reduceNe, Int.reduceLT, Int.reduceLE, Int.reduceBEq, Int.reduceBNe, false_and, and_false, false_or, or_false, true_and, and_true, true_or, or_true, not_true_eq_false, not_false_eq_true, cond_true, cond_false, Int.toNat_natCast, List.length_map, beqS_iff, beqS_no, Bool.cond_true_left, Bool.cond_false_right, Bool.or_eq_true, Bool.or_eq_false_iff, Bool.and_eq_true, Bool.and_eq_false_iff, decide_eq_true_eq, decide_eq_false_iff_not, Bool.not_eq_true', Bool.not_eq_false', beq_iff_eq, bne_iff_ne, beq_eq_false_iff_ne, bne_eq_false_iff_eq, Int.ofNat_lt, Int.ofNat_le, Int.not_lt, Int.not_le, ge_iff_le, gt_iff_lt, ne_eq] at hs))
    | (refine .inl ⟨_, _, c_heads, ?_⟩)
    | (refine .inl ⟨_, _, hI, ?_⟩)
    | (refine .inl ⟨_, _, c_CloneS (l := [a, b]) (Nat.le_of_ble_eq_true rfl), ?_⟩)
    | (refine .inl ⟨_, _, c_cmd_count (by omega), ?_⟩)
    | (refine .inl ⟨_, _, hF, ?_⟩)
    | ((with_reducible show _ ∧ _ ∧ Weak _ _ _); refine ⟨?_, ?_, Weak.go⟩; (omega))
    | (refine ⟨_, _, c_heads, ?_⟩)
    | (refine ⟨_, _, hI, ?_⟩)
    | (refine ⟨_, _, c_CloneS (l := [a, b]) (Nat.le_of_ble_eq_true rfl), ?_⟩)
    | (refine ⟨_, _, c_cmd_count (by omega), ?_⟩)
    | (refine ⟨_, _, hF, ?_⟩)
    | (first | (refine XW.draw (id := 5) (m := 8) (by kernel_rfl) (by kernel_rfl) (by rfl) ?_) | (refine XW.drawW (id := 15) (M := 7) (p := 1) (W := [5, 6]) (by kernel_rfl) (by kernel_rfl) ?_) | ((with_reducible show _ ∧ allW _ _); refine ⟨?_, ?_⟩) | exact trivial)
    | ((with_reducible show (_ ∧ _ ∧ _) ∧ _); refine ⟨⟨by kernel_rfl, by kernel_rfl, by rfl⟩, ?_⟩)
    | ((with_reducible show AV.pf _ = true ∧ _); refine ⟨pf_of1 rfl, ?_⟩)
    | (refine ⟨rfl, ?_, ?_, ?_⟩; (first | exact fun h => h | exact fun _ => rfl | exact notF | exact andL | exact andR | exact fun h' => andI h h' | exact fun h' => andN h h'); (first | exact fun h => h | exact fun _ => rfl | exact notF | exact andL | exact andR | exact fun h' => andI h h' | exact fun h' => andN h h'))
    | ((with_reducible show (_ ∨ _) ∧ _ ∧ retA _ _ _ _ _); refine ⟨?_, rfl, ?_⟩; (first | exact .inr rfl | exact .inl rfl))
    | ((with_reducible show _ = _ ∧ _ = false ∧ _ = _); refine ⟨?_, rfl, rfl⟩; try (first | rfl | (conv => lhs; whnf)))
    | ((with_reducible show _ = _ ∧ (_ → _)); refine ⟨?_, ?_⟩; try (first | rfl | (conv => lhs; whnf)))
    | exact fun h => h
    | exact fun _ => rfl
    | refine ⟨rfl, ?_⟩
    | (refine ⟨Nat.le_of_ble_eq_true rfl, ?_⟩)
    | (refine ⟨?_, ?_, ?_⟩; (first | (refine sizeOk rfl ?_; simp only [List.length_map, List.length_append, List.length_take, List.length_drop, List.length_cons, List.length_nil]; omega) | omega | (simp only [List.length_map, List.length_append, List.length_take, List.length_drop, List.length_cons, List.length_nil]; omega)); (first | (refine sizeOk rfl ?_; simp only [List.length_map, List.length_append, List.length_take, List.length_drop, List.length_cons, List.length_nil]; omega) | omega | (simp only [List.length_map, List.length_append, List.length_take, List.length_drop, List.length_cons, List.length_nil]; omega)))
    | (refine ⟨?_, ?_⟩; (first | (refine sizeOk rfl ?_; simp only [List.length_map, List.length_append, List.length_take, List.length_drop, List.length_cons, List.length_nil]; omega) | omega | (simp only [List.length_map, List.length_append, List.length_take, List.length_drop, List.length_cons, List.length_nil]; omega)))
    | rw [wrapId (by omega) (by omega)]
    | fail)
  all_goals try (exfalso; have hs' := hs; simp [manyOk] at hs'; done)
  conv => whnf
  exact leq_cmd (op := 1) (d := b) (a := [a]) (st := 0) (e := 0) rfl rfl rfl rfl rfl
end Go.Proofs.YtepdiooaoegpfaaGreatDoor.Fx
end
section
/- A copying command: what it reads and writes. Conditions: those in each statement. -/
namespace Go.Proofs.YtepdiooaoegpfaaGreatDoor.Fx
open Go Go.Proofs Go.Ev Go.RowKit
set_option maxRecDepth 100000
set_option maxHeartbeats 1600000
set_option linter.unusedSimpArgs false
set_option linter.unusedVariables false
theorem c_Line_copy {t a b : ByteArray} (hV : wordsV t = [copyW, a, b]) (hE : wordsE t = 0) (ha : isName a = true) (hb : isName b = true) : XPure Tryz.prog 44 [str t] (.tup [eC 1 b [a] [] 0, i64 0]) false := by
  have hW : XPure Tryz.prog 66 [str t] (.tup [eS [copyW, a, b], i64 0]) false := by
    have h := c_lex_Words (s := t)
    rwa [hV, hE] at h
  refine XPure.body ⟨_, Tryz.func44, rfl, by kernel_rfl⟩ Tryz.func44 rfl (Nat.le_of_ble_eq_true (by rfl)) (pf_of1 rfl) fun env => ?_
  repeat' ((conv => whnf); (fail_if_success (with_reducible show ∃ _, _ ∧ _ ∧ Weak _ _ _)); first
    | ((with_reducible show guardA _ _ _ _ _ _ ∨ _); first
      | (refine .inr ?_; (conv => whnf); refine ⟨_, ?_, fun h => rfl, rfl, ?_⟩; ((conv => whnf); first | exact trivial | (refine ⟨?_, trivial⟩; (first | exact fun h => h | exact fun _ => rfl | exact notF | exact andL | exact andR | exact fun h' => andI h h' | exact fun h' => andN h h'))))
      | (refine .inr ?_; (conv => whnf); refine ⟨_, trivial, fun h => ⟨?_, ?_, ?_, rfl⟩, rfl, ?_⟩; (first | exact h | rfl); (first | exact fun h => h | exact fun _ => rfl | exact notF | exact andL | exact andR | exact fun h' => andI h h' | exact fun h' => andN h h'); (first | exact fun h => h | exact fun _ => rfl | exact notF | exact andL | exact andR | exact fun h' => andI h h' | exact fun h' => andN h h'))
      | (refine .inl ?_; (conv => whnf); first | refine gY (by first | (with_reducible first | rfl | assumption) | decide) ?_ | refine gTF (by first | (with_reducible first | rfl | assumption) | decide) ?_ | refine gFT (by first | (with_reducible first | rfl | assumption) | decide) ?_ | ((first | refine gsT (fun h => ?_) (fun h => ?_) | refine gsF (fun h => ?_) (fun h => ?_)) <;> (have hs := h; try simp only [reduceCtorEq, emptyLit, emptyLit2, Int.reduceEq, Int.reduceNe, Int.reduceLT, Int.reduceLE, Int.reduceBEq, Int.reduceBNe, false_and, and_false, false_or, or_false, true_and, and_true, true_or, or_true, not_true_eq_false, not_false_eq_true, cond_true, cond_false, Int.toNat_natCast, List.length_map, beqS_iff, beqS_no, Bool.cond_true_left, Bool.cond_false_right, Bool.or_eq_true, Bool.or_eq_false_iff, Bool.and_eq_true, Bool.and_eq_false_iff, decide_eq_true_eq, decide_eq_false_iff_not, Bool.not_eq_true', Bool.not_eq_false', beq_iff_eq, bne_iff_ne, beq_eq_false_iff_ne, bne_eq_false_iff_eq, Int.ofNat_lt, Int.ofNat_le, Int.not_lt, Int.not_le, ge_iff_le, gt_iff_lt, ne_eq] at hs)))
      | (refine .inl ?_))
    | refine cTrue (by first | (with_reducible first | rfl | assumption) | decide) ?_
    | refine cFalse (by first | (with_reducible first | rfl | assumption) | decide) ?_
    | refine gY (by first | (with_reducible first | rfl | assumption) | decide) ?_
    | refine gTF (by first | (with_reducible first | rfl | assumption) | decide) ?_
    | refine gFT (by first | (with_reducible first | rfl | assumption) | decide) ?_
    | ((first | refine gsT (fun h => ?_) (fun h => ?_) | refine gsF (fun h => ?_) (fun h => ?_) | refine ⟨fun h => ?_, fun h => ?_⟩) <;> (have hs := h; try simp only [reduceCtorEq, emptyLit, emptyLit2, Int.reduceEq, Int.reduceNe, Int.reduceLT, Int.reduceLE, Int.reduceBEq, Int.reduceBNe, false_and, and_false, false_or, or_false, true_and, and_true, true_or, or_true, not_true_eq_false, not_false_eq_true, cond_true, cond_false, Int.toNat_natCast, List.length_map, beqS_iff, beqS_no, Bool.cond_true_left, Bool.cond_false_right, Bool.or_eq_true, Bool.or_eq_false_iff, Bool.and_eq_true, Bool.and_eq_false_iff, decide_eq_true_eq, decide_eq_false_iff_not, Bool.not_eq_true', Bool.not_eq_false', beq_iff_eq, bne_iff_ne, beq_eq_false_iff_ne, bne_eq_false_iff_eq, Int.ofNat_lt, Int.ofNat_le, Int.not_lt, Int.not_le, ge_iff_le, gt_iff_lt, ne_eq] at hs))
    | (refine .inl ⟨_, _, hW, ?_⟩)
    | (refine .inl ⟨_, _, c_Parse_copy ha hb, ?_⟩)
    | ((with_reducible show _ ∧ _ ∧ Weak _ _ _); refine ⟨?_, ?_, Weak.go⟩; (omega))
    | ((with_reducible show (_ ∧ _ ∧ _) ∧ _); refine ⟨⟨by kernel_rfl, by kernel_rfl, by rfl⟩, ?_⟩)
    | ((with_reducible show AV.pf _ = true ∧ _); refine ⟨pf_of1 rfl, ?_⟩)
    | (refine ⟨rfl, ?_, ?_, ?_⟩; (first | exact fun h => h | exact fun _ => rfl | exact notF | exact andL | exact andR | exact fun h' => andI h h' | exact fun h' => andN h h'); (first | exact fun h => h | exact fun _ => rfl | exact notF | exact andL | exact andR | exact fun h' => andI h h' | exact fun h' => andN h h'))
    | ((with_reducible show (_ ∨ _) ∧ _ ∧ retA _ _ _ _ _); refine ⟨?_, rfl, ?_⟩; (first | exact .inr rfl | exact .inl rfl))
    | ((with_reducible show _ = _ ∧ _ = false ∧ _ = _); refine ⟨?_, rfl, rfl⟩; try (first | rfl | (conv => lhs; whnf)))
    | ((with_reducible show LeqD _ _); try (first | (repeat' (first | exact LeqD.refl _ | exact LeqDL.refl _ | assumption | exact LeqD.nil (by decide) | refine LeqDL.cons ?_ ?_ | refine LeqD.agg ?_ | refine LeqD.tup ?_ | refine LeqD.sl ?_); done) | (first | rfl | (conv => lhs; whnf))); done)
    | ((with_reducible show _ = _ ∧ (_ → _)); refine ⟨?_, ?_⟩; try (first | rfl | (conv => lhs; whnf)))
    | exact fun h => h
    | exact fun _ => rfl
    | refine ⟨rfl, ?_⟩
    | (refine ⟨Nat.le_of_ble_eq_true rfl, ?_⟩)
    | (refine ⟨?_, ?_, ?_⟩; (first | (refine sizeOk rfl ?_; simp only [List.length_map, List.length_append, List.length_take, List.length_drop, List.length_cons, List.length_nil]; omega) | omega | (simp only [List.length_map, List.length_append, List.length_take, List.length_drop, List.length_cons, List.length_nil]; omega)); (first | (refine sizeOk rfl ?_; simp only [List.length_map, List.length_append, List.length_take, List.length_drop, List.length_cons, List.length_nil]; omega) | omega | (simp only [List.length_map, List.length_append, List.length_take, List.length_drop, List.length_cons, List.length_nil]; omega)))
    | (refine ⟨?_, ?_⟩; (first | (refine sizeOk rfl ?_; simp only [List.length_map, List.length_append, List.length_take, List.length_drop, List.length_cons, List.length_nil]; omega) | omega | (simp only [List.length_map, List.length_append, List.length_take, List.length_drop, List.length_cons, List.length_nil]; omega)))
    | rw [wrapId (by omega) (by omega)]
    | fail)
theorem c_of_copy {a b : ByteArray} : XPure Tryz.prog 76 [eC 1 b [a] [] 0] (.tup [.ifc 155 (.agg [str a, str b]), i64 0]) false := by
  refine XPure.body ⟨_, Tryz.func76, rfl, by kernel_rfl⟩ Tryz.func76 rfl (Nat.le_of_ble_eq_true (by rfl)) (pf_of1 rfl) fun env => ?_
  repeat' ((conv => whnf); (fail_if_success (with_reducible show ∃ _, _ ∧ _ ∧ Weak _ _ _)); first
    | ((with_reducible show guardA _ _ _ _ _ _ ∨ _); first
      | (refine .inr ?_; (conv => whnf); refine ⟨_, ?_, fun h => rfl, rfl, ?_⟩; ((conv => whnf); first | exact trivial | (refine ⟨?_, trivial⟩; (first | exact fun h => h | exact fun _ => rfl | exact notF | exact andL | exact andR | exact fun h' => andI h h' | exact fun h' => andN h h'))))
      | (refine .inr ?_; (conv => whnf); refine ⟨_, trivial, fun h => ⟨?_, ?_, ?_, rfl⟩, rfl, ?_⟩; (first | exact h | rfl); (first | exact fun h => h | exact fun _ => rfl | exact notF | exact andL | exact andR | exact fun h' => andI h h' | exact fun h' => andN h h'); (first | exact fun h => h | exact fun _ => rfl | exact notF | exact andL | exact andR | exact fun h' => andI h h' | exact fun h' => andN h h'))
      | (refine .inl ?_; (conv => whnf); first | refine gY (by first | (with_reducible first | rfl | assumption) | grind [beqS_self]) ?_ | refine gTF (by first | (with_reducible first | rfl | assumption) | grind [beqS_self]) ?_ | refine gFT (by first | (with_reducible first | rfl | assumption) | grind [beqS_self]) ?_ | ((first | refine gsT (fun h => ?_) (fun h => ?_) | refine gsF (fun h => ?_) (fun h => ?_)) <;> (have hs := h; try simp only [reduceCtorEq, emptyLit, emptyLit2, Int.reduceEq, Int.reduceNe, Int.reduceLT, Int.reduceLE, Int.reduceBEq, Int.reduceBNe, false_and, and_false, false_or, or_false, true_and, and_true, true_or, or_true, not_true_eq_false, not_false_eq_true, cond_true, cond_false, Int.toNat_natCast, List.length_map, beqS_iff, beqS_no, Bool.cond_true_left, Bool.cond_false_right, Bool.or_eq_true, Bool.or_eq_false_iff, Bool.and_eq_true, Bool.and_eq_false_iff, decide_eq_true_eq, decide_eq_false_iff_not, Bool.not_eq_true', Bool.not_eq_false', beq_iff_eq, bne_iff_ne, beq_eq_false_iff_ne, bne_eq_false_iff_eq, Int.ofNat_lt, Int.ofNat_le, Int.not_lt, Int.not_le, ge_iff_le, gt_iff_lt, ne_eq] at hs)))
      | (refine .inl ?_))
    | refine cTrue (by first | (with_reducible first | rfl | assumption) | grind [beqS_self]) ?_
    | refine cFalse (by first | (with_reducible first | rfl | assumption) | grind [beqS_self]) ?_
    | refine gY (by first | (with_reducible first | rfl | assumption) | grind [beqS_self]) ?_
    | refine gTF (by first | (with_reducible first | rfl | assumption) | grind [beqS_self]) ?_
    | refine gFT (by first | (with_reducible first | rfl | assumption) | grind [beqS_self]) ?_
    | ((first | refine gsT (fun h => ?_) (fun h => ?_) | refine gsF (fun h => ?_) (fun h => ?_) | refine ⟨fun h => ?_, fun h => ?_⟩) <;> (have hs := h; try simp only [reduceCtorEq, emptyLit, emptyLit2, Int.reduceEq, Int.reduceNe, Int.reduceLT, Int.reduceLE, Int.reduceBEq, Int.reduceBNe, false_and, and_false, false_or, or_false, true_and, and_true, true_or, or_true, not_true_eq_false, not_false_eq_true, cond_true, cond_false, Int.toNat_natCast, List.length_map, beqS_iff, beqS_no, Bool.cond_true_left, Bool.cond_false_right, Bool.or_eq_true, Bool.or_eq_false_iff, Bool.and_eq_true, Bool.and_eq_false_iff, decide_eq_true_eq, decide_eq_false_iff_not, Bool.not_eq_true', Bool.not_eq_false', beq_iff_eq, bne_iff_ne, beq_eq_false_iff_ne, bne_eq_false_iff_eq, Int.ofNat_lt, Int.ofNat_le, Int.not_lt, Int.not_le, ge_iff_le, gt_iff_lt, ne_eq] at hs))
    | ((with_reducible show _ ∧ _ ∧ Weak _ _ _); refine ⟨?_, ?_, Weak.go⟩; (omega))
    | ((with_reducible show (_ ∧ _ ∧ _) ∧ _); refine ⟨⟨by kernel_rfl, by kernel_rfl, by rfl⟩, ?_⟩)
    | ((with_reducible show AV.pf _ = true ∧ _); refine ⟨pf_of1 rfl, ?_⟩)
    | (refine ⟨rfl, ?_, ?_, ?_⟩; (first | exact fun h => h | exact fun _ => rfl | exact notF | exact andL | exact andR | exact fun h' => andI h h' | exact fun h' => andN h h'); (first | exact fun h => h | exact fun _ => rfl | exact notF | exact andL | exact andR | exact fun h' => andI h h' | exact fun h' => andN h h'))
    | ((with_reducible show (_ ∨ _) ∧ _ ∧ retA _ _ _ _ _); refine ⟨?_, rfl, ?_⟩; (first | exact .inr rfl | exact .inl rfl))
    | ((with_reducible show _ = _ ∧ _ = false ∧ _ = _); refine ⟨?_, rfl, rfl⟩; try (first | rfl | (conv => lhs; whnf)))
    | ((with_reducible show LeqD _ _); try (first | (repeat' (first | exact LeqD.refl _ | exact LeqDL.refl _ | assumption | exact LeqD.nil (by decide) | refine LeqDL.cons ?_ ?_ | refine LeqD.agg ?_ | refine LeqD.tup ?_ | refine LeqD.sl ?_); done) | (first | rfl | (conv => lhs; whnf))); done)
    | ((with_reducible show _ = _ ∧ (_ → _)); refine ⟨?_, ?_⟩; try (first | rfl | (conv => lhs; whnf)))
    | exact fun h => h
    | exact fun _ => rfl
    | refine ⟨rfl, ?_⟩
    | (refine ⟨Nat.le_of_ble_eq_true rfl, ?_⟩)
    | (refine ⟨?_, ?_, ?_⟩; (first | (refine sizeOk rfl ?_; simp only [List.length_map, List.length_append, List.length_take, List.length_drop, List.length_cons, List.length_nil]; omega) | omega | (simp only [List.length_map, List.length_append, List.length_take, List.length_drop, List.length_cons, List.length_nil]; omega)); (first | (refine sizeOk rfl ?_; simp only [List.length_map, List.length_append, List.length_take, List.length_drop, List.length_cons, List.length_nil]; omega) | omega | (simp only [List.length_map, List.length_append, List.length_take, List.length_drop, List.length_cons, List.length_nil]; omega)))
    | (refine ⟨?_, ?_⟩; (first | (refine sizeOk rfl ?_; simp only [List.length_map, List.length_append, List.length_take, List.length_drop, List.length_cons, List.length_nil]; omega) | omega | (simp only [List.length_map, List.length_append, List.length_take, List.length_drop, List.length_cons, List.length_nil]; omega)))
    | rw [wrapId (by omega) (by omega)]
    | fail)
theorem c_told_copy {a b : ByteArray} (ha : isName a = true) (hb : isName b = true) : XPure Tryz.prog 54 [eC 1 b [a] [] 0] (.tup [.ifc 155 (.agg [str a, str b]), i64 0]) false := by
  have hsz : ∀ x : ByteArray, isName x = true → x.size ≤ 140737488355328 := fun x h => by
    unfold isName at h; simp only [Bool.and_eq_true, decide_eq_true_eq] at h; omega
  have hR : XPure Tryz.prog 171 [.agg [str a, str b]] (i64 0) false := by
    have h := c_copying_right (hsz a ha) (hsz b hb)
    rwa [show errIf ([b, a].all isName) 3 = 0 from by simp [errIf, ha, hb]] at h
  refine XPure.body ⟨_, Tryz.func54, rfl, by kernel_rfl⟩ Tryz.func54 rfl (Nat.le_of_ble_eq_true (by rfl)) (pf_of1 rfl) fun env => ?_
  repeat' ((conv => whnf); (fail_if_success (with_reducible show ∃ _, _ ∧ _ ∧ Weak _ _ _)); first
    | ((with_reducible show guardA _ _ _ _ _ _ ∨ _); first
      | (refine .inr ?_; (conv => whnf); refine ⟨_, ?_, fun h => rfl, rfl, ?_⟩; ((conv => whnf); first | exact trivial | (refine ⟨?_, trivial⟩; (first | exact fun h => h | exact fun _ => rfl | exact notF | exact andL | exact andR | exact fun h' => andI h h' | exact fun h' => andN h h'))))
      | (refine .inr ?_; (conv => whnf); refine ⟨_, trivial, fun h => ⟨?_, ?_, ?_, rfl⟩, rfl, ?_⟩; (first | exact h | rfl); (first | exact fun h => h | exact fun _ => rfl | exact notF | exact andL | exact andR | exact fun h' => andI h h' | exact fun h' => andN h h'); (first | exact fun h => h | exact fun _ => rfl | exact notF | exact andL | exact andR | exact fun h' => andI h h' | exact fun h' => andN h h'))
      | (refine .inl ?_; (conv => whnf); first | refine gY (by first | (with_reducible first | rfl | assumption) | decide) ?_ | refine gTF (by first | (with_reducible first | rfl | assumption) | decide) ?_ | refine gFT (by first | (with_reducible first | rfl | assumption) | decide) ?_ | ((first | refine gsT (fun h => ?_) (fun h => ?_) | refine gsF (fun h => ?_) (fun h => ?_)) <;> (have hs := h; try simp only [reduceCtorEq, emptyLit, emptyLit2, Int.reduceEq, Int.reduceNe, Int.reduceLT, Int.reduceLE, Int.reduceBEq, Int.reduceBNe, false_and, and_false, false_or, or_false, true_and, and_true, true_or, or_true, not_true_eq_false, not_false_eq_true, cond_true, cond_false, Int.toNat_natCast, List.length_map, beqS_iff, beqS_no, Bool.cond_true_left, Bool.cond_false_right, Bool.or_eq_true, Bool.or_eq_false_iff, Bool.and_eq_true, Bool.and_eq_false_iff, decide_eq_true_eq, decide_eq_false_iff_not, Bool.not_eq_true', Bool.not_eq_false', beq_iff_eq, bne_iff_ne, beq_eq_false_iff_ne, bne_eq_false_iff_eq, Int.ofNat_lt, Int.ofNat_le, Int.not_lt, Int.not_le, ge_iff_le, gt_iff_lt, ne_eq] at hs)))
      | (refine .inl ?_))
    | refine cTrue (by first | (with_reducible first | rfl | assumption) | decide) ?_
    | refine cFalse (by first | (with_reducible first | rfl | assumption) | decide) ?_
    | refine gY (by first | (with_reducible first | rfl | assumption) | decide) ?_
    | refine gTF (by first | (with_reducible first | rfl | assumption) | decide) ?_
    | refine gFT (by first | (with_reducible first | rfl | assumption) | decide) ?_
    | ((first | refine gsT (fun h => ?_) (fun h => ?_) | refine gsF (fun h => ?_) (fun h => ?_) | refine ⟨fun h => ?_, fun h => ?_⟩) <;> (have hs := h; try simp only [reduceCtorEq, emptyLit, emptyLit2, Int.reduceEq, Int.reduceNe, Int.reduceLT, Int.reduceLE, Int.reduceBEq, Int.reduceBNe, false_and, and_false, false_or, or_false, true_and, and_true, true_or, or_true, not_true_eq_false, not_false_eq_true, cond_true, cond_false, Int.toNat_natCast, List.length_map, beqS_iff, beqS_no, Bool.cond_true_left, Bool.cond_false_right, Bool.or_eq_true, Bool.or_eq_false_iff, Bool.and_eq_true, Bool.and_eq_false_iff, decide_eq_true_eq, decide_eq_false_iff_not, Bool.not_eq_true', Bool.not_eq_false', beq_iff_eq, bne_iff_ne, beq_eq_false_iff_ne, bne_eq_false_iff_eq, Int.ofNat_lt, Int.ofNat_le, Int.not_lt, Int.not_le, ge_iff_le, gt_iff_lt, ne_eq] at hs))
    | (refine .inl ⟨_, _, c_of_copy, ?_⟩)
    | (refine .inl ⟨_, _, hR, ?_⟩)
    | ((with_reducible show _ ∧ _ ∧ Weak _ _ _); refine ⟨?_, ?_, Weak.go⟩; (omega))
    | ((with_reducible show (_ ∧ _ ∧ _) ∧ _); refine ⟨⟨by kernel_rfl, by kernel_rfl, by rfl⟩, ?_⟩)
    | ((with_reducible show AV.pf _ = true ∧ _); refine ⟨pf_of1 rfl, ?_⟩)
    | (refine ⟨rfl, ?_, ?_, ?_⟩; (first | exact fun h => h | exact fun _ => rfl | exact notF | exact andL | exact andR | exact fun h' => andI h h' | exact fun h' => andN h h'); (first | exact fun h => h | exact fun _ => rfl | exact notF | exact andL | exact andR | exact fun h' => andI h h' | exact fun h' => andN h h'))
    | ((with_reducible show (_ ∨ _) ∧ _ ∧ retA _ _ _ _ _); refine ⟨?_, rfl, ?_⟩; (first | exact .inr rfl | exact .inl rfl))
    | ((with_reducible show _ = _ ∧ _ = false ∧ _ = _); refine ⟨?_, rfl, rfl⟩; try (first | rfl | (conv => lhs; whnf)))
    | ((with_reducible show LeqD _ _); try (first | (repeat' (first | exact LeqD.refl _ | exact LeqDL.refl _ | assumption | exact LeqD.nil (by decide) | refine LeqDL.cons ?_ ?_ | refine LeqD.agg ?_ | refine LeqD.tup ?_ | refine LeqD.sl ?_); done) | (first | rfl | (conv => lhs; whnf))); done)
    | ((with_reducible show _ = _ ∧ (_ → _)); refine ⟨?_, ?_⟩; try (first | rfl | (conv => lhs; whnf)))
    | exact fun h => h
    | exact fun _ => rfl
    | refine ⟨rfl, ?_⟩
    | (refine ⟨Nat.le_of_ble_eq_true rfl, ?_⟩)
    | (refine ⟨?_, ?_, ?_⟩; (first | (refine sizeOk rfl ?_; simp only [List.length_map, List.length_append, List.length_take, List.length_drop, List.length_cons, List.length_nil]; omega) | omega | (simp only [List.length_map, List.length_append, List.length_take, List.length_drop, List.length_cons, List.length_nil]; omega)); (first | (refine sizeOk rfl ?_; simp only [List.length_map, List.length_append, List.length_take, List.length_drop, List.length_cons, List.length_nil]; omega) | omega | (simp only [List.length_map, List.length_append, List.length_take, List.length_drop, List.length_cons, List.length_nil]; omega)))
    | (refine ⟨?_, ?_⟩; (first | (refine sizeOk rfl ?_; simp only [List.length_map, List.length_append, List.length_take, List.length_drop, List.length_cons, List.length_nil]; omega) | omega | (simp only [List.length_map, List.length_append, List.length_take, List.length_drop, List.length_cons, List.length_nil]; omega)))
    | rw [wrapId (by omega) (by omega)]
    | fail)
theorem c_Reads_copy {a b : ByteArray} (ha : isName a = true) (hb : isName b = true) : XPure Tryz.prog 45 [eC 1 b [a] [] 0] (.tup [eS [a], i64 0]) false := by
  refine XPure.body ⟨_, Tryz.func45, rfl, by kernel_rfl⟩ Tryz.func45 rfl (Nat.le_of_ble_eq_true (by rfl)) (pf_of1 rfl) fun env => ?_
  repeat' ((conv => whnf); (fail_if_success (with_reducible show ∃ _, _ ∧ _ ∧ Weak _ _ _)); first
    | ((with_reducible show guardA _ _ _ _ _ _ ∨ _); first
      | (refine .inr ?_; (conv => whnf); refine ⟨_, ?_, fun h => rfl, rfl, ?_⟩; ((conv => whnf); first | exact trivial | (refine ⟨?_, trivial⟩; (first | exact fun h => h | exact fun _ => rfl | exact notF | exact andL | exact andR | exact fun h' => andI h h' | exact fun h' => andN h h'))))
      | (refine .inr ?_; (conv => whnf); refine ⟨_, trivial, fun h => ⟨?_, ?_, ?_, rfl⟩, rfl, ?_⟩; (first | exact h | rfl); (first | exact fun h => h | exact fun _ => rfl | exact notF | exact andL | exact andR | exact fun h' => andI h h' | exact fun h' => andN h h'); (first | exact fun h => h | exact fun _ => rfl | exact notF | exact andL | exact andR | exact fun h' => andI h h' | exact fun h' => andN h h'))
      | (refine .inl ?_; (conv => whnf); first | refine gY (by first | (with_reducible first | rfl | assumption) | decide) ?_ | refine gTF (by first | (with_reducible first | rfl | assumption) | decide) ?_ | refine gFT (by first | (with_reducible first | rfl | assumption) | decide) ?_ | ((first | refine gsT (fun h => ?_) (fun h => ?_) | refine gsF (fun h => ?_) (fun h => ?_)) <;> (have hs := h; try simp only [reduceCtorEq, emptyLit, emptyLit2, Int.reduceEq, Int.reduceNe, Int.reduceLT, Int.reduceLE, Int.reduceBEq, Int.reduceBNe, false_and, and_false, false_or, or_false, true_and, and_true, true_or, or_true, not_true_eq_false, not_false_eq_true, cond_true, cond_false, Int.toNat_natCast, List.length_map, beqS_iff, beqS_no, Bool.cond_true_left, Bool.cond_false_right, Bool.or_eq_true, Bool.or_eq_false_iff, Bool.and_eq_true, Bool.and_eq_false_iff, decide_eq_true_eq, decide_eq_false_iff_not, Bool.not_eq_true', Bool.not_eq_false', beq_iff_eq, bne_iff_ne, beq_eq_false_iff_ne, bne_eq_false_iff_eq, Int.ofNat_lt, Int.ofNat_le, Int.not_lt, Int.not_le, ge_iff_le, gt_iff_lt, ne_eq] at hs)))
      | (refine .inl ?_))
    | refine cTrue (by first | (with_reducible first | rfl | assumption) | decide) ?_
    | refine cFalse (by first | (with_reducible first | rfl | assumption) | decide) ?_
    | refine gY (by first | (with_reducible first | rfl | assumption) | decide) ?_
    | refine gTF (by first | (with_reducible first | rfl | assumption) | decide) ?_
    | refine gFT (by first | (with_reducible first | rfl | assumption) | decide) ?_
    | ((first | refine gsT (fun h => ?_) (fun h => ?_) | refine gsF (fun h => ?_) (fun h => ?_) | refine ⟨fun h => ?_, fun h => ?_⟩) <;> (have hs := h; try simp only [reduceCtorEq, emptyLit, emptyLit2, Int.reduceEq, Int.reduceNe, Int.reduceLT, Int.reduceLE, Int.reduceBEq, Int.reduceBNe, false_and, and_false, false_or, or_false, true_and, and_true, true_or, or_true, not_true_eq_false, not_false_eq_true, cond_true, cond_false, Int.toNat_natCast, List.length_map, beqS_iff, beqS_no, Bool.cond_true_left, Bool.cond_false_right, Bool.or_eq_true, Bool.or_eq_false_iff, Bool.and_eq_true, Bool.and_eq_false_iff, decide_eq_true_eq, decide_eq_false_iff_not, Bool.not_eq_true', Bool.not_eq_false', beq_iff_eq, bne_iff_ne, beq_eq_false_iff_ne, bne_eq_false_iff_eq, Int.ofNat_lt, Int.ofNat_le, Int.not_lt, Int.not_le, ge_iff_le, gt_iff_lt, ne_eq] at hs))
    | (refine .inl ⟨_, _, c_told_copy ha hb, ?_⟩)
    | (refine .inl ⟨_, _, c_copying_reads, ?_⟩)
    | ((with_reducible show _ ∧ _ ∧ Weak _ _ _); refine ⟨?_, ?_, Weak.go⟩; (omega))
    | ((with_reducible show (_ ∧ _ ∧ _) ∧ _); refine ⟨⟨by kernel_rfl, by kernel_rfl, by rfl⟩, ?_⟩)
    | ((with_reducible show AV.pf _ = true ∧ _); refine ⟨pf_of1 rfl, ?_⟩)
    | (refine ⟨rfl, ?_, ?_, ?_⟩; (first | exact fun h => h | exact fun _ => rfl | exact notF | exact andL | exact andR | exact fun h' => andI h h' | exact fun h' => andN h h'); (first | exact fun h => h | exact fun _ => rfl | exact notF | exact andL | exact andR | exact fun h' => andI h h' | exact fun h' => andN h h'))
    | ((with_reducible show (_ ∨ _) ∧ _ ∧ retA _ _ _ _ _); refine ⟨?_, rfl, ?_⟩; (first | exact .inr rfl | exact .inl rfl))
    | ((with_reducible show _ = _ ∧ _ = false ∧ _ = _); refine ⟨?_, rfl, rfl⟩; try (first | rfl | (conv => lhs; whnf)))
    | ((with_reducible show LeqD _ _); try (first | (repeat' (first | exact LeqD.refl _ | exact LeqDL.refl _ | assumption | exact LeqD.nil (by decide) | refine LeqDL.cons ?_ ?_ | refine LeqD.agg ?_ | refine LeqD.tup ?_ | refine LeqD.sl ?_); done) | (first | rfl | (conv => lhs; whnf))); done)
    | ((with_reducible show _ = _ ∧ (_ → _)); refine ⟨?_, ?_⟩; try (first | rfl | (conv => lhs; whnf)))
    | exact fun h => h
    | exact fun _ => rfl
    | refine ⟨rfl, ?_⟩
    | (refine ⟨Nat.le_of_ble_eq_true rfl, ?_⟩)
    | (refine ⟨?_, ?_, ?_⟩; (first | (refine sizeOk rfl ?_; simp only [List.length_map, List.length_append, List.length_take, List.length_drop, List.length_cons, List.length_nil]; omega) | omega | (simp only [List.length_map, List.length_append, List.length_take, List.length_drop, List.length_cons, List.length_nil]; omega)); (first | (refine sizeOk rfl ?_; simp only [List.length_map, List.length_append, List.length_take, List.length_drop, List.length_cons, List.length_nil]; omega) | omega | (simp only [List.length_map, List.length_append, List.length_take, List.length_drop, List.length_cons, List.length_nil]; omega)))
    | (refine ⟨?_, ?_⟩; (first | (refine sizeOk rfl ?_; simp only [List.length_map, List.length_append, List.length_take, List.length_drop, List.length_cons, List.length_nil]; omega) | omega | (simp only [List.length_map, List.length_append, List.length_take, List.length_drop, List.length_cons, List.length_nil]; omega)))
    | rw [wrapId (by omega) (by omega)]
    | fail)
theorem c_Writes_copy {a b : ByteArray} (ha : isName a = true) (hb : isName b = true) : XPure Tryz.prog 31 [eC 1 b [a] [] 0] (.tup [str b, bln true, i64 0]) false := by
  refine XPure.body ⟨_, Tryz.func31, rfl, by kernel_rfl⟩ Tryz.func31 rfl (Nat.le_of_ble_eq_true (by rfl)) (pf_of1 rfl) fun env => ?_
  repeat' ((conv => whnf); (fail_if_success (with_reducible show ∃ _, _ ∧ _ ∧ Weak _ _ _)); first
    | ((with_reducible show guardA _ _ _ _ _ _ ∨ _); first
      | (refine .inr ?_; (conv => whnf); refine ⟨_, ?_, fun h => rfl, rfl, ?_⟩; ((conv => whnf); first | exact trivial | (refine ⟨?_, trivial⟩; (first | exact fun h => h | exact fun _ => rfl | exact notF | exact andL | exact andR | exact fun h' => andI h h' | exact fun h' => andN h h'))))
      | (refine .inr ?_; (conv => whnf); refine ⟨_, trivial, fun h => ⟨?_, ?_, ?_, rfl⟩, rfl, ?_⟩; (first | exact h | rfl); (first | exact fun h => h | exact fun _ => rfl | exact notF | exact andL | exact andR | exact fun h' => andI h h' | exact fun h' => andN h h'); (first | exact fun h => h | exact fun _ => rfl | exact notF | exact andL | exact andR | exact fun h' => andI h h' | exact fun h' => andN h h'))
      | (refine .inl ?_; (conv => whnf); first | refine gY (by first | (with_reducible first | rfl | assumption) | decide) ?_ | refine gTF (by first | (with_reducible first | rfl | assumption) | decide) ?_ | refine gFT (by first | (with_reducible first | rfl | assumption) | decide) ?_ | ((first | refine gsT (fun h => ?_) (fun h => ?_) | refine gsF (fun h => ?_) (fun h => ?_)) <;> (have hs := h; try simp only [reduceCtorEq, emptyLit, emptyLit2, Int.reduceEq, Int.reduceNe, Int.reduceLT, Int.reduceLE, Int.reduceBEq, Int.reduceBNe, false_and, and_false, false_or, or_false, true_and, and_true, true_or, or_true, not_true_eq_false, not_false_eq_true, cond_true, cond_false, Int.toNat_natCast, List.length_map, beqS_iff, beqS_no, Bool.cond_true_left, Bool.cond_false_right, Bool.or_eq_true, Bool.or_eq_false_iff, Bool.and_eq_true, Bool.and_eq_false_iff, decide_eq_true_eq, decide_eq_false_iff_not, Bool.not_eq_true', Bool.not_eq_false', beq_iff_eq, bne_iff_ne, beq_eq_false_iff_ne, bne_eq_false_iff_eq, Int.ofNat_lt, Int.ofNat_le, Int.not_lt, Int.not_le, ge_iff_le, gt_iff_lt, ne_eq] at hs)))
      | (refine .inl ?_))
    | refine cTrue (by first | (with_reducible first | rfl | assumption) | decide) ?_
    | refine cFalse (by first | (with_reducible first | rfl | assumption) | decide) ?_
    | refine gY (by first | (with_reducible first | rfl | assumption) | decide) ?_
    | refine gTF (by first | (with_reducible first | rfl | assumption) | decide) ?_
    | refine gFT (by first | (with_reducible first | rfl | assumption) | decide) ?_
    | ((first | refine gsT (fun h => ?_) (fun h => ?_) | refine gsF (fun h => ?_) (fun h => ?_) | refine ⟨fun h => ?_, fun h => ?_⟩) <;> (have hs := h; try simp only [reduceCtorEq, emptyLit, emptyLit2, Int.reduceEq, Int.reduceNe, Int.reduceLT, Int.reduceLE, Int.reduceBEq, Int.reduceBNe, false_and, and_false, false_or, or_false, true_and, and_true, true_or, or_true, not_true_eq_false, not_false_eq_true, cond_true, cond_false, Int.toNat_natCast, List.length_map, beqS_iff, beqS_no, Bool.cond_true_left, Bool.cond_false_right, Bool.or_eq_true, Bool.or_eq_false_iff, Bool.and_eq_true, Bool.and_eq_false_iff, decide_eq_true_eq, decide_eq_false_iff_not, Bool.not_eq_true', Bool.not_eq_false', beq_iff_eq, bne_iff_ne, beq_eq_false_iff_ne, bne_eq_false_iff_eq, Int.ofNat_lt, Int.ofNat_le, Int.not_lt, Int.not_le, ge_iff_le, gt_iff_lt, ne_eq] at hs))
    | (refine .inl ⟨_, _, c_told_copy ha hb, ?_⟩)
    | (refine .inl ⟨_, _, c_copying_writes, ?_⟩)
    | ((with_reducible show _ ∧ _ ∧ Weak _ _ _); refine ⟨?_, ?_, Weak.go⟩; (omega))
    | ((with_reducible show (_ ∧ _ ∧ _) ∧ _); refine ⟨⟨by kernel_rfl, by kernel_rfl, by rfl⟩, ?_⟩)
    | ((with_reducible show AV.pf _ = true ∧ _); refine ⟨pf_of1 rfl, ?_⟩)
    | (refine ⟨rfl, ?_, ?_, ?_⟩; (first | exact fun h => h | exact fun _ => rfl | exact notF | exact andL | exact andR | exact fun h' => andI h h' | exact fun h' => andN h h'); (first | exact fun h => h | exact fun _ => rfl | exact notF | exact andL | exact andR | exact fun h' => andI h h' | exact fun h' => andN h h'))
    | ((with_reducible show (_ ∨ _) ∧ _ ∧ retA _ _ _ _ _); refine ⟨?_, rfl, ?_⟩; (first | exact .inr rfl | exact .inl rfl))
    | ((with_reducible show _ = _ ∧ _ = false ∧ _ = _); refine ⟨?_, rfl, rfl⟩; try (first | rfl | (conv => lhs; whnf)))
    | ((with_reducible show LeqD _ _); try (first | (repeat' (first | exact LeqD.refl _ | exact LeqDL.refl _ | assumption | exact LeqD.nil (by decide) | refine LeqDL.cons ?_ ?_ | refine LeqD.agg ?_ | refine LeqD.tup ?_ | refine LeqD.sl ?_); done) | (first | rfl | (conv => lhs; whnf))); done)
    | ((with_reducible show _ = _ ∧ (_ → _)); refine ⟨?_, ?_⟩; try (first | rfl | (conv => lhs; whnf)))
    | exact fun h => h
    | exact fun _ => rfl
    | refine ⟨rfl, ?_⟩
    | (refine ⟨Nat.le_of_ble_eq_true rfl, ?_⟩)
    | (refine ⟨?_, ?_, ?_⟩; (first | (refine sizeOk rfl ?_; simp only [List.length_map, List.length_append, List.length_take, List.length_drop, List.length_cons, List.length_nil]; omega) | omega | (simp only [List.length_map, List.length_append, List.length_take, List.length_drop, List.length_cons, List.length_nil]; omega)); (first | (refine sizeOk rfl ?_; simp only [List.length_map, List.length_append, List.length_take, List.length_drop, List.length_cons, List.length_nil]; omega) | omega | (simp only [List.length_map, List.length_append, List.length_take, List.length_drop, List.length_cons, List.length_nil]; omega)))
    | (refine ⟨?_, ?_⟩; (first | (refine sizeOk rfl ?_; simp only [List.length_map, List.length_append, List.length_take, List.length_drop, List.length_cons, List.length_nil]; omega) | omega | (simp only [List.length_map, List.length_append, List.length_take, List.length_drop, List.length_cons, List.length_nil]; omega)))
    | rw [wrapId (by omega) (by omega)]
    | fail)
end Go.Proofs.YtepdiooaoegpfaaGreatDoor.Fx
end
section
/- The files that a command reads, joined. Conditions: those in each statement. -/
namespace Go.Proofs.YtepdiooaoegpfaaGreatDoor.Fx
open Go Go.Proofs Go.Ev Go.RowKit Go.Proofs.YtepdiooaoegpfaaGreatDoor.Sup Go.Proofs.YtepdiooaoegpfaaGreatDoorW.PrintWords
set_option linter.unusedSimpArgs false
set_option linter.unusedVariables false
/-- What is read: a fault, or the texts. -/
def readGo (clock : Int) (l : List File) : List ByteArray → List UInt8 → Int × List UInt8
  | [], acc => (0, acc)
  | s :: r, acc => if findE clock l s = 0 then readGo clock l r (acc ++ ((findD clock l s).getD File.none).text.data.toList) else (findE clock l s, [])
def readE (clock : Int) (l : List File) (src : List ByteArray) : Int := (readGo clock l src []).1
def readT (clock : Int) (l : List File) (src : List ByteArray) : ByteArray := ⟨(readGo clock l src []).2.toArray⟩
theorem chk_all {clock : Int} : ∀ (l : List File) (p : Option ByteArray), chkF clock p l = true → ∀ f ∈ l, fileOk clock f = true
  | [], _, _, f, h => absurd h List.not_mem_nil
  | x :: r, p, h, f, hf => by
    simp only [chkF, Bool.and_eq_true] at h
    rcases List.mem_cons.1 hf with rfl | hf
    · exact h.1.1
    · exact chk_all r _ h.2 f hf
theorem findF_mem : ∀ (l : List File) (s : ByteArray) (f : File), findF l s = some f → f ∈ l
  | [], _, _, h => by cases h
  | x :: r, s, f, h => by
    simp only [findF] at h
    split at h
    · cases h; exact List.mem_cons_self ..
    · exact List.mem_cons_of_mem _ (findF_mem r s f h)
theorem find_text {clock : Int} {l : List File} {s : ByteArray} : ((findD clock l s).getD File.none).text.size ≤ 4096 := by
  unfold findD
  cases h : (okD clock l && isName s) with
  | false => exact Nat.zero_le _
  | true =>
    simp only [Bool.and_eq_true] at h
    cases hf : findF l s with
    | none => exact Nat.zero_le _
    | some f =>
      have h1 := h.1
      unfold okD at h1
      simp only [Bool.and_eq_true] at h1
      exact (fileOk_iff.1 (chk_all l _ h1.2 f (findF_mem l s f hf))).2.1
theorem repE_str {w : World} {hw : Hw} : ∀ (l : List ByteArray) (cs : List Value), RepE w hw 1 (l.map fun x => .v (.string x)) cs → cs = l.map Value.string
  | [], cs, h => by simpa only [List.map_nil, RepE] using h
  | x :: l, cs, h => by
    simp only [List.map_cons, RepE] at h
    obtain ⟨h0, h1, h2⟩ := h
    obtain ⟨c, cs, rfl⟩ : ∃ c r, cs = c :: r := by
      cases cs with
      | nil => simp at h0
      | cons c r => exact ⟨c, r, rfl⟩
    have := repE_str l _ h2
    simp only [List.drop_succ_cons, List.drop_zero] at this
    have h1' := h1.1
    simp only [RepV, List.take_succ_cons, List.take_zero, List.cons.injEq, and_true] at h1'
    rw [h1', this]; rfl
theorem owns_below {w w' : World} {B : Nat} {e : TypeId} {size : Nat} {v : Value} {n : Nat} {xs : List Value} (h : w.ownsRow B e size v n xs) (hB : Below w.heap.size w w') : w'.ownsRow B e size v n xs := by
  unfold World.ownsRow at h ⊢
  obtain ⟨h1, h2⟩ := h
  refine ⟨h1, h2.imp id ?_⟩
  rintro ⟨g, cap, cur, e1, e2, e3, e4⟩
  exact ⟨g, cap, cur, e1, e2, (hB.block g (Array.getElem?_eq_some_iff.1 e3).1).trans e3, e4⟩
theorem builder_below {T e : TypeId} {B b : Nat} {bs : List Value} {w w' : World} (h : Lib.IsBuilder T e B b bs w) (hB : Below w.heap.size w w') : Lib.IsBuilder T e B b bs w' := by
  have one : ∀ p, Lib.BuilderAt T e B b p bs w → Lib.BuilderAt T e B b p bs w' := by
    rintro p ⟨h1, v, h2, h3, h4⟩
    exact ⟨h1, v, (hB.block b (Array.getElem?_eq_some_iff.1 h2).1).trans h2, owns_below h3 hB, h4⟩
  exact h.imp (one _) (one _)
theorem readGo_step {clock : Int} {l : List File} {src : List ByteArray} {p : Nat} {s : ByteArray} {acc : List UInt8} (hp : p < src.length) (hs : src[p] = s) : readGo clock l (src.drop p) acc = if findE clock l s = 0 then readGo clock l (src.drop (p + 1)) (acc ++ ((findD clock l s).getD File.none).text.data.toList) else (findE clock l s, []) := by
  rw [List.drop_eq_getElem_cons hp, hs]; rfl
theorem find_mem {clock : Int} {l : List File} {s : ByteArray} {w : World} {g : Gh} {vb : Value} (G : Ev.Good w g [] 0) (ho : g.own = fun _ => none) (hb : Rep w g.hw [] 0 (eD clock l) vb) :
    Calls Tryz.prog 52 #[vb, .string s] w fun e w' => e = .returned (.tuple #[.agg #[.string ((findD clock l s).getD File.none).name, .string ((findD clock l s).getD File.none).text, .int .i64 ((findD clock l s).getD File.none).stamp], .int .i64 (findE clock l s)]) ∧ Below w.heap.size w w' := by
  have hv : RepT w g.hw [] 0 [eD clock l, str s] [vb, .string s] := by
    simp only [RepT]
    exact ⟨_, _, rfl, rep1_of rfl hb, _, _, rfl, rep1_of rfl (rep_v_mk rfl), rfl⟩
  refine ((c_disk_Find (clock := clock) (l := l) (s := s)).toMem G ho hv).mono ?_
  rintro e w' ⟨u, g', rfl, B, _, hr⟩
  refine ⟨?_, B⟩
  obtain ⟨vs, rfl, hr⟩ := hr
  simp only [RepT] at hr
  obtain ⟨u1, _, e1, r1, u2, _, rfl, r2, rfl⟩ := hr
  obtain rfl : vs = #[u1, u2] := Array.toList_inj.1 e1
  obtain ⟨c1, rfl, hc⟩ := rep_agg (rep_of r1)
  simp only [RepL, RepV, List.cons.injEq, and_true] at hc
  obtain ⟨a1, _, e1, ⟨rfl, _⟩, a2, _, rfl, ⟨rfl, _⟩, a3, _, rfl, ⟨rfl, _⟩, rfl⟩ := hc
  obtain rfl : c1 = #[_, _, _] := Array.toList_inj.1 e1
  rw [(rep_v (rep_of r2)).1]
set_option maxHeartbeats 4000000 in
set_option maxRecDepth 100000 in
theorem read_mem {clock : Int} {l : List File} {op st : Int} {dst : ByteArray} {src words : List ByteArray} (hs : src.length ≤ 1000000000) (w : World) (g : Gh) (va vb : Value) (G : Ev.Good w g [] 0) (ho : g.own = fun _ => none)
    (ha : Rep w g.hw [] 0 (eC op dst src words st) va) (hb : Rep w g.hw [] 0 (eD clock l) vb) :
    Calls Tryz.prog 47 #[va, vb] w fun e w' => e = .returned (.tuple #[.string (readT clock l src), .int .i64 (readE clock l src)]) ∧ Below w.heap.size w w' := by
  obtain ⟨ca, rfl, hca⟩ := rep_agg ha
  obtain ⟨cb, rfl, hcb⟩ := rep_agg hb
  simp only [RepL] at hca hcb
  obtain ⟨a1, _, e1, ⟨h1, _⟩, a2, _, rfl, ⟨h2, _⟩, a3, _, rfl, ⟨h3, _⟩, a4, _, rfl, ⟨h4, _⟩, a5, _, rfl, ⟨h5, _⟩, rfl⟩ := hca
  obtain ⟨b1, _, f1, ⟨k1, _⟩, b2, _, rfl, ⟨k2, _⟩, rfl⟩ := hcb
  obtain rfl : ca = #[a1, a2, a3, a4, a5] := Array.toList_inj.1 e1
  obtain rfl : cb = #[b1, b2] := Array.toList_inj.1 f1
  simp only [RepV, List.cons.injEq, and_true] at h1 h2 h5 k1
  subst h1 h2 h5 k1
  simp only [RepV, List.cons.injEq, and_true] at h3
  obtain ⟨A, cp, rfl, hcp, hfit, hsrc⟩ := h3
  rw [List.length_map] at *
  obtain ⟨R, hR⟩ : ∃ R, readGo clock l src [] = R := ⟨_, rfl⟩
  unfold readT readE
  rw [hR]
  have HR := Lib.hid hR
  clear hR
  go_enter Tryz.func47, Tryz.ntmps47
  go_wp2
  obtain ⟨ws, hws⟩ : ∃ ws, (w.alloc (.cells #[.int .i64 op, .string dst, .slice A src.length cp, a4, .int .i64 st] 68)).alloc (.cells #[.int .i64 clock, b2] 27) = ws := ⟨_, rfl⟩
  rw [hws]
  have hwsz : ws.heap.size = w.heap.size + 1 + 1 := by rw [← hws]; exact (Array.size_push ..).trans (congrArg (· + 1) (Array.size_push ..))
  have hbox : ws.heap[w.heap.size + 1]? = some (.cells #[.int .i64 clock, b2] 27 (0, 0)) := by rw [← hws]; exact (congrArg (fun k => (World.alloc _ _).heap[k]?) (Array.size_push ..).symm).trans (heap_alloc_new _ _)
  have hB0 : Below w.heap.size w ws := by rw [← hws]; exact ((Below.refl _ _).alloc (Nat.le_refl _) _).alloc (Nat.le_of_lt (by rw [show (w.alloc _).heap.size = w.heap.size + 1 from Array.size_push ..]; exact Nat.lt_succ_self _)) _
  rw [← hwsz]
  have HW := Aside0.mk hwsz
  have HX := Aside0.mk hbox
  have H0 := Aside0.mk hB0
  clear hws hwsz hbox hB0
  go_loopw [14] (fun i wr => ∃ (p : Nat) (acc : List UInt8), i = .int .i64 p ∧ p ≤ src.length ∧ acc.length ≤ p * 4096 ∧ Aside0 (readGo clock l (src.drop p) acc = R) ∧ Aside0 (Lib.IsBuilder 125 5 ws.heap.size ws.heap.size (Lib.byteCells acc) wr) ∧ Aside0 (Below ws.heap.size ws wr)) (fun i _ => src.length - (intOf i).toNat)
  case atStart => exact ⟨0, [], by go_num, Nat.zero_le _, Nat.zero_le _, ⟨HR.out⟩, ⟨Lib.fresh_isBuilder 125 5 ws⟩, ⟨(Below.refl _ _).alloc (Nat.le_refl _) _⟩⟩
  case round =>
    obtain ⟨p, acc, rfl, hp, hacc, HA, HI, HB⟩ := hrel
    have hBw : ws.heap.size ≤ wr.heap.size := HB.out.size
    by_cases hlt : p < src.length
    · obtain ⟨s, hsp⟩ : ∃ s, src[p] = s := ⟨_, rfl⟩
      have hA : ∃ bk o, A = some ⟨bk, o, none⟩ ∧ wr.cell? ⟨bk, o + p, none⟩ = some (.string s) := by
        rcases hsrc with h | ⟨bk, o, cs, h1, h2, h3⟩
        · have : src = [] := by simpa using h
          subst this; simp at hlt
        · refine ⟨bk, o, h1, ?_⟩
          have hcs := repE_str src cs h3
          subst hcs
          have hcell := h2.at p (.string s) (by simp [hlt, hsp])
          have hbk : bk < w.heap.size := World.block_lt_of_cell? w _ hcell
          have hbel : Below w.heap.size w wr := H0.out.trans (HB.out.mono (by have := HW.out; omega))
          exact (hbel.cell (p := ⟨bk, o + p, none⟩) hbk).trans hcell
      obtain ⟨bk, o, rfl, hcell⟩ := hA
      have hbx : wr.heap[w.heap.size + 1]? = some (.cells #[.int .i64 clock, b2] 27 (0, 0)) := (HB.out.block _ (by have := HW.out; omega)).trans HX.out
      have hd0 : wr.cell? ⟨w.heap.size + 1, 0, none⟩ = some (.int .i64 clock) := by simp [World.cell?, hbx]
      have hd1 : wr.cell? ⟨w.heap.size + 1, 1, none⟩ = some b2 := by simp [World.cell?, hbx]
      have hbel : Below w.heap.size w wr := H0.out.trans (HB.out.mono (by have := HW.out; omega))
      have hFind := find_mem (s := s) (G.below hbel) ho (hb.mono (HwLe.below G hbel) fun _ _ h => h)
      have HF := Aside0.mk hFind
      clear hFind hbel
      obtain ⟨E, hE⟩ : ∃ E, findE clock l s = E := ⟨_, rfl⟩
      obtain ⟨F, hF⟩ : ∃ F, (findD clock l s).getD File.none = F := ⟨_, rfl⟩
      rw [hE, hF] at HF
      have HE := Aside0.mk hE
      have HFF := Aside0.mk hF
      clear hE hF hbx hsrc ha h4 k2 hfit
      have HBB := Aside0.mk hb
      have HSP := Aside0.mk hsp
      clear hb hsp
      cases he : (E == 0)
      · have hne : (E != 0) = true := by simp [bne, he]
        go_wp2_with (go_at_call 52; refine HF.out.mono ?_; rintro e w1 ⟨rfl, hB1⟩)
        go_ret2
        have hstep := (readGo_step (clock := clock) (l := l) (acc := acc) hlt HSP.out).symm.trans HA.out
        rw [HE.out, if_neg (by simpa using he)] at hstep
        subst hstep
        refine ⟨rfl, ?_⟩
        exact (H0.out.trans (HB.out.mono (by have := HW.out; omega))).trans ((hB1.mono (by have := HB.out.size; have := H0.out.size; omega)).alloc (by have := hB1.size; have := HB.out.size; have := H0.out.size; omega) _)
      · have hne : (E != 0) = false := by simp [bne, he]
        have hE0 : E = 0 := by simpa using he
        have hlen : F.text.size ≤ 4096 := by rw [← HFF.out]; exact find_text
        go_wp2_with (first | (go_at_call 52; refine HF.out.mono ?_; rintro e w1 ⟨rfl, hB1⟩) | (go_at_call 69; refine (Tryz.Builder_WriteString ws.heap.size ws.heap.size (Lib.byteCells acc) F.text _ (builder_below HI.out (hB1.alloc hB1.size _)) (by simp only [Lib.byteCells, List.length_map]; omega) (by have := hB1.size; have := HB.out.size; simp only [World.alloc, Array.size_push]; omega)).mono ?_; rintro e w2 ⟨rfl, hI2, hB2⟩))
        have HI2 := Aside0.mk hI2
        have HBE : Aside0 (Below ws.heap.size ws w2) := ⟨(HB.out.trans ((hB1.mono HB.out.size).alloc (by have := hB1.size; have := HB.out.size; omega) _)).trans hB2⟩
        clear hI2 hB2
        go_roundw
        case rel =>
          refine ⟨p + 1, acc ++ F.text.data.toList, by go_num, by omega, ?_, ⟨?_⟩, ⟨.inr ?_⟩, HBE⟩
          · rw [List.length_append]; have : F.text.data.toList.length = F.text.size := by simp
            omega
          · have hstep := (readGo_step (clock := clock) (l := l) (acc := acc) hlt HSP.out).symm.trans HA.out
            rw [HE.out, if_pos hE0, HFF.out] at hstep
            exact hstep
          · have := HI2.out
            rw [Lib.strCells_eq] at this
            simpa only [Lib.byteCells, List.map_append] using this
        case measure => simp [intOf]; omega
    · go_wp2_with (go_at_call 70; refine (Tryz.Builder_String_any ws.heap.size ws.heap.size acc _ HI.out hBw).mono ?_; rintro e w1 ⟨rfl, hB1⟩)
      go_ret2
      have hend : (0, acc) = R := by
        have := HA.out
        rw [List.drop_eq_nil_of_le (by omega)] at this
        exact this
      subst hend
      exact ⟨rfl, (H0.out.trans (HB.out.mono (by have := HW.out; omega))).trans (hB1.mono (by have := HW.out; omega))⟩
theorem c_exec_read {clock : Int} {l : List File} {op st : Int} {dst : ByteArray} {src words : List ByteArray} (hs : src.length ≤ 1000000000) :
    XPure Tryz.prog 47 [eC op dst src words st, eD clock l] (.tup [str (readT clock l src), i64 (readE clock l src)]) false :=
  XPure.ofMem (u := .tuple #[.string (readT clock l src), .int .i64 (readE clock l src)]) ⟨_, Tryz.func47, rfl, by kernel_rfl⟩ rfl rfl (fun w g vs G ho hv => by
    simp only [RepT] at hv
    obtain ⟨va, _, rfl, ha, vb, _, rfl, hb, rfl⟩ := hv
    exact read_mem hs w g va vb G ho (rep_of ha) (rep_of hb)) fun w hw bs base => by
    refine ⟨_, rfl, ?_⟩
    simp only [RepT]
    exact ⟨_, _, rfl, rep1_of rfl (rep_v_mk rfl), _, _, rfl, rep1_of rfl (rep_v_mk rfl), rfl⟩
end Go.Proofs.YtepdiooaoegpfaaGreatDoor.Fx
end
section
/- Whether a copying command may be done. Conditions: those in each statement. -/
namespace Go.Proofs.YtepdiooaoegpfaaGreatDoor.Fx
open Go Go.Proofs Go.Ev Go.RowKit
set_option maxRecDepth 100000
set_option maxHeartbeats 1600000
set_option linter.unusedSimpArgs false
set_option linter.unusedVariables false
def mayE (n : Node) (a b : ByteArray) : Int := if hasS n.needs a = true then if b = n.target then 0 else 170 else 170
theorem leq_cmd2 {op st e e' : Int} {d : ByteArray} {a w : List ByteArray} (h5 : e' = e) : LeqD (.tup [eC op d a w st, i64 e]) (.tup [eC op d a w st, i64 e']) := by
  subst h5; exact LeqD.refl _
theorem c_may_copy {n : Node} {t a b : ByteArray} (hn : n.needs.length ≤ 1000000000) (hV : wordsV t = [copyW, a, b]) (hE : wordsE t = 0) (ha : isName a = true) (hb : isName b = true) :
    XPure Tryz.prog 29 [eN n, str t] (.tup [eC 1 b [a] [] 0, i64 (mayE n a b)]) false := by
  refine XPure.bodyN ⟨_, Tryz.func29, rfl, by kernel_rfl⟩ Tryz.func29 rfl (Nat.le_of_ble_eq_true (by rfl)) (pf_of1 rfl) fun env => ?_
  repeat' ((conv => whnf); (fail_if_success (with_reducible show LeqD _ _)); (fail_if_success (with_reducible show ∃ _, _ ∧ _ ∧ Weak _ _ _)); first
    | ((with_reducible show guardA _ _ _ _ _ _ ∨ _); first
      | (refine .inr ?_; (conv => whnf); refine ⟨_, ?_, fun h => rfl, rfl, ?_⟩; ((conv => whnf); first | exact trivial | (refine ⟨?_, trivial⟩; (first | exact fun h => h | exact fun _ => rfl | exact notF | exact andL | exact andR | exact fun h' => andI h h' | exact fun h' => andN h h'))))
      | (refine .inr ?_; (conv => whnf); refine ⟨_, trivial, fun h => ⟨?_, ?_, ?_, rfl⟩, rfl, ?_⟩; (first | exact h | rfl); (first | exact fun h => h | exact fun _ => rfl | exact notF | exact andL | exact andR | exact fun h' => andI h h' | exact fun h' => andN h h'); (first | exact fun h => h | exact fun _ => rfl | exact notF | exact andL | exact andR | exact fun h' => andI h h' | exact fun h' => andN h h'))
      | (refine .inl ?_; (conv => whnf); first | refine gY (by with_reducible first | rfl | assumption) ?_ | refine gTF (by with_reducible first | rfl | assumption) ?_ | refine gFT (by with_reducible first | rfl | assumption) ?_ | ((first | refine gsT (fun h => ?_) (fun h => ?_) | refine gsF (fun h => ?_) (fun h => ?_)) <;> (have hs := h; try simp only [reduceCtorEq, emptyLit, emptyLit2, Int.reduceEq, Int.reduceNe, Int.reduceLT, Int.reduceLE, Int.reduceBEq, Int.reduceBNe, false_and, and_false, false_or, or_false, true_and, and_true, true_or, or_true, not_true_eq_false, not_false_eq_true, cond_true, cond_false, Int.toNat_natCast, List.length_map, beqS_iff, beqS_no, Bool.cond_true_left, Bool.cond_false_right, Bool.or_eq_true, Bool.or_eq_false_iff, Bool.and_eq_true, Bool.and_eq_false_iff, decide_eq_true_eq, decide_eq_false_iff_not, Bool.not_eq_true', Bool.not_eq_false', beq_iff_eq, bne_iff_ne, beq_eq_false_iff_ne, bne_eq_false_iff_eq, Int.ofNat_lt, Int.ofNat_le, Int.not_lt, Int.not_le, ge_iff_le, gt_iff_lt, ne_eq] at hs)))
      | (refine .inl ?_))
    | refine cTrue (by with_reducible first | rfl | assumption) ?_
    | refine cFalse (by with_reducible first | rfl | assumption) ?_
    | refine gY (by with_reducible first | rfl | assumption) ?_
    | refine gTF (by with_reducible first | rfl | assumption) ?_
    | refine gFT (by with_reducible first | rfl | assumption) ?_
    | ((first | refine gsT (fun h => ?_) (fun h => ?_) | refine gsF (fun h => ?_) (fun h => ?_) | refine ⟨fun h => ?_, fun h => ?_⟩) <;> (have hs := h; try simp only [reduceCtorEq, emptyLit, emptyLit2, Int.reduceEq, Int.reduceNe, Int.reduceLT, Int.reduceLE, Int.reduceBEq, Int.reduceBNe, false_and, and_false, false_or, or_false, true_and, and_true, true_or, or_true, not_true_eq_false, not_false_eq_true, cond_true, cond_false, Int.toNat_natCast, List.length_map, beqS_iff, beqS_no, Bool.cond_true_left, Bool.cond_false_right, Bool.or_eq_true, Bool.or_eq_false_iff, Bool.and_eq_true, Bool.and_eq_false_iff, decide_eq_true_eq, decide_eq_false_iff_not, Bool.not_eq_true', Bool.not_eq_false', beq_iff_eq, bne_iff_ne, beq_eq_false_iff_ne, bne_eq_false_iff_eq, Int.ofNat_lt, Int.ofNat_le, Int.not_lt, Int.not_le, ge_iff_le, gt_iff_lt, ne_eq] at hs))
    | (refine .inl ⟨_, _, c_Line_copy hV hE ha hb, ?_⟩)
    | (refine .inl ⟨_, _, c_Reads_copy ha hb, ?_⟩)
    | ((with_reducible show _ ∧ _ ∧ Weak _ _ _); refine ⟨?_, ?_, Weak.go⟩; (omega))
    | ((with_reducible show (_ ∧ _ ∧ _) ∧ _); refine ⟨⟨by kernel_rfl, by kernel_rfl, by rfl⟩, ?_⟩)
    | ((with_reducible show AV.pf _ = true ∧ _); refine ⟨pf_of1 rfl, ?_⟩)
    | (refine ⟨rfl, ?_, ?_, ?_⟩; (first | exact fun h => h | exact fun _ => rfl | exact notF | exact andL | exact andR | exact fun h' => andI h h' | exact fun h' => andN h h'); (first | exact fun h => h | exact fun _ => rfl | exact notF | exact andL | exact andR | exact fun h' => andI h h' | exact fun h' => andN h h'))
    | ((with_reducible show (_ ∨ _) ∧ _ ∧ retA _ _ _ _ _); refine ⟨?_, rfl, ?_⟩; (first | exact .inr rfl | exact .inl rfl))
    | ((with_reducible show _ = _ ∧ _ = false ∧ _ = _); refine ⟨?_, rfl, rfl⟩; try (first | rfl | (conv => lhs; whnf)))
    | ((with_reducible show _ = _ ∧ (_ → _)); refine ⟨?_, ?_⟩; try (first | rfl | (conv => lhs; whnf)))
    | exact fun h => h
    | exact fun _ => rfl
    | refine ⟨rfl, ?_⟩
    | (refine ⟨Nat.le_of_ble_eq_true rfl, ?_⟩)
    | (refine ⟨?_, ?_, ?_⟩; (first | (refine sizeOk rfl ?_; simp only [List.length_map, List.length_append, List.length_take, List.length_drop, List.length_cons, List.length_nil]; omega) | omega | (simp only [List.length_map, List.length_append, List.length_take, List.length_drop, List.length_cons, List.length_nil]; omega)); (first | (refine sizeOk rfl ?_; simp only [List.length_map, List.length_append, List.length_take, List.length_drop, List.length_cons, List.length_nil]; omega) | omega | (simp only [List.length_map, List.length_append, List.length_take, List.length_drop, List.length_cons, List.length_nil]; omega)))
    | (refine ⟨?_, ?_⟩; (first | (refine sizeOk rfl ?_; simp only [List.length_map, List.length_append, List.length_take, List.length_drop, List.length_cons, List.length_nil]; omega) | omega | (simp only [List.length_map, List.length_append, List.length_take, List.length_drop, List.length_cons, List.length_nil]; omega)))
    | fail)
  refine XW.countL 1 [2, 4, 6, 29, 30] (fun i => [(31, i64 i)]) (fun _ => []) (fun i => [.cells (eN n).leaves [], .cells [i64 0, str .empty, nilv, nilv, i64 0] [], .cells (eC 1 b [a] [] 0).leaves []]) (fun i => i = 0 ∨ hasS n.needs a = true) Weak.go (.inl rfl) ?_
  intro i hi hA
  refine codeS ?_
  rcases (by omega : i = 0 ∨ i = 1) with rfl | rfl
  · repeat' ((conv => whnf); (fail_if_success (with_reducible show LeqD _ _)); (fail_if_success (with_reducible show ∃ _, _ ∧ _ ∧ Weak _ _ _)); first
      | ((with_reducible show guardA _ _ _ _ _ _ ∨ _); first
        | (refine .inr ?_; (conv => whnf); refine ⟨_, ?_, fun h => rfl, rfl, ?_⟩; ((conv => whnf); first | exact trivial | (refine ⟨?_, trivial⟩; (first | exact fun h => h | exact fun _ => rfl | exact notF | exact andL | exact andR | exact fun h' => andI h h' | exact fun h' => andN h h'))))
        | (refine .inr ?_; (conv => whnf); refine ⟨_, trivial, fun h => ⟨?_, ?_, ?_, rfl⟩, rfl, ?_⟩; (first | exact h | rfl); (first | exact fun h => h | exact fun _ => rfl | exact notF | exact andL | exact andR | exact fun h' => andI h h' | exact fun h' => andN h h'); (first | exact fun h => h | exact fun _ => rfl | exact notF | exact andL | exact andR | exact fun h' => andI h h' | exact fun h' => andN h h'))
        | (refine .inl ?_; (conv => whnf); first | refine gY (by first | (with_reducible first | rfl | assumption) | decide) ?_ | refine gTF (by first | (with_reducible first | rfl | assumption) | decide) ?_ | refine gFT (by first | (with_reducible first | rfl | assumption) | decide) ?_ | ((first | refine gsT (fun h => ?_) (fun h => ?_) | refine gsF (fun h => ?_) (fun h => ?_)) <;> (have hs := h; try simp only [reduceCtorEq, emptyLit, emptyLit2, Int.reduceEq, Int.reduceNe, Int.reduceLT, Int.reduceLE, Int.reduceBEq, Int.reduceBNe, false_and, and_false, false_or, or_false, true_and, and_true, true_or, or_true, not_true_eq_false, not_false_eq_true, cond_true, cond_false, Int.toNat_natCast, List.length_map, beqS_iff, beqS_no, Bool.cond_true_left, Bool.cond_false_right, Bool.or_eq_true, Bool.or_eq_false_iff, Bool.and_eq_true, Bool.and_eq_false_iff, decide_eq_true_eq, decide_eq_false_iff_not, Bool.not_eq_true', Bool.not_eq_false', beq_iff_eq, bne_iff_ne, beq_eq_false_iff_ne, bne_eq_false_iff_eq, Int.ofNat_lt, Int.ofNat_le, Int.not_lt, Int.not_le, ge_iff_le, gt_iff_lt, ne_eq] at hs)))
        | (refine .inl ?_))
      | refine cTrue (by first | (with_reducible first | rfl | assumption) | decide) ?_
      | refine cFalse (by first | (with_reducible first | rfl | assumption) | decide) ?_
      | refine gY (by first | (with_reducible first | rfl | assumption) | decide) ?_
      | refine gTF (by first | (with_reducible first | rfl | assumption) | decide) ?_
      | refine gFT (by first | (with_reducible first | rfl | assumption) | decide) ?_
      | ((first | refine gsT (fun h => ?_) (fun h => ?_) | refine gsF (fun h => ?_) (fun h => ?_) | refine ⟨fun h => ?_, fun h => ?_⟩) <;> (have hs := h; try simp only [reduceCtorEq, emptyLit, emptyLit2, Int.reduceEq, Int.reduceNe, Int.reduceLT, Int.reduceLE, Int.reduceBEq, Int.reduceBNe, false_and, and_false, false_or, or_false, true_and, and_true, true_or, or_true, not_true_eq_false, not_false_eq_true, cond_true, cond_false, Int.toNat_natCast, List.length_map, beqS_iff, beqS_no, Bool.cond_true_left, Bool.cond_false_right, Bool.or_eq_true, Bool.or_eq_false_iff, Bool.and_eq_true, Bool.and_eq_false_iff, decide_eq_true_eq, decide_eq_false_iff_not, Bool.not_eq_true', Bool.not_eq_false', beq_iff_eq, bne_iff_ne, beq_eq_false_iff_ne, bne_eq_false_iff_eq, Int.ofNat_lt, Int.ofNat_le, Int.not_lt, Int.not_le, ge_iff_le, gt_iff_lt, ne_eq] at hs))
      | (refine .inl ⟨_, _, c_Contains hn, ?_⟩)
      | (refine .inl ⟨_, _, c_Writes_copy ha hb, ?_⟩)
      | ((with_reducible show _ ∧ _ ∧ Weak _ _ _); refine ⟨?_, ?_, Weak.go⟩; (omega))
      | ((with_reducible show (_ ∧ _ ∧ _) ∧ _); refine ⟨⟨by kernel_rfl, by kernel_rfl, by rfl⟩, ?_⟩)
      | ((with_reducible show AV.pf _ = true ∧ _); refine ⟨pf_of1 rfl, ?_⟩)
      | (refine ⟨rfl, ?_, ?_, ?_⟩; (first | exact fun h => h | exact fun _ => rfl | exact notF | exact andL | exact andR | exact fun h' => andI h h' | exact fun h' => andN h h'); (first | exact fun h => h | exact fun _ => rfl | exact notF | exact andL | exact andR | exact fun h' => andI h h' | exact fun h' => andN h h'))
      | ((with_reducible show (_ ∨ _) ∧ _ ∧ retA _ _ _ _ _); refine ⟨?_, rfl, ?_⟩; (first | exact .inr rfl | exact .inl rfl))
      | ((with_reducible show _ = _ ∧ _ = false ∧ _ = _); refine ⟨?_, rfl, rfl⟩; try (first | rfl | (conv => lhs; whnf)))
      | ((with_reducible show _ = _ ∧ (_ → _)); refine ⟨?_, ?_⟩; try (first | rfl | (conv => lhs; whnf)))
      | exact fun h => h
      | exact fun _ => rfl
      | refine ⟨rfl, ?_⟩
      | (refine ⟨Nat.le_of_ble_eq_true rfl, ?_⟩)
      | (refine ⟨?_, ?_, ?_⟩; (first | (refine sizeOk rfl ?_; simp only [List.length_map, List.length_append, List.length_take, List.length_drop, List.length_cons, List.length_nil]; omega) | omega | (simp only [List.length_map, List.length_append, List.length_take, List.length_drop, List.length_cons, List.length_nil]; omega)); (first | (refine sizeOk rfl ?_; simp only [List.length_map, List.length_append, List.length_take, List.length_drop, List.length_cons, List.length_nil]; omega) | omega | (simp only [List.length_map, List.length_append, List.length_take, List.length_drop, List.length_cons, List.length_nil]; omega)))
      | (refine ⟨?_, ?_⟩; (first | (refine sizeOk rfl ?_; simp only [List.length_map, List.length_append, List.length_take, List.length_drop, List.length_cons, List.length_nil]; omega) | omega | (simp only [List.length_map, List.length_append, List.length_take, List.length_drop, List.length_cons, List.length_nil]; omega)))
      | rw [wrapId (by omega) (by omega)]
      | fail)
    · conv => whnf
      refine leq_cmd2 ?_
      unfold mayE; rw [if_neg (by rw [hs]; simp)]
    · exact .inr hs
    all_goals exact absurd (Nat.zero_lt_one) ‹¬ 0 < [a].length›
  · have hA' : hasS n.needs a = true := by rcases hA with h | h; omega; exact h
    repeat' ((conv => whnf); (fail_if_success (with_reducible show LeqD _ _)); (fail_if_success (with_reducible show ∃ _, _ ∧ _ ∧ Weak _ _ _)); first
      | ((with_reducible show guardA _ _ _ _ _ _ ∨ _); first
        | (refine .inr ?_; (conv => whnf); refine ⟨_, ?_, fun h => rfl, rfl, ?_⟩; ((conv => whnf); first | exact trivial | (refine ⟨?_, trivial⟩; (first | exact fun h => h | exact fun _ => rfl | exact notF | exact andL | exact andR | exact fun h' => andI h h' | exact fun h' => andN h h'))))
        | (refine .inr ?_; (conv => whnf); refine ⟨_, trivial, fun h => ⟨?_, ?_, ?_, rfl⟩, rfl, ?_⟩; (first | exact h | rfl); (first | exact fun h => h | exact fun _ => rfl | exact notF | exact andL | exact andR | exact fun h' => andI h h' | exact fun h' => andN h h'); (first | exact fun h => h | exact fun _ => rfl | exact notF | exact andL | exact andR | exact fun h' => andI h h' | exact fun h' => andN h h'))
        | (refine .inl ?_; (conv => whnf); first | refine gY (by first | (with_reducible first | rfl | assumption) | decide) ?_ | refine gTF (by first | (with_reducible first | rfl | assumption) | decide) ?_ | refine gFT (by first | (with_reducible first | rfl | assumption) | decide) ?_ | ((first | refine gsT (fun h => ?_) (fun h => ?_) | refine gsF (fun h => ?_) (fun h => ?_)) <;> (have hs := h; try simp only [reduceCtorEq, emptyLit, emptyLit2, Int.reduceEq, Int.reduceNe, Int.reduceLT, Int.reduceLE, Int.reduceBEq, Int.reduceBNe, false_and, and_false, false_or, or_false, true_and, and_true, true_or, or_true, not_true_eq_false, not_false_eq_true, cond_true, cond_false, Int.toNat_natCast, List.length_map, beqS_iff, beqS_no, Bool.cond_true_left, Bool.cond_false_right, Bool.or_eq_true, Bool.or_eq_false_iff, Bool.and_eq_true, Bool.and_eq_false_iff, decide_eq_true_eq, decide_eq_false_iff_not, Bool.not_eq_true', Bool.not_eq_false', beq_iff_eq, bne_iff_ne, beq_eq_false_iff_ne, bne_eq_false_iff_eq, Int.ofNat_lt, Int.ofNat_le, Int.not_lt, Int.not_le, ge_iff_le, gt_iff_lt, ne_eq] at hs)))
        | (refine .inl ?_))
      | refine cTrue (by first | (with_reducible first | rfl | assumption) | decide) ?_
      | refine cFalse (by first | (with_reducible first | rfl | assumption) | decide) ?_
      | refine gY (by first | (with_reducible first | rfl | assumption) | decide) ?_
      | refine gTF (by first | (with_reducible first | rfl | assumption) | decide) ?_
      | refine gFT (by first | (with_reducible first | rfl | assumption) | decide) ?_
      | ((first | refine gsT (fun h => ?_) (fun h => ?_) | refine gsF (fun h => ?_) (fun h => ?_) | refine ⟨fun h => ?_, fun h => ?_⟩) <;> (have hs := h; try simp only [reduceCtorEq, emptyLit, emptyLit2, Int.reduceEq, Int.reduceNe, Int.reduceLT, Int.reduceLE, Int.reduceBEq, Int.reduceBNe, false_and, and_false, false_or, or_false, true_and, and_true, true_or, or_true, not_true_eq_false, not_false_eq_true, cond_true, cond_false, Int.toNat_natCast, List.length_map, beqS_iff, beqS_no, Bool.cond_true_left, Bool.cond_false_right, Bool.or_eq_true, Bool.or_eq_false_iff, Bool.and_eq_true, Bool.and_eq_false_iff, decide_eq_true_eq, decide_eq_false_iff_not, Bool.not_eq_true', Bool.not_eq_false', beq_iff_eq, bne_iff_ne, beq_eq_false_iff_ne, bne_eq_false_iff_eq, Int.ofNat_lt, Int.ofNat_le, Int.not_lt, Int.not_le, ge_iff_le, gt_iff_lt, ne_eq] at hs))
      | (refine .inl ⟨_, _, c_Contains hn, ?_⟩)
      | (refine .inl ⟨_, _, c_Writes_copy ha hb, ?_⟩)
      | ((with_reducible show _ ∧ _ ∧ Weak _ _ _); refine ⟨?_, ?_, Weak.go⟩; (omega))
      | ((with_reducible show (_ ∧ _ ∧ _) ∧ _); refine ⟨⟨by kernel_rfl, by kernel_rfl, by rfl⟩, ?_⟩)
      | ((with_reducible show AV.pf _ = true ∧ _); refine ⟨pf_of1 rfl, ?_⟩)
      | (refine ⟨rfl, ?_, ?_, ?_⟩; (first | exact fun h => h | exact fun _ => rfl | exact notF | exact andL | exact andR | exact fun h' => andI h h' | exact fun h' => andN h h'); (first | exact fun h => h | exact fun _ => rfl | exact notF | exact andL | exact andR | exact fun h' => andI h h' | exact fun h' => andN h h'))
      | ((with_reducible show (_ ∨ _) ∧ _ ∧ retA _ _ _ _ _); refine ⟨?_, rfl, ?_⟩; (first | exact .inr rfl | exact .inl rfl))
      | ((with_reducible show _ = _ ∧ _ = false ∧ _ = _); refine ⟨?_, rfl, rfl⟩; try (first | rfl | (conv => lhs; whnf)))
      | ((with_reducible show _ = _ ∧ (_ → _)); refine ⟨?_, ?_⟩; try (first | rfl | (conv => lhs; whnf)))
      | exact fun h => h
      | exact fun _ => rfl
      | refine ⟨rfl, ?_⟩
      | (refine ⟨Nat.le_of_ble_eq_true rfl, ?_⟩)
      | (refine ⟨?_, ?_, ?_⟩; (first | (refine sizeOk rfl ?_; simp only [List.length_map, List.length_append, List.length_take, List.length_drop, List.length_cons, List.length_nil]; omega) | omega | (simp only [List.length_map, List.length_append, List.length_take, List.length_drop, List.length_cons, List.length_nil]; omega)); (first | (refine sizeOk rfl ?_; simp only [List.length_map, List.length_append, List.length_take, List.length_drop, List.length_cons, List.length_nil]; omega) | omega | (simp only [List.length_map, List.length_append, List.length_take, List.length_drop, List.length_cons, List.length_nil]; omega)))
      | (refine ⟨?_, ?_⟩; (first | (refine sizeOk rfl ?_; simp only [List.length_map, List.length_append, List.length_take, List.length_drop, List.length_cons, List.length_nil]; omega) | omega | (simp only [List.length_map, List.length_append, List.length_take, List.length_drop, List.length_cons, List.length_nil]; omega)))
      | rw [wrapId (by omega) (by omega)]
      | fail)
    · exact absurd hs (Nat.lt_irrefl 1)
    · conv => whnf
      refine leq_cmd2 ?_
      unfold mayE; rw [if_pos hA', if_neg hs]
    · conv => whnf
      refine leq_cmd2 ?_
      unfold mayE; rw [if_pos hA', if_pos hs]
end Go.Proofs.YtepdiooaoegpfaaGreatDoor.Fx
end
section
/- Disks as the document's answer writes them. Conditions: those in each statement. -/
namespace Go.Proofs.YtepdiooaoegpfaaGreatDoor.Fx
open Go Go.Proofs Go.Ev Go.RowKit
set_option maxRecDepth 100000
set_option maxHeartbeats 1600000
set_option linter.unusedSimpArgs false
set_option linter.unusedVariables false
def SzF (l : List File) : Prop := l.length ≤ 1000000000 ∧ ∀ f ∈ l, f.name.size ≤ 140737488355328
theorem SzF.at {l : List File} (h : SzF l) (i : Nat) (hi : i < l.length) : (l.getD i File.none).name.size ≤ 140737488355328 :=
  h.2 _ (by simp [List.getD_eq_getElem?_getD, hi])
end Go.Proofs.YtepdiooaoegpfaaGreatDoor.Fx
end
