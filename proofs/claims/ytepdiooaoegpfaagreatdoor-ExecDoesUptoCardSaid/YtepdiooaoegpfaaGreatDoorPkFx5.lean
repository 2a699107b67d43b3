/- Written by programs of this session: laws and contracts that the law's proof stands on, merged into one text. Conditions: none beyond those in each statement. -/
import Derived.Test.YtepdiooaoegpfaaGreatDoorPkFx4
section
/- A file is put into a row. Conditions: those in each statement. -/
namespace Go.Proofs.YtepdiooaoegpfaaGreatDoor.Fx
open Go Go.Proofs Go.Ev Go.RowKit
set_option maxRecDepth 100000
set_option maxHeartbeats 1600000
set_option linter.unusedSimpArgs false
set_option linter.unusedVariables false
/-- What a file put into a row comes to: the row's own box, or a new one. -/
@[irreducible] def InsR (q n i : Nat) (B F : List AV) (env : List Bx) (r : AV) (ow : Bool) (env' : List Bx) : Prop :=
  ow = false ∧ ∃ B' c', pfL B' = true ∧ n + 1 ≤ c' ∧ c' ≤ 9223372036854775807 ∧ B'.length = c' * 3 ∧ B'.take ((n + 1) * 3) = B.take (i * 3) ++ F ++ (B.take (n * 3)).drop (i * 3) ∧
      ((r = .xs q 0 3 (n + 1) c' ∧ env' = env.set q (.cells B' [])) ∨ ∃ new j, r = .xs (env.length + j) 0 3 (n + 1) c' ∧ env' = env ++ new ∧ new[j]? = some (.cells B' []))
theorem InsR.set {q n i cp : Nat} {B F B' : List AV} {env : List Bx} (h1 : pfL B' = true) (h2 : n + 1 ≤ cp) (h3 : cp ≤ 9223372036854775807) (h4 : B'.length = cp * 3) (h5 : B'.take ((n + 1) * 3) = B.take (i * 3) ++ F ++ (B.take (n * 3)).drop (i * 3)) :
    InsR q n i B F env (.xs q 0 3 (n + 1) cp) false (env.set q (.cells B' []) ++ []) := by
  unfold InsR
  exact ⟨rfl, B', cp, h1, h2, h3, h4, h5, .inl ⟨rfl, by simp⟩⟩
theorem InsR.new {q n i cp j base : Nat} {B F B' : List AV} {env own : List Bx} (h1 : pfL B' = true) (h2 : n + 1 ≤ cp) (h3 : cp ≤ 9223372036854775807) (h4 : B'.length = cp * 3) (h5 : B'.take ((n + 1) * 3) = B.take (i * 3) ++ F ++ (B.take (n * 3)).drop (i * 3)) (h6 : own[j]? = some (.cells B' [])) :
    InsR q n i B F env (.xs (env.length + j) 0 3 (n + 1) cp) false (env ++ own.map (Bx.up base)) := by
  unfold InsR
  exact ⟨rfl, B', cp, h1, h2, h3, h4, h5, .inr ⟨_, j, rfl, rfl, by rw [List.getElem?_map, h6]; simp only [Option.map_some, Bx.up, upL_pf _ _ h1]⟩⟩
theorem wrL_len {α : Type} {l : List α} {off : Nat} {xs : List α} (h : off + xs.length ≤ l.length) : (wrL l off xs).length = l.length := by
  unfold wrL; simp only [List.length_append, List.length_take, List.length_drop]; omega
theorem pfL_drop {l : List AV} (k : Nat) (h : pfL l = true) : pfL (l.drop k) = true := by
  induction k generalizing l with
  | zero => exact h
  | succ k ih =>
    cases l with
    | nil => exact h
    | cons x l => simp only [pfL, Bool.and_eq_true] at h; exact ih h.2
theorem pfL_wrL {l xs : List AV} {off : Nat} (h1 : pfL l = true) (h2 : pfL xs = true) : pfL (wrL l off xs) = true := pfL_append (pfL_append (pfL_take _ h1) h2) (pfL_drop _ h1)
theorem s41 : Tryz.prog.types[41].size = 3 := rfl
theorem b41 : Tryz.prog.types[41].bytes = 40 := rfl
theorem co41 : Tryz.prog.cellsOf 41 = 3 := rfl
theorem zl41 : (cst (.agg #[.string { data := #[] }, .string { data := #[] }, .int .i64 0])).leaves.length = 3 := rfl
theorem wrL_len' {α : Type} {l : List α} {off : Nat} {xs : List α} : (wrL l off xs).length = min off l.length + xs.length + (l.length - (off + xs.length)) := by
  unfold wrL; simp only [List.length_append, List.length_take, List.length_drop]
theorem toNat_i1 (i : Nat) : ((i : Int) + ((1 : Nat) : Int)).toNat = i + 1 := rfl
theorem nmin (a b : Nat) : Nat.min a b = min a b := rfl
theorem toNat_i (i : Nat) : (i : Int).toNat = i := rfl
theorem zl42 : (cst (.agg #[.string .empty, .string .empty, .int .i64 0])).leaves.length = 3 := rfl
theorem dropEnd {B : List AV} {k : Nat} : (B.take k).drop k = [] := List.drop_eq_nil_of_le (by simp only [List.length_take]; omega)
theorem takeF {F : List AV} (hF : F.length = 3) : (F.drop 0).take (1 * 3) = F := by rw [List.drop_zero, List.take_of_length_le (by omega)]
theorem insTake0 {B F Z : List AV} {i : Nat} (hF : F.length = 3) (hB : i * 3 ≤ B.length) : (B.take (i * 3) ++ F ++ Z).take ((i + 1) * 3) = B.take (i * 3) ++ F ++ (B.take (i * 3)).drop (i * 3) := by
  rw [dropEnd, List.append_nil, List.take_left' (by simp only [List.length_append, List.length_take]; omega)]
theorem insTake1 {B F G Y : List AV} {n i : Nat} (hF : F.length = 3) (hG : G.take (i * 3) = B.take (i * 3)) (hGl : (n + 1) * 3 ≤ G.length) (hBl : n * 3 ≤ B.length) (hi : i < n) (hY : Y = (B.take (n * 3)).drop (i * 3)) :
    (wrL (wrL G (i * 3) F) ((i + 1) * 3) Y).take ((n + 1) * 3) = B.take (i * 3) ++ F ++ (B.take (n * 3)).drop (i * 3) := by
  have h1 : (wrL G (i * 3) F).take ((i + 1) * 3) = B.take (i * 3) ++ F := by
    unfold wrL
    rw [hG, List.take_left' (by simp only [List.length_append, List.length_take]; omega)]
  show (List.take _ (wrL G (i * 3) F) ++ Y ++ _).take _ = _
  rw [h1, List.take_left' (by rw [hY]; simp only [List.length_append, List.length_take, List.length_drop]; omega), hY]
theorem insTake2 {B F Y : List AV} {n i : Nat} (hF : F.length = 3) (hBl : (n + 1) * 3 ≤ B.length) (hi : i < n) (hY : Y = (B.take (n * 3)).drop (i * 3)) :
    (wrL (wrL B ((i + 1) * 3) Y) (i * 3) F).take ((n + 1) * 3) = B.take (i * 3) ++ F ++ (B.take (n * 3)).drop (i * 3) := by
  have hYl : Y.length = (n - i) * 3 := by rw [hY]; simp only [List.length_take, List.length_drop]; omega
  have h1 : (wrL B ((i + 1) * 3) Y).take (i * 3) = B.take (i * 3) := by
    unfold wrL
    rw [List.append_assoc, List.take_append_of_le_length (by simp only [List.length_take]; omega), List.take_take, Nat.min_eq_left (by omega)]
  have h2 : (wrL B ((i + 1) * 3) Y).drop (i * 3 + F.length) = Y ++ B.drop ((i + 1) * 3 + Y.length) := by
    unfold wrL
    rw [List.append_assoc, List.drop_left' (by simp only [List.length_take]; omega)]
  show (List.take _ (wrL B ((i + 1) * 3) Y) ++ F ++ List.drop _ (wrL B ((i + 1) * 3) Y)).take _ = _
  rw [h1, h2, ← List.append_assoc, List.take_left' (by simp only [List.length_append, List.length_take, hYl]; omega), hY]
theorem c_InsertB {q q2 n cp i : Nat} {B F : List AV} {env : List Bx} (h1 : env[q]? = some (.cells B [])) (h2 : env[q2]? = some (.cells F [])) (hF : F.length = 3) (hq : q ≠ q2) (hB : B.length = cp * 3) (pB : pfL B = true) (pF : pfL F = true) (hn : n ≤ cp) (hn9 : n ≤ 1000000000) (hc : cp ≤ 9223372036854775807) (hi : i ≤ n) :
    XCalls Tryz.prog 118 [.xs q 0 3 n cp, i64 i, .xs q2 0 3 1 1] env (InsR q n i B F env) := by
  refine XCalls.bodyB Tryz.func118 rfl (Nat.le_of_ble_eq_true (by rfl)) ?_
  iterate 40 any_goals try ((conv => whnf); (fail_if_success refine zC ?_); first | refine zS ?_ | refine zB (fun h hs => ?_) (fun h hs => ?_) <;> try exact hs.elim | (first | rw [h1] | rw [h2] | (refine ⟨.inr (by first | exact pfL_take _ pF), ?_⟩)) | exact zEs | refine zZs ?_ | (refine ⟨?_, ?_, ?_⟩; ((try dsimp only); first | omega | (simp only [List.length_append, List.length_take, List.length_drop]; omega) | exact .inr (pfL_take _ pF)); ((try dsimp only); first | omega | (simp only [List.length_append, List.length_take, List.length_drop]; omega) | exact .inr (pfL_take _ pF))) | (refine ⟨?_, ?_⟩; ((try dsimp only); first | omega | (simp only [List.length_append, List.length_take, List.length_drop]; omega) | exact .inr (pfL_take _ pF))) | fail)
  · conv => whnf
    refine ⟨by show 0 + 1 * 3 ≤ F.length; omega, by show (n + 1) * 40 ≤ _; omega, by show n + 1 ≤ _; omega, by show 0 + cp * 3 ≤ B.length; omega, .inr (pfL_take _ pF), fun hle => ?_, fun hgt c' k1 k2 => ?_⟩
    · repeat' ((conv => whnf); (fail_if_success refine zC ?_); first | refine zS ?_ | refine zB (fun h hs => ?_) (fun h hs => ?_) <;> try exact hs.elim | exact zE | refine zZ ?_ | fail)
      conv => whnf
      refine ⟨.inr rfl, List.length_set, ?_⟩
      conv => whnf
      obtain rfl : i = n := by omega
      exact InsR.set (B' := wrL B (0 + i * 3) ((F.drop 0).take (1 * 3))) (pfL_wrL pB (pfL_take _ (pfL_drop _ pF))) hle hc (by rw [wrL_len (by simp; omega)]; exact hB) (by rw [takeF hF, Nat.zero_add]; exact insTake0 hF (by omega))
    · repeat' ((conv => whnf); (fail_if_success refine zC ?_); first | refine zS ?_ | refine zB (fun h hs => ?_) (fun h hs => ?_) <;> try exact hs.elim | exact zE | refine zZ ?_ | fail)
      conv => whnf
      refine ⟨.inr rfl, rfl, ?_⟩
      conv => whnf
      obtain rfl : i = n := by omega
      exact InsR.new (j := 0) (B' := grownL ((B.drop 0).take (i * 3)) ((F.drop 0).take (1 * 3)) (c' - (i + 1)) (.agg #[.string .empty, .string .empty, .int .i64 0])) (pfL_append (pfL_append (pfL_take _ (pfL_drop _ pB)) (pfL_take _ (pfL_drop _ pF))) (pfL_rep rfl _)) k1 k2 (by simp only [grownL, List.length_append, List.length_take, List.length_drop, repLen, zl42, hF, hB]; omega) (by unfold grownL; rw [takeF hF, List.drop_zero]; exact insTake0 hF (by omega)) rfl
  · have w1 : IntKind.i64.wrap ((n : Int) + (1 : Nat)) = ((n + 1 : Nat) : Int) := by rw [wrapId (by omega) (by omega)]; omega
    have w2 : IntKind.i64.wrap (((n + 1 : Nat) : Int) - (i : Int)) = ((n + 1 - i : Nat) : Int) := by rw [wrapId (by omega) (by omega)]; omega
    have hgt : cp < n + 1 := by rw [w1] at hs; omega
    have hin : i < n := by omega
    have hb0 : Nat.beq cp 0 = false := by rw [← Bool.not_eq_true]; intro h; have := Nat.eq_of_beq_eq_true h; omega
    conv => whnf
    have e1 : (i : Int).toNat - 0 + ((n + 1 - i : Nat) : Int).toNat = n + 1 := by omega
    rw [w1, w2, hb0, e1]
    refine ⟨by show (0 : Int) < ((n + 1 - i : Nat) : Int); omega, by show (n + 1) * 40 ≤ _; omega, by show n + 1 ≤ _; omega, by show (0 + 0 * 3) + (cp - 0) * 3 ≤ _; omega, by show cp - 0 < n + 1; omega, fun c' k1 k2 => ?_⟩
    have hbj : Nat.beq c' (i + 1) = false := by rw [← Bool.not_eq_true]; intro h; have := Nat.eq_of_beq_eq_true h; omega
    have hbp : Nat.beq cp i = false := by rw [← Bool.not_eq_true]; intro h; have := Nat.eq_of_beq_eq_true h; omega
    have hbi : Nat.beq c' i = false := by rw [← Bool.not_eq_true]; intro h; have := Nat.eq_of_beq_eq_true h; omega
    repeat' ((conv => whnf); (fail_if_success refine zC ?_); first | refine zS ?_ | refine zB (fun h hs => ?_) (fun h hs => ?_) <;> try exact hs.elim | refine XW.dr (m := 8) ?_ | (first | rw [h2] | rw [h1] | (refine ⟨.inl rfl, ?_⟩)) | exact zEs | refine zZs ?_ | (refine ⟨?_, ?_, ?_⟩; ((try simp only [s41, co41, b41, zl41, hb0, Nat.sub_zero, grownL, repLen, toNat_i, toNat_i1, nmin, hbj, hbp, cond_false, hbi, wrL_len', hF, hB, List.length_append, List.length_take, List.length_drop]); omega); ((try simp only [s41, co41, b41, zl41, hb0, Nat.sub_zero, grownL, repLen, toNat_i, toNat_i1, nmin, hbj, hbp, cond_false, hbi, wrL_len', hF, hB, List.length_append, List.length_take, List.length_drop]); omega)) | (refine ⟨?_, ?_⟩; ((try simp only [s41, co41, b41, zl41, hb0, Nat.sub_zero, grownL, repLen, toNat_i, toNat_i1, nmin, hbj, hbp, cond_false, hbi, wrL_len', hF, hB, List.length_append, List.length_take, List.length_drop]); omega)) | fail)
    conv => whnf
    refine ⟨.inr rfl, rfl, ?_⟩
    conv => whnf
    refine InsR.new (j := 0) ?_ k1 k2 ?_ ?_ rfl
    all_goals simp only [s41, co41, hbj, hbp, hbi, toNat_i, toNat_i1, cond_false, Nat.sub_zero, Nat.zero_add, Nat.zero_mul, List.drop_zero, nmin]
    · repeat' (first | assumption | apply pfL_wrL | apply pfL_append | apply pfL_take | apply pfL_drop | exact pfL_rep rfl _)
    · simp only [wrL_len', grownL, List.length_append, List.length_take, List.length_drop, repLen, zl41, hF, hB]; omega
    · rw [show List.take (min 1 (n + 1 - i) * 3) (List.take (1 * 3) F) = F from by rw [List.take_of_length_le (by simp only [List.length_take]; omega), List.take_of_length_le (by omega)]]
      refine insTake1 (B := B) hF ?_ ?_ (by omega) hin ?_
      · unfold grownL
        rw [List.append_assoc, List.take_append_of_le_length (by simp only [List.length_take]; omega), List.take_take, Nat.min_self]
      · simp only [grownL, List.length_append, List.length_take, repLen, zl41]; omega
      · rw [List.take_take, List.drop_take]; congr 1; omega
  · have w1 : IntKind.i64.wrap ((n : Int) + (1 : Nat)) = ((n + 1 : Nat) : Int) := by rw [wrapId (by omega) (by omega)]; omega
    have hgt : n + 1 ≤ cp := by rw [w1] at hs; omega
    have hin : i < n := by omega
    have hbj : Nat.beq cp (i + 1) = false := by rw [← Bool.not_eq_true]; intro h; have := Nat.eq_of_beq_eq_true h; omega
    have hbp := hbj
    have hbi : Nat.beq cp i = false := by rw [← Bool.not_eq_true]; intro h; have := Nat.eq_of_beq_eq_true h; omega
    have hb0 : Nat.beq cp 0 = false := by rw [← Bool.not_eq_true]; intro h; have := Nat.eq_of_beq_eq_true h; omega
    repeat' ((conv => whnf); (fail_if_success refine zC ?_); first | refine zS ?_ | refine zB (fun h hs => ?_) (fun h hs => ?_) <;> try exact hs.elim | refine XW.dr (m := 8) ?_ | (first | (refine ⟨_, ExtAt.overlaps (qx := q2) (qy := q) rfl rfl rfl rfl rfl rfl rfl rfl rfl (Ne.symm hq) (by simpa using h2) (by simpa using h1) (by intro e; rw [e] at hB; simp at hB; omega), ?_⟩) | rw [h2] | rw [h1] | rw [List.getElem?_set_self (List.getElem?_eq_some_iff.1 h1).1] | rw [List.getElem?_set_ne hq] | rw [w1] | (refine ⟨.inr (pfL_take _ (pfL_drop _ pB)), ?_⟩) | (refine ⟨.inr (pfL_take _ (pfL_drop _ pF)), ?_⟩)) | exact zEs | refine zZs ?_ | (refine ⟨?_, ?_, ?_⟩; ((try simp only [s41, co41, b41, zl41, hb0, Nat.sub_zero, grownL, repLen, toNat_i, toNat_i1, nmin, hbj, hbp, cond_false, hbi, wrL_len', hF, hB, List.length_append, List.length_take, List.length_drop]); omega); ((try simp only [s41, co41, b41, zl41, hb0, Nat.sub_zero, grownL, repLen, toNat_i, toNat_i1, nmin, hbj, hbp, cond_false, hbi, wrL_len', hF, hB, List.length_append, List.length_take, List.length_drop]); omega)) | (refine ⟨?_, ?_⟩; ((try simp only [s41, co41, b41, zl41, hb0, Nat.sub_zero, grownL, repLen, toNat_i, toNat_i1, nmin, hbj, hbp, cond_false, hbi, wrL_len', hF, hB, List.length_append, List.length_take, List.length_drop]); omega)) | fail)
    conv => whnf
    refine ⟨.inr rfl, by simp only [List.length_set], ?_⟩
    conv => whnf
    rw [hb0, List.set_set]
    refine InsR.set (B' := wrL (wrL B _ _) _ _) ?_ hgt hc ?_ ?_
    all_goals simp only [s41, co41, hb0, hbj, hbp, hbi, toNat_i, toNat_i1, cond_false, Nat.sub_zero, Nat.zero_add, List.drop_zero, nmin, Nat.zero_mul]
    · repeat' (first | assumption | apply pfL_wrL | apply pfL_append | apply pfL_take | apply pfL_drop)
    · simp only [wrL_len', List.length_append, List.length_take, List.length_drop, hF, hB]; omega
    · rw [show List.take (min 1 (n + 1 - i) * 3) (List.take (1 * 3) F) = F from by rw [List.take_of_length_le (by simp only [List.length_take]; omega), List.take_of_length_le (by omega)]]
      refine insTake2 hF (by omega) hin ?_
      rw [List.take_take, List.drop_take]; congr 1; omega
end Go.Proofs.YtepdiooaoegpfaaGreatDoor.Fx
end
