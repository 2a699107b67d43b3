/- The words of a command line, as a function on lists of bytes, and plain facts about it. Conditions: those in each statement. -/
import Derived.Test.YtpiafpkpdbknfaaGreatDoorSLexq
import Derived.Test.YtpiafpkpdbknfaaGreatDoorSQuote
import Derived.Lib.IndexAny
namespace Go.Proofs.YtpiafpkpdbknfaaGreatDoor.Sup
set_option linter.unusedVariables false
set_option linter.unusedSimpArgs false

def isB (b : UInt8) : Bool := b == 32 || b == 9
def badB (b : UInt8) : Bool := b == 34 || b == 10
def endOk : List UInt8 → Bool
  | [] => true
  | c :: _ => isB c
def nb (l : List UInt8) : List UInt8 := l.takeWhile fun b => !isB b
/-- The words of a text (with enough rounds: as many as it has bytes); none: it is wrong. -/
def wordsN : Nat → List UInt8 → Option (List (List UInt8))
  | 0, _ => some []
  | n + 1, [] => some []
  | n + 1, c :: t =>
    if isB c then wordsN n t
    else if c = 34 then
      match lexq t [] 0 with
      | none => none
      | some (w, p) => if endOk (t.drop p) then (wordsN n (t.drop p)).map (w :: ·) else none
    else if (nb (c :: t)).any badB then none
    else (wordsN n ((c :: t).drop (nb (c :: t)).length)).map (nb (c :: t) :: ·)

theorem wordsN_blank (n : Nat) (c : UInt8) (t : List UInt8) (h : isB c = true) : wordsN (n + 1) (c :: t) = wordsN n t := by rw [wordsN, if_pos h]
theorem wordsN_quote (n : Nat) (t : List UInt8) : wordsN (n + 1) (34 :: t) = match lexq t [] 0 with
      | none => none
      | some (w, p) => if endOk (t.drop p) then (wordsN n (t.drop p)).map (w :: ·) else none := by
  rw [wordsN, if_neg (by decide), if_pos rfl]
theorem wordsN_plain (n : Nat) (c : UInt8) (t : List UInt8) (h : isB c = false) (h34 : ¬ c = 34) : wordsN (n + 1) (c :: t) = if (nb (c :: t)).any badB then none
    else (wordsN n ((c :: t).drop (nb (c :: t)).length)).map (nb (c :: t) :: ·) := by
  rw [wordsN, if_neg (by simp [h]), if_neg h34]
theorem wordsN_nil (n : Nat) : wordsN n [] = some [] := by cases n <;> rfl

/-- The place only shifts the place. -/
theorem lexq_shift : ∀ (n : Nat) (l : List UInt8), l.length ≤ n → ∀ (acc : List UInt8) (p q : Nat), lexq l acc (p + q) = (lexq l acc p).map fun x => (x.1, x.2 + q)
  | _, [], _, acc, p, q => by rw [lexq.eq_def, lexq.eq_def]; rfl
  | 0, c :: t, h, _, _, _ => by simp at h
  | n + 1, c :: t, h, acc, p, q => by
    have ih := lexq_shift n
    rw [lexq_cons, lexq_cons]
    simp only [List.length_cons] at h
    split
    · simp; omega
    · split
      · rfl
      · split
        · cases t with
          | nil => rfl
          | cons d t' =>
            simp only [List.length_cons] at h
            simp only
            rw [show p + q + 2 = (p + 2) + q by omega]
            split
            · exact ih t' (by omega) _ _ _
            · split
              · exact ih t' (by omega) _ _ _
              · split
                · exact ih t' (by omega) _ _ _
                · rfl
        · rw [show p + q + 1 = (p + 1) + q by omega]
          exact ih t (by omega) _ _ _
theorem lexq_zero (l acc : List UInt8) (q : Nat) : lexq l acc q = (lexq l acc 0).map fun x => (x.1, x.2 + q) := by
  have := lexq_shift l.length l (Nat.le_refl _) acc 0 q
  rwa [Nat.zero_add] at this
/-- A quoted word ends inside its text, behind at least one byte. -/
theorem lexq_bound : ∀ (n : Nat) (l : List UInt8), l.length ≤ n → ∀ (acc : List UInt8) (p : Nat) (w : List UInt8) (r : Nat), lexq l acc p = some (w, r) → p + 1 ≤ r ∧ r ≤ p + l.length ∧ w.length + 1 ≤ acc.length + (r - p)
  | _, [], _, acc, p, w, r, h => by rw [lexq.eq_def] at h; cases h
  | 0, c :: t, hl, _, _, _, _, _ => by simp at hl
  | n + 1, c :: t, hl, acc, p, w, r, h => by
    have ih := lexq_bound n
    rw [lexq_cons] at h
    simp only [List.length_cons] at hl ⊢
    split at h
    · simp only [Option.some.injEq, Prod.mk.injEq] at h
      obtain ⟨rfl, rfl⟩ := h
      omega
    · split at h
      · cases h
      · split at h
        · cases t with
          | nil => cases h
          | cons d t' =>
            simp only [List.length_cons] at hl ⊢
            simp only at h
            split at h
            · have := ih t' (by omega) _ _ _ _ h; simp at this; omega
            · split at h
              · have := ih t' (by omega) _ _ _ _ h; simp at this; omega
              · split at h
                · have := ih t' (by omega) _ _ _ _ h; simp at this; omega
                · cases h
        · have := ih t (by omega) _ _ _ _ h; simp at this; omega
theorem nb_le (l : List UInt8) : (nb l).length ≤ l.length := (List.takeWhile_sublist _).length_le
theorem nb_cons {c : UInt8} (t : List UInt8) (h : isB c = false) : nb (c :: t) = c :: nb t := by simp [nb, h]
theorem nb_blank {c : UInt8} (t : List UInt8) (h : isB c = true) : nb (c :: t) = [] := by simp [nb, h]
/-- The first blank, as the library tells it. -/
theorem indexAny_nb : ∀ l : List UInt8, Lib.indexAny l [32, 9] = if (nb l).length = l.length then -1 else ((nb l).length : Int)
  | [] => rfl
  | c :: t => by
    have ih := indexAny_nb t
    have hc : ([32, 9] : List UInt8).contains c = isB c := by simp [isB, List.contains_cons]; rfl
    rw [Lib.indexAny, hc]
    cases h : isB c
    · rw [nb_cons t h, ih]
      have := nb_le t
      by_cases hl : (nb t).length = t.length
      · simp [hl]
      · simp [hl]
    · rw [nb_blank t h]
      simp
theorem contains_bad : ∀ l : List UInt8, decide (0 ≤ Lib.indexAny l [34, 10]) = l.any badB
  | [] => rfl
  | c :: t => by
    have ih := contains_bad t
    have hc : ([34, 10] : List UInt8).contains c = badB c := by simp [badB, List.contains_cons]; rfl
    have hge := Lib.indexAny_ge [34, 10] t
    rw [Lib.indexAny, hc, List.any_cons, ← ih]
    cases h : badB c
    · simp only [Bool.false_eq_true, if_false, Bool.false_or]
      by_cases h1 : Lib.indexAny t [34, 10] = -1
      · rw [h1]; rfl
      · rw [if_neg (by simpa using h1)]
        exact decide_eq_decide.2 (by omega)
    · simp
end Go.Proofs.YtpiafpkpdbknfaaGreatDoor.Sup
