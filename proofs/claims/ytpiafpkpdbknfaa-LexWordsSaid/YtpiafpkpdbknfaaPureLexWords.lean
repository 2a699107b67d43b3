/- The plain law under LexWords: for every text what the program's Words answers is what the reference's Words answers. Conditions: none beyond the statement's own. -/
import Derived.Test.YtpiafpkpdbknfaaPLexWordsx3
import Derived.Test.YtpiafpkpdbknfaaSWords
namespace Go.Proofs.Ytpiafpkpdbknfaa.Pure
open Go.RowKit Go.Proofs.Ytpiafpkpdbknfaa.PLexWords Go.Proofs.YtpiafpkpdbknfaaW.PrintWords Go.Proofs.YtpiafpkpdbknfaaW.PrintLast Go.Proofs.Ytpiafpkpdbknfaa.Sup
set_option linter.unusedVariables false
set_option linter.unusedSimpArgs false

theorem bt_of (s : ByteArray) (i : Nat) (h : i < s.size) : bt s (i : Int) = ((s[i]'h).toNat : Int) := by simp [bt, h]
theorem drop_of (s : ByteArray) (i : Nat) (h : i < s.size) : s.data.toList.drop i = s[i]'h :: s.data.toList.drop (i + 1) := qbyte s i h
theorem ext_of (s : ByteArray) (i j : Nat) (hj : j ≤ s.size) : (s.extract i j).data.toList = (s.data.toList.drop i).take (j - i) := by
  simp [ByteArray.data_extract, Array.toList_extract, List.extract_eq_take_drop]
theorem ext_eq (s : ByteArray) (i j : Nat) (hj : j ≤ s.size) : s.extract i j = ⟨((s.data.toList.drop i).take (j - i)).toArray⟩ := by
  apply ByteArray.ext
  apply Array.ext'
  rw [ext_of s i j hj]
theorem blank_of (c : UInt8) : lex_blank.f (c.toNat : Int) = some (isB c) := by
  unfold lex_blank.f isB
  by_cases h : c = 32
  · subst h; rfl
  · have h1 : ¬ ((c.toNat : Int) = 32) := fun e => h (UInt8.toNat_inj.1 (by show c.toNat = 32; omega))
    rw [if_neg h1]
    have h2 : (c == 32) = false := by simpa using h
    rw [h2, Bool.false_or]
    congr 1
    by_cases h9 : c = 9
    · subst h9; rfl
    · have h3 : ¬ ((c.toNat : Int) = 9) := fun e => h9 (UInt8.toNat_inj.1 (by show c.toNat = 9; omega))
      rw [beq_eq_false_iff_ne.2 h3, beq_eq_false_iff_ne.2 h9]
theorem u8_int {c v : UInt8} : ((c.toNat : Int) = (v.toNat : Int)) ↔ c = v := ⟨fun e => UInt8.toNat_inj.1 (by omega), fun e => by rw [e]⟩
theorem c34 {c : UInt8} : ((c.toNat : Int) = 34) ↔ c = 34 := u8_int (v := 34)
theorem c10 {c : UInt8} : ((c.toNat : Int) = 10) ↔ c = 10 := u8_int (v := 10)
theorem w64 {x : Int} (h0 : 0 ≤ x) (h : x ≤ 4611686018427387904) : wrap64 x = x := by unfold wrap64; omega
def mkW (l : List UInt8) : ByteArray := ⟨l.toArray⟩
def wordsR (o : Option (List (List UInt8))) (acc : List ByteArray) : List ByteArray × Int := match o with | some ws => (acc ++ ws.map mkW, 0) | none => ([], 150)
theorem wordsR_map (o : Option (List (List UInt8))) (w : List UInt8) (acc : List ByteArray) : wordsR (o.map (w :: ·)) acc = wordsR o (acc ++ [mkW w]) := by
  cases o with
  | none => rfl
  | some ws => simp [wordsR]
theorem qfacts (s : ByteArray) (i : Nat) (hi : i < s.size) (hs : s.size ≤ 65536) :
    lex_quoted.f s (i : Int) = some (qW (lexq (s.data.toList.drop (i + 1)) [] (i + 1)), qP (lexq (s.data.toList.drop (i + 1)) [] (i + 1)), qB (lexq (s.data.toList.drop (i + 1)) [] (i + 1))) := by
  unfold lex_quoted.f
  rw [if_pos ⟨by omega, by omega, by omega⟩]
  rfl

theorem w64_add (i m : Nat) (h : i + m ≤ 4611686018427387904) : wrap64 ((i : Int) + (m : Int)) = ((i + m : Nat) : Int) := by rw [w64 (by omega) (by omega)]; omega
theorem w64_sub (s i : Nat) (h : i ≤ s) (h2 : s ≤ 4611686018427387904) : wrap64 ((s : Int) - (i : Int)) = ((s - i : Nat) : Int) := by rw [w64 (by omega) (by omega)]; omega
theorem ia_of (x : ByteArray) (l : List UInt8) (h : x.data.toList = l) (hs : x.size ≤ 65536) : strings_IndexAny.f x ⟨#[32, 9]⟩ = some (if (nb l).length = l.length then -1 else ((nb l).length : Int)) := by
  unfold strings_IndexAny.f
  rw [if_pos ⟨by decide, by decide, by omega, by decide⟩, h]
  exact congrArg some (indexAny_nb l)
theorem ca_of (x : ByteArray) (l : List UInt8) (h : x.data.toList = l) (hs : x.size ≤ 65536) : strings_ContainsAny.f x ⟨#[34, 10]⟩ = some (l.any badB) := by
  unfold strings_ContainsAny.f strings_IndexAny.f
  rw [if_pos ⟨by decide, by decide, by omega, by decide⟩, h, Option.bind_some]
  exact congrArg some (contains_bad l)

set_option maxHeartbeats 1000000 in
theorem words_loop (s : ByteArray) (hs : s.size ≤ 65536) : ∀ (n k i : Nat) (acc : List ByteArray), s.size - i ≤ n → i ≤ s.size → acc.length ≤ i → n < k →
    lex_Words.l0 k s acc (i : Int) = some (wordsR (wordsN n (s.data.toList.drop i)) acc) := by
  intro n
  induction n with
  | zero =>
    intro k i acc hn hi ha hk
    obtain ⟨k, rfl⟩ : ∃ m, k = m + 1 := ⟨k - 1, by omega⟩
    simp only [lex_Words.l0]
    rw [if_neg (by omega)]
    simp [wordsN, wordsR]
  | succ n ih =>
    intro k i acc hn hi ha hk
    obtain ⟨k, rfl⟩ : ∃ m, k = m + 1 := ⟨k - 1, by omega⟩
    simp only [lex_Words.l0]
    by_cases hlt : i < s.size
    · obtain ⟨c, hc⟩ : ∃ c, s[i]'hlt = c := ⟨_, rfl⟩
      have hd := drop_of s i hlt
      rw [hc] at hd
      rw [if_pos (by omega), if_pos (by omega), bt_of s i hlt, hc, blank_of, hd]
      simp only [Option.bind_some]
      have hl : (s.data.toList.drop (i + 1)).length = s.size - (i + 1) := by simp
      cases hb : isB c
      · simp only [Bool.false_eq_true, if_false]
        by_cases h34 : c = 34
        · subst h34
          rw [if_pos (c34.2 rfl), wordsN_quote]
          have hqf := qfacts s i hlt hs
          rw [lexq_zero _ _ (i + 1)] at hqf
          cases hq : lexq (s.data.toList.drop (i + 1)) [] 0 with
          | none =>
            rw [hq] at hqf
            rw [hqf]
            rfl
          | some x =>
            obtain ⟨w, p⟩ := x
            have hbd := lexq_bound _ _ (Nat.le_refl _) _ _ _ _ hq
            have hbd2 := hbd.2.1
            rw [hl] at hbd2
            rw [hq] at hqf
            replace hqf : lex_quoted.f s (i : Int) = some (mkW w, ((p + (i + 1) : Nat) : Int), true) := hqf
            rw [hqf]
            simp only [Option.bind_some, if_true]
            have hdd : s.data.toList.drop (p + (i + 1)) = (s.data.toList.drop (i + 1)).drop p := by rw [List.drop_drop]; congr 1; omega
            have hih : lex_Words.l0 k s (acc ++ [mkW w]) ((p + (i + 1) : Nat) : Int) = some (wordsR (wordsN n ((s.data.toList.drop (i + 1)).drop p)) (acc ++ [mkW w])) := by
              rw [ih k (p + (i + 1)) (acc ++ [mkW w]) (by omega) (by omega) (by simp; omega) (by omega), hdd]
            have hal : acc.length < 8796093022208 := by omega
            by_cases hpl : p + (i + 1) < s.size
            · have hd2 := drop_of s (p + (i + 1)) hpl
              rw [hdd] at hd2
              have he : endOk ((s.data.toList.drop (i + 1)).drop p) = isB (s[p + (i + 1)]'hpl) := by rw [hd2]; rfl
              rw [if_pos (by omega), if_pos (by omega), bt_of s _ hpl, blank_of, he]
              simp only [Option.bind_some]
              cases hb2 : isB (s[p + (i + 1)]'hpl)
              · rfl
              · simp only [if_true]
                rw [if_pos hal, hih, wordsR_map]
            · have he : (s.data.toList.drop (i + 1)).drop p = [] := List.drop_eq_nil_of_le (by rw [hl]; omega)
              rw [if_neg (by omega), if_pos hal, hih, he]
              simp only [endOk, if_true]
              rw [wordsR_map]
        · rw [if_neg (fun e => h34 (c34.1 e)), if_pos (by omega), wordsN_plain _ _ _ hb h34]
          have hnb := nb_cons (s.data.toList.drop (i + 1)) hb
          have hnl := nb_le (c :: s.data.toList.drop (i + 1))
          have hdl : (c :: s.data.toList.drop (i + 1)).length = s.size - i := by rw [← hd]; simp
          obtain ⟨m, hm⟩ : ∃ m, (nb (c :: s.data.toList.drop (i + 1))).length = m := ⟨_, rfl⟩
          have hm1 : 1 ≤ m := by rw [← hm, hnb]; simp
          have htk : (s.data.toList.drop i).take m = nb (c :: s.data.toList.drop (i + 1)) := by
            rw [hd, ← hm]
            exact (List.prefix_iff_eq_take.1 (List.takeWhile_prefix _)).symm
          have hal : acc.length < 8796093022208 := by omega
          have hex := ext_of s i s.size (Nat.le_refl _)
          rw [hd, List.take_of_length_le (by omega)] at hex
          have hia := ia_of (s.extract i s.size) _ hex (by rw [ByteArray.size_extract]; omega)
          rw [hm, hdl] at hia
          have hex2 := ext_of s i (i + m) (by omega)
          rw [show i + m - i = m by omega, htk] at hex2
          have hca := ca_of (s.extract i (i + m)) _ hex2 (by rw [ByteArray.size_extract]; omega)
          have he3 : s.extract i (i + m) = mkW (nb (c :: s.data.toList.drop (i + 1))) := by
            rw [ext_eq s i (i + m) (by omega), show i + m - i = m by omega, htk]; rfl
          have hih : lex_Words.l0 k s (acc ++ [s.extract i (i + m)]) ((i + m : Nat) : Int) = some (wordsR (wordsN n ((c :: s.data.toList.drop (i + 1)).drop m)) (acc ++ [mkW (nb (c :: s.data.toList.drop (i + 1)))])) := by
            rw [ih k (i + m) _ (by omega) (by omega) (by simp; omega) (by omega), he3, ← hd, List.drop_drop]
          have e0 : (((i : Int) : Int).toNat) = i := by omega
          rw [e0, hia, hm]
          simp only [Option.bind_some]
          have c1 : (i : Int) ≤ ((i + m : Nat) : Int) := by omega
          have c2 : ((i + m : Nat) : Int) ≤ (s.size : Int) := by omega
          by_cases hms : m = s.size - i
          · have c0 : (-1 : Int) < 0 := by decide
            rw [if_pos hms, if_pos c0, w64_sub s.size i (by omega) (by omega), ← hms, w64_add i m (by omega), if_pos c1, if_pos c2, Int.toNat_natCast, hca]
            rw [Option.bind_some]
            cases hbad : (nb (c :: s.data.toList.drop (i + 1))).any badB
            · rw [if_neg Bool.false_ne_true, if_neg Bool.false_ne_true, if_pos hal, hih, wordsR_map]
            · rw [if_pos rfl, if_pos rfl]; rfl
          · have c0 : ¬ ((m : Int) < 0) := by omega
            rw [if_neg hms, if_neg c0, w64_add i m (by omega), if_pos c1, if_pos c2, Int.toNat_natCast, hca]
            rw [Option.bind_some]
            cases hbad : (nb (c :: s.data.toList.drop (i + 1))).any badB
            · rw [if_neg Bool.false_ne_true, if_neg Bool.false_ne_true, if_pos hal, hih, wordsR_map]
            · rw [if_pos rfl, if_pos rfl]; rfl
      · simp only [if_true]
        rw [w64 (by omega) (by omega), wordsN_blank _ _ _ hb]
        exact ih k (i + 1) acc (by omega) (by omega) (by omega) (by omega)
    · rw [if_neg (by omega), List.drop_eq_nil_of_le (by simp; omega)]
      simp [wordsN, wordsR]
/-- What Words tells of a text. -/
def wordsA (s : ByteArray) : List ByteArray × Int := if s.size > 65536 then ([], 2) else wordsR (wordsN s.size s.data.toList) []
theorem words_all (s : ByteArray) (k : Nat) (hk : 65537 < k) : lex_Words.f k s = some (wordsA s) := by
  unfold lex_Words.f wordsA
  by_cases h : s.size > 65536
  · rw [if_pos (by omega), if_pos h]
  · rw [if_neg (by omega), if_neg h]
    have := words_loop s (by omega) s.size k 0 [] (by omega) (by omega) (by simp) (by omega)
    simpa using this
theorem rblank_of (c : UInt8) : smithyref15_blank.f (c.toNat : Int) = some (isB c) := blank_of c
theorem rqfacts (s : ByteArray) (i : Nat) (hi : i < s.size) (hs : s.size ≤ 65536) :
    smithyref15_quoted.f s (i : Int) = some (qW (lexq (s.data.toList.drop (i + 1)) [] (i + 1)), rP (lexq (s.data.toList.drop (i + 1)) [] (i + 1))) := by
  unfold smithyref15_quoted.f
  rw [if_pos ⟨by omega, by omega, by omega⟩]
  rfl
theorem ref_scan (s : ByteArray) (hs : s.size ≤ 65536) (st : Nat) (acc : List ByteArray) (hal : acc.length < 8796093022208) :
    ∀ (m j k : Nat), j ≤ s.size → st ≤ j → (nb (s.data.toList.drop j)).length = m →
      smithyref15_Words.l1 (k + 2 * m + 2) s acc (j : Int) (st : Int) =
        if (nb (s.data.toList.drop j)).any badB = true then some (([] : List ByteArray), (150 : Int)) else smithyref15_Words.l0 k s (acc ++ [s.extract st (j + m)]) ((j + m : Nat) : Int) := by
  intro m
  induction m with
  | zero =>
    intro j k hj hst hm
    have hn : nb (s.data.toList.drop j) = [] := List.length_eq_zero_iff.1 hm
    rw [hn, List.any_nil, if_neg Bool.false_ne_true]
    show smithyref15_Words.l1 (k + 2) s acc (j : Int) (st : Int) = smithyref15_Words.l0 k s (acc ++ [s.extract st j]) (j : Int)
    have h0 : (0 : Int) ≤ (st : Int) := by omega
    have h1 : (st : Int) ≤ (j : Int) := by omega
    have h2 : (j : Int) ≤ (s.size : Int) := by omega
    have h3 : (0 : Int) ≤ (j : Int) := by omega
    simp only [smithyref15_Words.l1]
    by_cases hlt : j < s.size
    · have hd := drop_of s j hlt
      have hb : isB (s[j]'hlt) = true := by
        rw [hd] at hn
        cases hb : isB (s[j]'hlt)
        · rw [nb_cons _ hb] at hn; cases hn
        · rfl
      have h4 : (j : Int) < (s.size : Int) := by omega
      rw [if_pos h4, if_pos h3, bt_of s j hlt, rblank_of, hb, Option.bind_some]
      simp only [smithyref15_Words.j2, Bool.not_true, Bool.false_eq_true, if_false]
      rw [if_pos h0, if_pos h1, if_pos h2, if_pos hal, Int.toNat_natCast, Int.toNat_natCast]
    · have h4 : ¬ ((j : Int) < (s.size : Int)) := by omega
      rw [if_neg h4]
      simp only [smithyref15_Words.j2, Bool.false_eq_true, if_false]
      rw [if_pos h0, if_pos h1, if_pos h2, if_pos hal, Int.toNat_natCast, Int.toNat_natCast]
  | succ m ih =>
    intro j k hj hst hm
    have hlt : j < s.size := by
      have := nb_le (s.data.toList.drop j)
      rw [hm] at this
      simp at this
      omega
    have hd := drop_of s j hlt
    obtain ⟨c, hc⟩ : ∃ c, s[j]'hlt = c := ⟨_, rfl⟩
    rw [hc] at hd
    have hb : isB c = false := by
      cases hb : isB c
      · rfl
      · rw [hd, nb_blank _ hb] at hm; simp at hm
    have hm2 : (nb (s.data.toList.drop (j + 1))).length = m := by
      rw [hd, nb_cons _ hb] at hm
      simpa using hm
    have hih := ih (j + 1) k (by omega) (by omega) hm2
    rw [hd, nb_cons _ hb, List.any_cons]
    have h3 : (0 : Int) ≤ (j : Int) := by omega
    have h4 : (j : Int) < (s.size : Int) := by omega
    have e3 : k + 2 * (m + 1) + 2 = (k + 2 * m + 2) + 1 + 1 := by omega
    have hj1 : j + 1 ≤ 4611686018427387904 := by omega
    rw [e3]
    simp only [smithyref15_Words.l1]
    rw [if_pos h4, if_pos h3, bt_of s j hlt, hc, rblank_of, hb, Option.bind_some]
    simp only [smithyref15_Words.j2, Bool.not_false, if_true]
    rw [if_pos h3, if_pos h4, bt_of s j hlt, hc]
    by_cases h34 : c = 34
    · subst h34
      rw [if_pos (c34.2 rfl)]
      rfl
    · rw [if_neg (fun e => h34 (c34.1 e))]
      by_cases h10 : c = 10
      · subst h10
        rw [if_pos (c10.2 rfl)]
        rfl
      · rw [if_neg (fun e => h10 (c10.1 e))]
        have hbd : badB c = false := by unfold badB; simp [h34, h10]
        have e1 := w64_add j 1 hj1
        rw [show ((1 : Nat) : Int) = 1 from rfl] at e1
        rw [e1, hih, hbd, Bool.false_or, show j + 1 + m = j + (m + 1) from by omega]
theorem ref_loop (s : ByteArray) (hs : s.size ≤ 65536) : ∀ (n k i : Nat) (acc : List ByteArray), s.size - i ≤ n → i ≤ s.size → acc.length ≤ i → 5 * (s.size - i) < k →
    smithyref15_Words.l0 k s acc (i : Int) = some (wordsR (wordsN n (s.data.toList.drop i)) acc) := by
  intro n
  induction n with
  | zero =>
    intro k i acc hn hi ha hk
    obtain ⟨k, rfl⟩ : ∃ m, k = m + 1 := ⟨k - 1, by omega⟩
    simp only [smithyref15_Words.l0]
    rw [if_neg (by omega)]
    simp [wordsN, wordsR]
  | succ n ih =>
    intro k i acc hn hi ha hk
    obtain ⟨k, rfl⟩ : ∃ m, k = m + 1 := ⟨k - 1, by omega⟩
    simp only [smithyref15_Words.l0]
    by_cases hlt : i < s.size
    · obtain ⟨c, hc⟩ : ∃ c, s[i]'hlt = c := ⟨_, rfl⟩
      have hd := drop_of s i hlt
      rw [hc] at hd
      rw [if_pos (by omega), if_pos (by omega), bt_of s i hlt, hc, rblank_of, hd]
      simp only [Option.bind_some]
      have hl : (s.data.toList.drop (i + 1)).length = s.size - (i + 1) := by simp
      cases hb : isB c
      · simp only [Bool.false_eq_true, if_false]
        by_cases h34 : c = 34
        · subst h34
          rw [if_pos (c34.2 rfl), wordsN_quote]
          have hqf := rqfacts s i hlt hs
          rw [lexq_zero _ _ (i + 1)] at hqf
          cases hq : lexq (s.data.toList.drop (i + 1)) [] 0 with
          | none =>
            rw [hq] at hqf
            rw [hqf]
            rfl
          | some x =>
            obtain ⟨w, p⟩ := x
            have hbd := lexq_bound _ _ (Nat.le_refl _) _ _ _ _ hq
            have hbd2 := hbd.2.1
            rw [hl] at hbd2
            rw [hq] at hqf
            replace hqf : smithyref15_quoted.f s (i : Int) = some (mkW w, ((p + (i + 1) : Nat) : Int)) := hqf
            rw [hqf]
            simp only [Option.bind_some]
            have hdd : s.data.toList.drop (p + (i + 1)) = (s.data.toList.drop (i + 1)).drop p := by rw [List.drop_drop]; congr 1; omega
            have hih : smithyref15_Words.l0 k s (acc ++ [mkW w]) ((p + (i + 1) : Nat) : Int) = some (wordsR (wordsN n ((s.data.toList.drop (i + 1)).drop p)) (acc ++ [mkW w])) := by
              rw [ih k (p + (i + 1)) (acc ++ [mkW w]) (by omega) (by omega) (by simp; omega) (by omega), hdd]
            have hal : acc.length < 8796093022208 := by omega
            have hneg : ¬ (((p + (i + 1) : Nat) : Int) < 0) := by omega
            rw [if_neg hneg]
            by_cases hpl : p + (i + 1) < s.size
            · have hd2 := drop_of s (p + (i + 1)) hpl
              rw [hdd] at hd2
              have he : endOk ((s.data.toList.drop (i + 1)).drop p) = isB (s[p + (i + 1)]'hpl) := by rw [hd2]; rfl
              rw [if_pos (by omega), if_pos (by omega), bt_of s _ hpl, rblank_of, he]
              simp only [Option.bind_some]
              cases hb2 : isB (s[p + (i + 1)]'hpl)
              · rfl
              · simp only [if_true]
                rw [if_pos hal, hih, wordsR_map]
            · have he : (s.data.toList.drop (i + 1)).drop p = [] := List.drop_eq_nil_of_le (by rw [hl]; omega)
              rw [if_neg (by omega), if_pos hal, hih, he]
              simp only [endOk, if_true]
              rw [wordsR_map]
        · rw [if_neg (fun e => h34 (c34.1 e)), wordsN_plain _ _ _ hb h34]
          have hnb := nb_cons (s.data.toList.drop (i + 1)) hb
          have hnl := nb_le (c :: s.data.toList.drop (i + 1))
          have hdl : (c :: s.data.toList.drop (i + 1)).length = s.size - i := by rw [← hd]; simp
          obtain ⟨m, hm⟩ : ∃ m, (nb (c :: s.data.toList.drop (i + 1))).length = m := ⟨_, rfl⟩
          have hm1 : 1 ≤ m := by rw [← hm, hnb]; simp
          have htk : (s.data.toList.drop i).take m = nb (c :: s.data.toList.drop (i + 1)) := by
            rw [hd, ← hm]
            exact (List.prefix_iff_eq_take.1 (List.takeWhile_prefix _)).symm
          have hal : acc.length < 8796093022208 := by omega
          have he3 : s.extract i (i + m) = mkW (nb (c :: s.data.toList.drop (i + 1))) := by
            rw [ext_eq s i (i + m) (by omega), show i + m - i = m by omega, htk]; rfl
          obtain ⟨k2, hk2⟩ : ∃ k2, k = k2 + 2 * m + 2 := ⟨k - 2 * m - 2, by omega⟩
          have hih : smithyref15_Words.l0 k2 s (acc ++ [s.extract i (i + m)]) ((i + m : Nat) : Int) = some (wordsR (wordsN n ((c :: s.data.toList.drop (i + 1)).drop m)) (acc ++ [mkW (nb (c :: s.data.toList.drop (i + 1)))])) := by
            rw [ih k2 (i + m) _ (by omega) (by omega) (by simp; omega) (by omega), he3, ← hd, List.drop_drop]
          rw [hk2, ref_scan s hs i acc hal m i k2 (by omega) (Nat.le_refl _) (by rw [hd, hm]), hd, hm]
          cases hbad : (nb (c :: s.data.toList.drop (i + 1))).any badB
          · rw [if_neg Bool.false_ne_true, if_neg Bool.false_ne_true, hih, wordsR_map]
          · rw [if_pos rfl, if_pos rfl]; rfl
      · simp only [if_true]
        rw [w64 (by omega) (by omega), wordsN_blank _ _ _ hb]
        exact ih k (i + 1) acc (by omega) (by omega) (by omega) (by omega)
    · rw [if_neg (by omega), List.drop_eq_nil_of_le (by simp; omega)]
      simp [wordsN, wordsR]
theorem ref_all (s : ByteArray) (k : Nat) (hk : 327681 < k) : smithyref15_Words.f k s = some (wordsA s) := by
  unfold smithyref15_Words.f wordsA
  by_cases h : s.size > 65536
  · rw [if_pos (by omega), if_pos h]
  · rw [if_neg (by omega), if_neg h]
    have := ref_loop s (by omega) s.size k 0 [] (by omega) (by omega) (by simp) (by omega)
    simpa using this
theorem texts_loop (l : List ByteArray) (hl : l.length ≤ 4294967296) : ∀ (n k i : Nat), l.length - i ≤ n → i ≤ l.length → n < k → smithyplain_Texts.l0 k l l (l.length : Int) (i : Int) = some true := by
  intro n
  induction n with
  | zero =>
    intro k i hn hi hk
    obtain ⟨k, rfl⟩ : ∃ m, k = m + 1 := ⟨k - 1, by omega⟩
    simp only [smithyplain_Texts.l0]
    rw [if_neg (by omega)]
  | succ n ih =>
    intro k i hn hi hk
    obtain ⟨k, rfl⟩ : ∃ m, k = m + 1 := ⟨k - 1, by omega⟩
    simp only [smithyplain_Texts.l0]
    by_cases hlt : i < l.length
    · have hih := ih k (i + 1) (by omega) (by omega) (by omega)
      have e1 := w64_add i 1 (by omega)
      have h1 : (i : Int) < (l.length : Int) := by omega
      have h0 : (0 : Int) ≤ (i : Int) := by omega
      rw [show ((1 : Nat) : Int) = 1 from rfl] at e1
      rw [if_pos h1, if_pos h0, if_pos h1, if_pos h1, if_true, e1, hih]
    · rw [if_neg (by omega)]
theorem texts_refl (l : List ByteArray) (k : Nat) (hl : l.length ≤ 4294967296) (hk : l.length < k) : smithyplain_Texts.f k l l = some true := by
  unfold smithyplain_Texts.f
  rw [if_pos rfl]
  exact texts_loop l hl l.length k 0 (by omega) (by omega) (by omega)
theorem wordsN_len : ∀ (n : Nat) (l : List UInt8) (ws : List (List UInt8)), wordsN n l = some ws → ws.length ≤ n
  | 0, _, ws, h => by simp [wordsN] at h; subst h; simp
  | n + 1, [], ws, h => by simp [wordsN] at h; subst h; simp
  | n + 1, c :: t, ws, h => by
    have ih := wordsN_len n
    rw [wordsN] at h
    split at h
    · have := ih _ _ h; omega
    · split at h
      · split at h
        · cases h
        · split at h
          · obtain ⟨a, ha, rfl⟩ := Option.map_eq_some_iff.1 h
            have := ih _ _ ha
            simp; omega
          · cases h
      · split at h
        · cases h
        · obtain ⟨a, ha, rfl⟩ := Option.map_eq_some_iff.1 h
          have := ih _ _ ha
          simp; omega
theorem wordsA_len (s : ByteArray) : (wordsA s).1.length ≤ 65536 := by
  unfold wordsA
  split
  · simp
  · rename_i h
    cases hw : wordsN s.size s.data.toList with
    | none => simp [wordsR]
    | some ws =>
      have := wordsN_len _ _ _ hw
      simp [wordsR]; omega
theorem small_ok (k : Nat) (hk : 327681 < k) : smithylaw15_small.f k = some true := by
  unfold smithylaw15_small.f
  have e1 : wordsA (⟨#[99, 111, 112, 121, 32, 97, 32, 34, 98, 32, 99, 34, 32, 34, 34]⟩ : ByteArray) = ([(⟨#[99, 111, 112, 121]⟩ : ByteArray), (⟨#[97]⟩ : ByteArray), (⟨#[98, 32, 99]⟩ : ByteArray), (⟨#[]⟩ : ByteArray)], 0) := by decide +kernel
  have e2 : wordsA (⟨#[97, 34, 98, 34]⟩ : ByteArray) = ([], 150) := by decide +kernel
  have e3 : lex_Quote.f (⟨#[97, 32, 98]⟩ : ByteArray) = some ⟨#[34, 97, 32, 98, 34]⟩ := by decide +kernel
  have e4 : lex_Quote.f (⟨#[97, 98]⟩ : ByteArray) = some ⟨#[97, 98]⟩ := by decide +kernel
  have e5 : (some ((⟨#[97, 98]⟩ : ByteArray).toList == ([97, 98] : List UInt8))) = some true := by decide +kernel
  rw [words_all _ k (by omega), Option.bind_some, words_all _ k (by omega), Option.bind_some, e1, e2, e3, e4]
  rw [if_pos rfl, if_pos rfl, texts_refl _ k (by simp) (by simp; omega), Option.bind_some, if_pos rfl, Option.bind_some, if_pos (by decide +kernel), Option.bind_some]
  exact e5
theorem LexWords : smithylaw15_LexWords.Pure := by
  intro a0 _
  refine ⟨400000, ?_⟩
  unfold smithylaw15_LexWords.f
  have hl := wordsA_len a0
  rw [words_all a0 _ (by omega), Option.bind_some, ref_all a0 _ (by omega), Option.bind_some, texts_refl _ _ (by omega) (by omega), Option.bind_some, if_pos rfl, if_pos rfl, small_ok _ (by omega)]
  rfl

end Go.Proofs.Ytpiafpkpdbknfaa.Pure
