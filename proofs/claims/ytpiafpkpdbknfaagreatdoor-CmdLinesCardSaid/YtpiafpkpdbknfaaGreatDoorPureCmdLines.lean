/- The plain law under CmdLines: for every text what the program's Line answers is what the reference's Line answers. Conditions: none beyond the statement's own. -/
import Derived.Test.YtpiafpkpdbknfaaGreatDoorPCmdLinesx6
import Derived.Test.YtpiafpkpdbknfaaGreatDoorSWords
namespace Go.Proofs.YtpiafpkpdbknfaaGreatDoor.Pure
open Go.RowKit Go.Proofs.YtpiafpkpdbknfaaGreatDoor.PCmdLines Go.Proofs.YtpiafpkpdbknfaaGreatDoorW.PrintWords Go.Proofs.YtpiafpkpdbknfaaGreatDoorW.PrintLast Go.Proofs.YtpiafpkpdbknfaaGreatDoor.Sup
set_option linter.unusedVariables false
set_option linter.unusedSimpArgs false

theorem bt_of (s : ByteArray) (i : Nat) (h : i < s.size) : bt s (i : Int) = ((s[i]'h).toNat : Int) := by simp [bt, h]
theorem drop_of (s : ByteArray) (i : Nat) (h : i < s.size) : s.data.toList.drop i = s[i]'h :: s.data.toList.drop (i + 1) := qbyte s i h
theorem ext_of (s : ByteArray) (i j : Nat) (hj : j ≤ s.size) : (s.extract i j).data.toList = (s.data.toList.drop i).take (j - i) := by
  simp [ByteArray.data_extract, Array.toList_extract, List.extract_eq_take_drop]
theorem ext_eq (s : ByteArray) (i j : Nat) (hj : j ≤ s.size) : s.extract i j = ⟨((s.data.toList.drop i).take (j - i)).toArray⟩ := by
  apply ByteArray.ext
  apply Array.ext'
  rw [ext_of s i j hj]
theorem blank_of (c : UInt8) : lex_blank.f (c.toNat : Int) = some (isB c) := by
  unfold lex_blank.f isB
  by_cases h : c = 32
  · subst h; rfl
  · have h1 : ¬ ((c.toNat : Int) = 32) := fun e => h (UInt8.toNat_inj.1 (by show c.toNat = 32; omega))
    rw [if_neg h1]
    have h2 : (c == 32) = false := by simpa using h
    rw [h2, Bool.false_or]
    congr 1
    by_cases h9 : c = 9
    · subst h9; rfl
    · have h3 : ¬ ((c.toNat : Int) = 9) := fun e => h9 (UInt8.toNat_inj.1 (by show c.toNat = 9; omega))
      rw [beq_eq_false_iff_ne.2 h3, beq_eq_false_iff_ne.2 h9]
theorem u8_int {c v : UInt8} : ((c.toNat : Int) = (v.toNat : Int)) ↔ c = v := ⟨fun e => UInt8.toNat_inj.1 (by omega), fun e => by rw [e]⟩
theorem c34 {c : UInt8} : ((c.toNat : Int) = 34) ↔ c = 34 := u8_int (v := 34)
theorem c92 {c : UInt8} : ((c.toNat : Int) = 92) ↔ c = 92 := u8_int (v := 92)
theorem c10 {c : UInt8} : ((c.toNat : Int) = 10) ↔ c = 10 := u8_int (v := 10)
theorem w64 {x : Int} (h0 : 0 ≤ x) (h : x ≤ 4611686018427387904) : wrap64 x = x := by unfold wrap64; omega
def mkW (l : List UInt8) : ByteArray := ⟨l.toArray⟩
def wordsR (o : Option (List (List UInt8))) (acc : List ByteArray) : List ByteArray × Int := match o with | some ws => (acc ++ ws.map mkW, 0) | none => ([], 150)
theorem wordsR_map (o : Option (List (List UInt8))) (w : List UInt8) (acc : List ByteArray) : wordsR (o.map (w :: ·)) acc = wordsR o (acc ++ [mkW w]) := by
  cases o with
  | none => rfl
  | some ws => simp [wordsR]
theorem qfacts (s : ByteArray) (i : Nat) (hi : i < s.size) (hs : s.size ≤ 65536) :
    lex_quoted.f s (i : Int) = some (qW (lexq (s.data.toList.drop (i + 1)) [] (i + 1)), qP (lexq (s.data.toList.drop (i + 1)) [] (i + 1)), qB (lexq (s.data.toList.drop (i + 1)) [] (i + 1))) := by
  unfold lex_quoted.f
  rw [if_pos ⟨by omega, by omega, by omega⟩]
  rfl

theorem w64_add (i m : Nat) (h : i + m ≤ 4611686018427387904) : wrap64 ((i : Int) + (m : Int)) = ((i + m : Nat) : Int) := by rw [w64 (by omega) (by omega)]; omega
theorem w64_sub (s i : Nat) (h : i ≤ s) (h2 : s ≤ 4611686018427387904) : wrap64 ((s : Int) - (i : Int)) = ((s - i : Nat) : Int) := by rw [w64 (by omega) (by omega)]; omega
theorem ia_of (x : ByteArray) (l : List UInt8) (h : x.data.toList = l) (hs : x.size ≤ 65536) : strings_IndexAny.f x ⟨#[32, 9]⟩ = some (if (nb l).length = l.length then -1 else ((nb l).length : Int)) := by
  unfold strings_IndexAny.f
  rw [if_pos ⟨by decide, by decide, by omega, by decide⟩, h]
  exact congrArg some (indexAny_nb l)
theorem ca_of (x : ByteArray) (l : List UInt8) (h : x.data.toList = l) (hs : x.size ≤ 65536) : strings_ContainsAny.f x ⟨#[34, 10]⟩ = some (l.any badB) := by
  unfold strings_ContainsAny.f strings_IndexAny.f
  rw [if_pos ⟨by decide, by decide, by omega, by decide⟩, h, Option.bind_some]
  exact congrArg some (contains_bad l)

set_option maxHeartbeats 1000000 in
theorem words_loop (s : ByteArray) (hs : s.size ≤ 65536) : ∀ (n k i : Nat) (acc : List ByteArray), s.size - i ≤ n → i ≤ s.size → acc.length ≤ i → n < k →
    lex_Words.l0 k s acc (i : Int) = some (wordsR (wordsN n (s.data.toList.drop i)) acc) := by
  intro n
  induction n with
  | zero =>
    intro k i acc hn hi ha hk
    obtain ⟨k, rfl⟩ : ∃ m, k = m + 1 := ⟨k - 1, by omega⟩
    simp only [lex_Words.l0]
    rw [if_neg (by omega)]
    simp [wordsN, wordsR]
  | succ n ih =>
    intro k i acc hn hi ha hk
    obtain ⟨k, rfl⟩ : ∃ m, k = m + 1 := ⟨k - 1, by omega⟩
    simp only [lex_Words.l0]
    by_cases hlt : i < s.size
    · obtain ⟨c, hc⟩ : ∃ c, s[i]'hlt = c := ⟨_, rfl⟩
      have hd := drop_of s i hlt
      rw [hc] at hd
      rw [if_pos (by omega), if_pos (by omega), bt_of s i hlt, hc, blank_of, hd]
      simp only [Option.bind_some]
      have hl : (s.data.toList.drop (i + 1)).length = s.size - (i + 1) := by simp
      cases hb : isB c
      · simp only [Bool.false_eq_true, if_false]
        by_cases h34 : c = 34
        · subst h34
          rw [if_pos (c34.2 rfl), wordsN_quote]
          have hqf := qfacts s i hlt hs
          rw [lexq_zero _ _ (i + 1)] at hqf
          cases hq : lexq (s.data.toList.drop (i + 1)) [] 0 with
          | none =>
            rw [hq] at hqf
            rw [hqf]
            rfl
          | some x =>
            obtain ⟨w, p⟩ := x
            have hbd := lexq_bound _ _ (Nat.le_refl _) _ _ _ _ hq
            have hbd2 := hbd.2.1
            rw [hl] at hbd2
            rw [hq] at hqf
            replace hqf : lex_quoted.f s (i : Int) = some (mkW w, ((p + (i + 1) : Nat) : Int), true) := hqf
            rw [hqf]
            simp only [Option.bind_some, if_true]
            have hdd : s.data.toList.drop (p + (i + 1)) = (s.data.toList.drop (i + 1)).drop p := by rw [List.drop_drop]; congr 1; omega
            have hih : lex_Words.l0 k s (acc ++ [mkW w]) ((p + (i + 1) : Nat) : Int) = some (wordsR (wordsN n ((s.data.toList.drop (i + 1)).drop p)) (acc ++ [mkW w])) := by
              rw [ih k (p + (i + 1)) (acc ++ [mkW w]) (by omega) (by omega) (by simp; omega) (by omega), hdd]
            have hal : acc.length < 8796093022208 := by omega
            by_cases hpl : p + (i + 1) < s.size
            · have hd2 := drop_of s (p + (i + 1)) hpl
              rw [hdd] at hd2
              have he : endOk ((s.data.toList.drop (i + 1)).drop p) = isB (s[p + (i + 1)]'hpl) := by rw [hd2]; rfl
              rw [if_pos (by omega), if_pos (by omega), bt_of s _ hpl, blank_of, he]
              simp only [Option.bind_some]
              cases hb2 : isB (s[p + (i + 1)]'hpl)
              · rfl
              · simp only [if_true]
                rw [if_pos hal, hih, wordsR_map]
            · have he : (s.data.toList.drop (i + 1)).drop p = [] := List.drop_eq_nil_of_le (by rw [hl]; omega)
              rw [if_neg (by omega), if_pos hal, hih, he]
              simp only [endOk, if_true]
              rw [wordsR_map]
        · rw [if_neg (fun e => h34 (c34.1 e)), if_pos (by omega), wordsN_plain _ _ _ hb h34]
          have hnb := nb_cons (s.data.toList.drop (i + 1)) hb
          have hnl := nb_le (c :: s.data.toList.drop (i + 1))
          have hdl : (c :: s.data.toList.drop (i + 1)).length = s.size - i := by rw [← hd]; simp
          obtain ⟨m, hm⟩ : ∃ m, (nb (c :: s.data.toList.drop (i + 1))).length = m := ⟨_, rfl⟩
          have hm1 : 1 ≤ m := by rw [← hm, hnb]; simp
          have htk : (s.data.toList.drop i).take m = nb (c :: s.data.toList.drop (i + 1)) := by
            rw [hd, ← hm]
            exact (List.prefix_iff_eq_take.1 (List.takeWhile_prefix _)).symm
          have hal : acc.length < 8796093022208 := by omega
          have hex := ext_of s i s.size (Nat.le_refl _)
          rw [hd, List.take_of_length_le (by omega)] at hex
          have hia := ia_of (s.extract i s.size) _ hex (by rw [ByteArray.size_extract]; omega)
          rw [hm, hdl] at hia
          have hex2 := ext_of s i (i + m) (by omega)
          rw [show i + m - i = m by omega, htk] at hex2
          have hca := ca_of (s.extract i (i + m)) _ hex2 (by rw [ByteArray.size_extract]; omega)
          have he3 : s.extract i (i + m) = mkW (nb (c :: s.data.toList.drop (i + 1))) := by
            rw [ext_eq s i (i + m) (by omega), show i + m - i = m by omega, htk]; rfl
          have hih : lex_Words.l0 k s (acc ++ [s.extract i (i + m)]) ((i + m : Nat) : Int) = some (wordsR (wordsN n ((c :: s.data.toList.drop (i + 1)).drop m)) (acc ++ [mkW (nb (c :: s.data.toList.drop (i + 1)))])) := by
            rw [ih k (i + m) _ (by omega) (by omega) (by simp; omega) (by omega), he3, ← hd, List.drop_drop]
          have e0 : (((i : Int) : Int).toNat) = i := by omega
          rw [e0, hia, hm]
          simp only [Option.bind_some]
          have c1 : (i : Int) ≤ ((i + m : Nat) : Int) := by omega
          have c2 : ((i + m : Nat) : Int) ≤ (s.size : Int) := by omega
          by_cases hms : m = s.size - i
          · have c0 : (-1 : Int) < 0 := by decide
            rw [if_pos hms, if_pos c0, w64_sub s.size i (by omega) (by omega), ← hms, w64_add i m (by omega), if_pos c1, if_pos c2, Int.toNat_natCast, hca]
            rw [Option.bind_some]
            cases hbad : (nb (c :: s.data.toList.drop (i + 1))).any badB
            · rw [if_neg Bool.false_ne_true, if_neg Bool.false_ne_true, if_pos hal, hih, wordsR_map]
            · rw [if_pos rfl, if_pos rfl]; rfl
          · have c0 : ¬ ((m : Int) < 0) := by omega
            rw [if_neg hms, if_neg c0, w64_add i m (by omega), if_pos c1, if_pos c2, Int.toNat_natCast, hca]
            rw [Option.bind_some]
            cases hbad : (nb (c :: s.data.toList.drop (i + 1))).any badB
            · rw [if_neg Bool.false_ne_true, if_neg Bool.false_ne_true, if_pos hal, hih, wordsR_map]
            · rw [if_pos rfl, if_pos rfl]; rfl
      · simp only [if_true]
        rw [w64 (by omega) (by omega), wordsN_blank _ _ _ hb]
        exact ih k (i + 1) acc (by omega) (by omega) (by omega) (by omega)
    · rw [if_neg (by omega), List.drop_eq_nil_of_le (by simp; omega)]
      simp [wordsN, wordsR]
/-- What Words tells of a text. -/
def wordsA (s : ByteArray) : List ByteArray × Int := if s.size > 65536 then ([], 2) else wordsR (wordsN s.size s.data.toList) []
theorem words_all (s : ByteArray) (k : Nat) (hk : 65537 < k) : lex_Words.f k s = some (wordsA s) := by
  unfold lex_Words.f wordsA
  by_cases h : s.size > 65536
  · rw [if_pos (by omega), if_pos h]
  · rw [if_neg (by omega), if_neg h]
    have := words_loop s (by omega) s.size k 0 [] (by omega) (by omega) (by simp) (by omega)
    simpa using this
theorem rblank_of (c : UInt8) : smithyref15_blank.f (c.toNat : Int) = some (isB c) := blank_of c
theorem rqfacts (s : ByteArray) (i : Nat) (hi : i < s.size) (hs : s.size ≤ 65536) :
    smithyref15_quoted.f s (i : Int) = some (qW (lexq (s.data.toList.drop (i + 1)) [] (i + 1)), rP (lexq (s.data.toList.drop (i + 1)) [] (i + 1))) := by
  unfold smithyref15_quoted.f
  rw [if_pos ⟨by omega, by omega, by omega⟩]
  rfl
theorem ref_scan (s : ByteArray) (hs : s.size ≤ 65536) (st : Nat) (acc : List ByteArray) (hal : acc.length < 8796093022208) :
    ∀ (m j k : Nat), j ≤ s.size → st ≤ j → (nb (s.data.toList.drop j)).length = m →
      smithyref15_Words.l1 (k + 2 * m + 2) s acc (j : Int) (st : Int) =
        if (nb (s.data.toList.drop j)).any badB = true then some (([] : List ByteArray), (150 : Int)) else smithyref15_Words.l0 k s (acc ++ [s.extract st (j + m)]) ((j + m : Nat) : Int) := by
  intro m
  induction m with
  | zero =>
    intro j k hj hst hm
    have hn : nb (s.data.toList.drop j) = [] := List.length_eq_zero_iff.1 hm
    rw [hn, List.any_nil, if_neg Bool.false_ne_true]
    show smithyref15_Words.l1 (k + 2) s acc (j : Int) (st : Int) = smithyref15_Words.l0 k s (acc ++ [s.extract st j]) (j : Int)
    have h0 : (0 : Int) ≤ (st : Int) := by omega
    have h1 : (st : Int) ≤ (j : Int) := by omega
    have h2 : (j : Int) ≤ (s.size : Int) := by omega
    have h3 : (0 : Int) ≤ (j : Int) := by omega
    simp only [smithyref15_Words.l1]
    by_cases hlt : j < s.size
    · have hd := drop_of s j hlt
      have hb : isB (s[j]'hlt) = true := by
        rw [hd] at hn
        cases hb : isB (s[j]'hlt)
        · rw [nb_cons _ hb] at hn; cases hn
        · rfl
      have h4 : (j : Int) < (s.size : Int) := by omega
      rw [if_pos h4, if_pos h3, bt_of s j hlt, rblank_of, hb, Option.bind_some]
      simp only [smithyref15_Words.j2, Bool.not_true, Bool.false_eq_true, if_false]
      rw [if_pos h0, if_pos h1, if_pos h2, if_pos hal, Int.toNat_natCast, Int.toNat_natCast]
    · have h4 : ¬ ((j : Int) < (s.size : Int)) := by omega
      rw [if_neg h4]
      simp only [smithyref15_Words.j2, Bool.false_eq_true, if_false]
      rw [if_pos h0, if_pos h1, if_pos h2, if_pos hal, Int.toNat_natCast, Int.toNat_natCast]
  | succ m ih =>
    intro j k hj hst hm
    have hlt : j < s.size := by
      have := nb_le (s.data.toList.drop j)
      rw [hm] at this
      simp at this
      omega
    have hd := drop_of s j hlt
    obtain ⟨c, hc⟩ : ∃ c, s[j]'hlt = c := ⟨_, rfl⟩
    rw [hc] at hd
    have hb : isB c = false := by
      cases hb : isB c
      · rfl
      · rw [hd, nb_blank _ hb] at hm; simp at hm
    have hm2 : (nb (s.data.toList.drop (j + 1))).length = m := by
      rw [hd, nb_cons _ hb] at hm
      simpa using hm
    have hih := ih (j + 1) k (by omega) (by omega) hm2
    rw [hd, nb_cons _ hb, List.any_cons]
    have h3 : (0 : Int) ≤ (j : Int) := by omega
    have h4 : (j : Int) < (s.size : Int) := by omega
    have e3 : k + 2 * (m + 1) + 2 = (k + 2 * m + 2) + 1 + 1 := by omega
    have hj1 : j + 1 ≤ 4611686018427387904 := by omega
    rw [e3]
    simp only [smithyref15_Words.l1]
    rw [if_pos h4, if_pos h3, bt_of s j hlt, hc, rblank_of, hb, Option.bind_some]
    simp only [smithyref15_Words.j2, Bool.not_false, if_true]
    rw [if_pos h3, if_pos h4, bt_of s j hlt, hc]
    by_cases h34 : c = 34
    · subst h34
      rw [if_pos (c34.2 rfl)]
      rfl
    · rw [if_neg (fun e => h34 (c34.1 e))]
      by_cases h10 : c = 10
      · subst h10
        rw [if_pos (c10.2 rfl)]
        rfl
      · rw [if_neg (fun e => h10 (c10.1 e))]
        have hbd : badB c = false := by unfold badB; simp [h34, h10]
        have e1 := w64_add j 1 hj1
        rw [show ((1 : Nat) : Int) = 1 from rfl] at e1
        rw [e1, hih, hbd, Bool.false_or, show j + 1 + m = j + (m + 1) from by omega]
theorem ref_loop (s : ByteArray) (hs : s.size ≤ 65536) : ∀ (n k i : Nat) (acc : List ByteArray), s.size - i ≤ n → i ≤ s.size → acc.length ≤ i → 5 * (s.size - i) < k →
    smithyref15_Words.l0 k s acc (i : Int) = some (wordsR (wordsN n (s.data.toList.drop i)) acc) := by
  intro n
  induction n with
  | zero =>
    intro k i acc hn hi ha hk
    obtain ⟨k, rfl⟩ : ∃ m, k = m + 1 := ⟨k - 1, by omega⟩
    simp only [smithyref15_Words.l0]
    rw [if_neg (by omega)]
    simp [wordsN, wordsR]
  | succ n ih =>
    intro k i acc hn hi ha hk
    obtain ⟨k, rfl⟩ : ∃ m, k = m + 1 := ⟨k - 1, by omega⟩
    simp only [smithyref15_Words.l0]
    by_cases hlt : i < s.size
    · obtain ⟨c, hc⟩ : ∃ c, s[i]'hlt = c := ⟨_, rfl⟩
      have hd := drop_of s i hlt
      rw [hc] at hd
      rw [if_pos (by omega), if_pos (by omega), bt_of s i hlt, hc, rblank_of, hd]
      simp only [Option.bind_some]
      have hl : (s.data.toList.drop (i + 1)).length = s.size - (i + 1) := by simp
      cases hb : isB c
      · simp only [Bool.false_eq_true, if_false]
        by_cases h34 : c = 34
        · subst h34
          rw [if_pos (c34.2 rfl), wordsN_quote]
          have hqf := rqfacts s i hlt hs
          rw [lexq_zero _ _ (i + 1)] at hqf
          cases hq : lexq (s.data.toList.drop (i + 1)) [] 0 with
          | none =>
            rw [hq] at hqf
            rw [hqf]
            rfl
          | some x =>
            obtain ⟨w, p⟩ := x
            have hbd := lexq_bound _ _ (Nat.le_refl _) _ _ _ _ hq
            have hbd2 := hbd.2.1
            rw [hl] at hbd2
            rw [hq] at hqf
            replace hqf : smithyref15_quoted.f s (i : Int) = some (mkW w, ((p + (i + 1) : Nat) : Int)) := hqf
            rw [hqf]
            simp only [Option.bind_some]
            have hdd : s.data.toList.drop (p + (i + 1)) = (s.data.toList.drop (i + 1)).drop p := by rw [List.drop_drop]; congr 1; omega
            have hih : smithyref15_Words.l0 k s (acc ++ [mkW w]) ((p + (i + 1) : Nat) : Int) = some (wordsR (wordsN n ((s.data.toList.drop (i + 1)).drop p)) (acc ++ [mkW w])) := by
              rw [ih k (p + (i + 1)) (acc ++ [mkW w]) (by omega) (by omega) (by simp; omega) (by omega), hdd]
            have hal : acc.length < 8796093022208 := by omega
            have hneg : ¬ (((p + (i + 1) : Nat) : Int) < 0) := by omega
            rw [if_neg hneg]
            by_cases hpl : p + (i + 1) < s.size
            · have hd2 := drop_of s (p + (i + 1)) hpl
              rw [hdd] at hd2
              have he : endOk ((s.data.toList.drop (i + 1)).drop p) = isB (s[p + (i + 1)]'hpl) := by rw [hd2]; rfl
              rw [if_pos (by omega), if_pos (by omega), bt_of s _ hpl, rblank_of, he]
              simp only [Option.bind_some]
              cases hb2 : isB (s[p + (i + 1)]'hpl)
              · rfl
              · simp only [if_true]
                rw [if_pos hal, hih, wordsR_map]
            · have he : (s.data.toList.drop (i + 1)).drop p = [] := List.drop_eq_nil_of_le (by rw [hl]; omega)
              rw [if_neg (by omega), if_pos hal, hih, he]
              simp only [endOk, if_true]
              rw [wordsR_map]
        · rw [if_neg (fun e => h34 (c34.1 e)), wordsN_plain _ _ _ hb h34]
          have hnb := nb_cons (s.data.toList.drop (i + 1)) hb
          have hnl := nb_le (c :: s.data.toList.drop (i + 1))
          have hdl : (c :: s.data.toList.drop (i + 1)).length = s.size - i := by rw [← hd]; simp
          obtain ⟨m, hm⟩ : ∃ m, (nb (c :: s.data.toList.drop (i + 1))).length = m := ⟨_, rfl⟩
          have hm1 : 1 ≤ m := by rw [← hm, hnb]; simp
          have htk : (s.data.toList.drop i).take m = nb (c :: s.data.toList.drop (i + 1)) := by
            rw [hd, ← hm]
            exact (List.prefix_iff_eq_take.1 (List.takeWhile_prefix _)).symm
          have hal : acc.length < 8796093022208 := by omega
          have he3 : s.extract i (i + m) = mkW (nb (c :: s.data.toList.drop (i + 1))) := by
            rw [ext_eq s i (i + m) (by omega), show i + m - i = m by omega, htk]; rfl
          obtain ⟨k2, hk2⟩ : ∃ k2, k = k2 + 2 * m + 2 := ⟨k - 2 * m - 2, by omega⟩
          have hih : smithyref15_Words.l0 k2 s (acc ++ [s.extract i (i + m)]) ((i + m : Nat) : Int) = some (wordsR (wordsN n ((c :: s.data.toList.drop (i + 1)).drop m)) (acc ++ [mkW (nb (c :: s.data.toList.drop (i + 1)))])) := by
            rw [ih k2 (i + m) _ (by omega) (by omega) (by simp; omega) (by omega), he3, ← hd, List.drop_drop]
          rw [hk2, ref_scan s hs i acc hal m i k2 (by omega) (Nat.le_refl _) (by rw [hd, hm]), hd, hm]
          cases hbad : (nb (c :: s.data.toList.drop (i + 1))).any badB
          · rw [if_neg Bool.false_ne_true, if_neg Bool.false_ne_true, hih, wordsR_map]
          · rw [if_pos rfl, if_pos rfl]; rfl
      · simp only [if_true]
        rw [w64 (by omega) (by omega), wordsN_blank _ _ _ hb]
        exact ih k (i + 1) acc (by omega) (by omega) (by omega) (by omega)
    · rw [if_neg (by omega), List.drop_eq_nil_of_le (by simp; omega)]
      simp [wordsN, wordsR]
theorem ref_all (s : ByteArray) (k : Nat) (hk : 327681 < k) : smithyref15_Words.f k s = some (wordsA s) := by
  unfold smithyref15_Words.f wordsA
  by_cases h : s.size > 65536
  · rw [if_pos (by omega), if_pos h]
  · rw [if_neg (by omega), if_neg h]
    have := ref_loop s (by omega) s.size k 0 [] (by omega) (by omega) (by simp) (by omega)
    simpa using this
theorem rd_at (l : List ByteArray) (i : Nat) (h : i < l.length) : rdOf ByteArray.empty l (i : Int) = l[i] := by
  simp [rdOf, h]
theorem w64p {x : Int} (h0 : 0 ≤ x) (h : x ≤ 4611686018427387904) : wrap64 x = x := by unfold wrap64; omega
theorem w64i (i : Nat) (h : i ≤ 4611686018427387000) : wrap64 ((i : Int) + 1) = ((i + 1 : Nat) : Int) := by rw [w64p (by omega) (by omega)]; rfl
theorem btn (s : ByteArray) (i : Nat) (h : i < s.size) : bt s (i : Int) = ((s.data.toList[i]'(by simpa using h)).toNat : Int) := by simp [bt, h]; rfl
/-- Is a text a name? -/
def nameB (s : ByteArray) : Bool := s.data.toList.all nameC && (decide (0 < s.size) && decide (s.size ≤ 64))
theorem letter_all : ∀ n : Nat, n < 256 → names_letter.f (n : Int) = some (nameN (n : Int)) := by decide +kernel
theorem letter_of (c : UInt8) : names_letter.f (c.toNat : Int) = some (nameC c) := letter_all c.toNat (UInt8.toNat_lt c)
theorem drop_all {l : List UInt8} {i : Nat} (h : i < l.length) : (l.drop i).all nameC = (nameC l[i] && (l.drop (i + 1)).all nameC) := by
  rw [List.drop_eq_getElem_cons h, List.all_cons]
theorem check_loop (s : ByteArray) (hs : s.size ≤ 4294967296) : ∀ (n k i : Nat), s.size - i ≤ n → i ≤ s.size → n < k → names_Check.l0 k s (s.size : Int) (i : Int) = some (if (s.data.toList.drop i).all nameC then 0 else 3) := by
  intro n
  induction n with
  | zero =>
    intro k i hn hi hk
    obtain ⟨k, rfl⟩ : ∃ m, k = m + 1 := ⟨k - 1, by omega⟩
    simp only [names_Check.l0]
    rw [if_neg (by omega), List.drop_of_length_le (by simp; omega)]
    rfl
  | succ n ih =>
    intro k i hn hi hk
    obtain ⟨k, rfl⟩ : ∃ m, k = m + 1 := ⟨k - 1, by omega⟩
    simp only [names_Check.l0]
    by_cases hlt : i < s.size
    · have hl : i < s.data.toList.length := by simpa using hlt
      have h1 : (i : Int) < (s.size : Int) := by omega
      have h0 : (0 : Int) ≤ (i : Int) := by omega
      rw [if_pos h1, if_pos h0, if_pos h1, btn s i hlt, letter_of, Option.bind_some, drop_all hl]
      cases hc : nameC s.data.toList[i] with
      | true => rw [if_pos rfl, w64i i (by omega), ih k (i + 1) (by omega) (by omega) (by omega), Bool.true_and]
      | false => rfl
    · rw [if_neg (by omega), List.drop_of_length_le (by simp; omega)]
      rfl
theorem check_of (s : ByteArray) (k : Nat) (hk : 80 < k) : names_Check.f k s = some (if nameB s then 0 else 3) := by
  obtain ⟨k, rfl⟩ : ∃ m, k = m + 1 := ⟨k - 1, by omega⟩
  unfold names_Check.f nameB
  by_cases h0 : (s.size : Int) = 0
  · rw [if_pos h0]
    simp only [names_Check.j0]
    rw [if_pos trivial, decide_eq_false (show ¬ 0 < s.size by omega), Bool.false_and, Bool.and_false]
    rfl
  · rw [if_neg h0, decide_eq_true (show 0 < s.size by omega), Bool.true_and]
    simp only [names_Check.j0]
    by_cases h6 : s.size ≤ 64
    · have hl := check_loop s (by omega) 64 k 0 (by omega) (by omega) (by omega)
      rw [if_neg (by simp; omega), show names_Check.l0 k s (s.size : Int) 0 = _ from hl, decide_eq_true h6, Bool.and_true]
      rfl
    · rw [if_pos (by simp; omega), decide_eq_false h6, Bool.and_false]
      rfl
theorem files_loop (l : List ByteArray) (hl : l.length ≤ 4294967296) : ∀ (n k i : Nat), l.length - i ≤ n → i ≤ l.length → n + 90 < k → cmd_files.l0 k l (l.length : Int) (i : Int) = some (if (l.drop i).all nameB then 0 else 3) := by
  intro n
  induction n with
  | zero =>
    intro k i hn hi hk
    obtain ⟨k, rfl⟩ : ∃ m, k = m + 1 := ⟨k - 1, by omega⟩
    simp only [cmd_files.l0]
    rw [if_neg (by omega), List.drop_of_length_le (by omega)]
    rfl
  | succ n ih =>
    intro k i hn hi hk
    obtain ⟨k, rfl⟩ : ∃ m, k = m + 1 := ⟨k - 1, by omega⟩
    simp only [cmd_files.l0]
    by_cases hlt : i < l.length
    · have h1 : (i : Int) < (l.length : Int) := by omega
      have h0 : (0 : Int) ≤ (i : Int) := by omega
      rw [if_pos h1, if_pos h0, if_pos h1, rd_at l i hlt, check_of _ k (by omega), Option.bind_some, List.drop_eq_getElem_cons hlt, List.all_cons]
      cases hc : nameB l[i] with
      | true => rw [if_pos rfl, if_pos rfl, w64i i (by omega), ih k (i + 1) (by omega) (by omega) (by omega), Bool.true_and]
      | false => rfl
    · rw [if_neg (by omega), List.drop_of_length_le (by omega)]
      rfl
theorem files_of (l : List ByteArray) (k : Nat) (hl : l.length ≤ 4294967296) (hk : l.length + 90 < k) : cmd_files.f k l = some (if l.all nameB then 0 else 3) :=
  files_loop l hl l.length k 0 (by omega) (by omega) hk
theorem rname_of (s : ByteArray) (hs : s.size ≤ 140737488351232) : smithyref02_Name.f s = some (nameB s) := by
  unfold smithyref02_Name.f nameB
  rw [if_pos hs]
theorem rfiles_loop (o : Int) (d : ByteArray) (l ws : List ByteArray) (st : Int) (hs : ∀ x ∈ l, x.size ≤ 140737488351232) (hl : l.length ≤ 4294967296) : ∀ (n k i : Nat), l.length - i ≤ n → i ≤ l.length → n < k → smithyref16_files.l0 k (i : Int) o d l ws st = some ((l.drop i).all nameB) := by
  intro n
  induction n with
  | zero =>
    intro k i hn hi hk
    obtain ⟨k, rfl⟩ : ∃ m, k = m + 1 := ⟨k - 1, by omega⟩
    simp only [smithyref16_files.l0]
    rw [if_neg (by omega), List.drop_of_length_le (by omega)]
    rfl
  | succ n ih =>
    intro k i hn hi hk
    obtain ⟨k, rfl⟩ : ∃ m, k = m + 1 := ⟨k - 1, by omega⟩
    simp only [smithyref16_files.l0]
    by_cases hlt : i < l.length
    · have h1 : (i : Int) < (l.length : Int) := by omega
      have h0 : (0 : Int) ≤ (i : Int) := by omega
      rw [if_pos h1, if_pos h0, rd_at l i hlt, rname_of _ (hs _ (List.getElem_mem hlt)), Option.bind_some, List.drop_eq_getElem_cons hlt, List.all_cons]
      cases hc : nameB l[i] with
      | true => rw [if_pos rfl, w64i i (by omega), ih k (i + 1) (by omega) (by omega) (by omega), Bool.true_and]
      | false => rfl
    · rw [if_neg (by omega), List.drop_of_length_le (by omega)]
      rfl
theorem rfiles_of (o : Int) (d : ByteArray) (l ws : List ByteArray) (st : Int) (k : Nat) (hd : d.size ≤ 140737488351232) (hs : ∀ x ∈ l, x.size ≤ 140737488351232) (hl : l.length ≤ 4294967296) (hk : l.length + 5 < k) :
    smithyref16_files.f k o d l ws st = some ((if 1 ≤ o ∧ o ≤ 5 then nameB d else true) && l.all nameB) := by
  obtain ⟨k, rfl⟩ : ∃ m, k = m + 1 := ⟨k - 1, by omega⟩
  unfold smithyref16_files.f smithyref16_writes.f
  have hloop := rfiles_loop o d l ws st hs hl l.length k 0 (by omega) (by omega) (by omega)
  by_cases h1 : o ≥ 1
  · rw [if_pos h1, Option.bind_some]
    by_cases h5 : o ≤ 5
    · rw [if_pos (by simpa using h5), rname_of d hd, Option.bind_some, if_pos ⟨h1, h5⟩]
      simp only [smithyref16_files.j0]
      cases hn : nameB d with
      | true => rw [if_neg (by decide)]; exact hloop
      | false => rfl
    · rw [if_neg (by simpa using h5), if_neg (fun h => h5 h.2)]
      simp only [smithyref16_files.j0]
      rw [if_neg (by decide)]
      exact hloop
  · rw [if_neg h1, Option.bind_some, if_neg (by decide), if_neg (fun h => h1 h.1)]
    simp only [smithyref16_files.j0]
    rw [if_neg (by decide)]
    exact hloop
theorem toList_ne {a b : ByteArray} (h : a ≠ b) : ¬ a.toList = b.toList := by
  intro e
  rw [ByteArray.toList_eq, ByteArray.toList_eq] at e
  exact h (ByteArray.ext (Array.ext' e))
set_option maxRecDepth 100000 in
theorem idx_op (k : Nat) (x : ByteArray) : ∃ i : Int, slices_Index_string_string.f (k + 20) headsL x = some i ∧ smithyref16_op.f (k + 20) x = some (i + 1) ∧ -1 ≤ i ∧ i < 8 := by
  by_cases h0 : (⟨#[99, 111, 112, 121]⟩ : ByteArray) = x
  · subst h0; exact ⟨0, by kernel_rfl, by kernel_rfl, by decide, by decide⟩
  by_cases h1 : (⟨#[99, 111, 110, 99, 97, 116]⟩ : ByteArray) = x
  · subst h1; exact ⟨1, by kernel_rfl, by kernel_rfl, by decide, by decide⟩
  by_cases h2 : (⟨#[101, 99, 104, 111, 45, 116, 111]⟩ : ByteArray) = x
  · subst h2; exact ⟨2, by kernel_rfl, by kernel_rfl, by decide, by decide⟩
  by_cases h3 : (⟨#[116, 111, 117, 99, 104]⟩ : ByteArray) = x
  · subst h3; exact ⟨3, by kernel_rfl, by kernel_rfl, by decide, by decide⟩
  by_cases h4 : (⟨#[114, 101, 109, 111, 118, 101]⟩ : ByteArray) = x
  · subst h4; exact ⟨4, by kernel_rfl, by kernel_rfl, by decide, by decide⟩
  by_cases h5 : (⟨#[116, 101, 115, 116, 45, 101, 120, 105, 115, 116, 115]⟩ : ByteArray) = x
  · subst h5; exact ⟨5, by kernel_rfl, by kernel_rfl, by decide, by decide⟩
  by_cases h6 : (⟨#[102, 97, 105, 108]⟩ : ByteArray) = x
  · subst h6; exact ⟨6, by kernel_rfl, by kernel_rfl, by decide, by decide⟩
  by_cases h7 : (⟨#[115, 97, 121]⟩ : ByteArray) = x
  · subst h7; exact ⟨7, by kernel_rfl, by kernel_rfl, by decide, by decide⟩
  refine ⟨-1, ?_, ?_, by decide, by decide⟩
  · have st : ∀ (n i : Nat) (y : ByteArray), i < 8 → headsL[i]? = some y → ¬ y = x → slices_Index_string_string.l0 (n + 1) headsL x 8 (i : Int) = slices_Index_string_string.l0 n headsL x 8 ((i + 1 : Nat) : Int) := by
      intro n i y hi hy hne
      have hlen : i < headsL.length := hi
      have hg : headsL[i] = y := by rw [List.getElem?_eq_getElem hlen] at hy; exact Option.some.inj hy
      have h8 : (headsL.length : Int) = 8 := rfl
      simp only [slices_Index_string_string.l0]
      rw [if_pos (by omega), if_pos (by omega), if_pos (by omega), rd_at headsL i hlen, hg, if_neg (fun e => toList_ne hne e.symm), w64i i (by omega)]
    show slices_Index_string_string.l0 (k + 20) headsL x 8 ((0 : Nat) : Int) = _
    rw [st (k + 19) 0 _ (by decide) rfl h0, st (k + 18) 1 _ (by decide) rfl h1, st (k + 17) 2 _ (by decide) rfl h2, st (k + 16) 3 _ (by decide) rfl h3, st (k + 15) 4 _ (by decide) rfl h4, st (k + 14) 5 _ (by decide) rfl h5, st (k + 13) 6 _ (by decide) rfl h6, st (k + 12) 7 _ (by decide) rfl h7]
    rfl
  · have st : ∀ (n i : Nat) (y : ByteArray), i ≤ 8 → smithyref16_Name.f (i : Int) = some y → ¬ y = x → smithyref16_op.l0 (n + 1) x (i : Int) = smithyref16_op.l0 n x ((i + 1 : Nat) : Int) := by
      intro n i y hi hy hne
      simp only [smithyref16_op.l0]
      rw [if_pos (by omega), hy, Option.bind_some, if_neg (toList_ne hne), w64i i (by omega)]
    show smithyref16_op.l0 (k + 20) x ((1 : Nat) : Int) = _
    rw [st (k + 19) 1 _ (by decide) rfl h0, st (k + 18) 2 _ (by decide) rfl h1, st (k + 17) 3 _ (by decide) rfl h2, st (k + 16) 4 _ (by decide) rfl h3, st (k + 15) 5 _ (by decide) rfl h4, st (k + 14) 6 _ (by decide) rfl h5, st (k + 13) 7 _ (by decide) rfl h6, st (k + 12) 8 _ (by decide) rfl h7]
    rfl
theorem count_many (k : Nat) (i n : Int) (h0 : 0 ≤ i) (h8 : i < 8) : cmd_count.f (k + 1) (i + 1) n = smithyref16_many.f (k + 1) (i + 1) n := by
  have : i = 0 ∨ i = 1 ∨ i = 2 ∨ i = 3 ∨ i = 4 ∨ i = 5 ∨ i = 6 ∨ i = 7 := by omega
  rcases this with rfl | rfl | rfl | rfl | rfl | rfl | rfl | rfl <;> rfl
theorem many_none (k : Nat) (n : Int) : smithyref16_many.f (k + 1) 0 n = some false := rfl
/-- The digits of a small number. -/
def dl (v : Nat) : List UInt8 := if v < 10 then [UInt8.ofNat (48 + v)] else if v < 100 then [UInt8.ofNat (48 + v / 10), UInt8.ofNat (48 + v % 10)] else [UInt8.ofNat (48 + v / 100), UInt8.ofNat (48 + v / 10 % 10), UInt8.ofNat (48 + v % 10)]
theorem itoa_dl (v : Nat) (h : v < 1000) : Lib.itoa (v : Int) = dl v := by
  rw [Lib.itoa_nonneg]
  unfold dl
  split
  · rename_i h1; exact Lib.decDigits_one h1
  · rename_i h1
    split
    · rename_i h2; exact Lib.decDigits_two h1 h2
    · rename_i h2
      rw [Lib.decDigits, dif_neg h1, Lib.decDigits_two (by omega) (by omega)]
      rw [Nat.div_div_eq_div_mul]
      rfl
set_option maxRecDepth 100000 in
theorem stat_dl : ∀ v : Nat, v < 256 → 1 ≤ v → smithyref16_status.f 10 ⟨(dl v).toArray⟩ = some (v : Int) := by decide +kernel
set_option maxRecDepth 100000 in
theorem atoi_dl : ∀ v : Nat, v < 256 → 1 ≤ v → (match Lib.atoiAll (dl v) with | .ok u => u == (v : Int) | _ => false) = true := by decide +kernel
theorem atoi_dl' (v : Nat) (h : v < 256) (h1 : 1 ≤ v) : Lib.atoiAll (dl v) = .ok (v : Int) := by
  have := atoi_dl v h h1
  revert this
  cases Lib.atoiAll (dl v) with
  | ok u => intro e; rw [beq_iff_eq.1 e]
  | _ => intro e; cases e
theorem failN_dl (v : Nat) (h : v < 256) (h1 : 1 ≤ v) : failN ⟨(dl v).toArray⟩ = (v : Int) := by
  rw [failN_ok (v := (v : Int)) (by simpa using atoi_dl' v h h1), itoa_dl v (by omega), if_pos ⟨rfl, by omega, by omega⟩]
theorem fail_stat (s : ByteArray) (h : failN s ≠ 0) : ∃ v : Nat, v < 256 ∧ 1 ≤ v ∧ s = ⟨(dl v).toArray⟩ := by
  unfold failN at h
  split at h
  · rename_i v hv
    split at h
    · rename_i hq
      obtain ⟨n, rfl⟩ : ∃ n : Nat, v = (n : Int) := ⟨v.toNat, by omega⟩
      exact ⟨n, by omega, by omega, by rw [← hq.1, itoa_dl n (by omega)]⟩
    · exact absurd rfl h
  · exact absurd rfl h
def dg (n : Int) : Bool := decide (48 ≤ n) && decide (n ≤ 57)
theorem w64s {x : Int} (h0 : 0 ≤ x) (h : x ≤ 100000) : wrap64 x = x := w64p h0 (by omega)
/-- One round of the number's reading, at a digit. -/
theorem stat_step (k : Nat) (s : ByteArray) (n : Int) (i : Nat) (hi : i < s.size) (hn : 0 ≤ n) (hn' : n ≤ 1000) (h2 : i ≤ 2) (hd : 48 ≤ bt s (i : Int) ∧ bt s (i : Int) ≤ 57) (hz : ¬ (n = 0 ∧ bt s (i : Int) = 48)) :
    smithyref16_status.l0 (k + 1) s n (i : Int) = smithyref16_status.l0 k s (10 * n + (bt s (i : Int) - 48)) ((i + 1 : Nat) : Int) := by
  simp only [smithyref16_status.l0]
  obtain ⟨d1, d2⟩ := hd
  have e1 : wrap64 (10 * n) = 10 * n := w64s (by omega) (by omega)
  have e2 : (bt s (i : Int) - 48) % 256 = bt s (i : Int) - 48 := by omega
  have e3 : wrap64 (10 * n + (bt s (i : Int) - 48)) = 10 * n + (bt s (i : Int) - 48) := w64s (by omega) (by omega)
  rw [if_pos (by omega), if_pos (by omega), if_neg (by omega), if_neg (by omega), if_neg (by omega), w64i i (by omega), e1, e2, e3]
  split
  · rename_i h0
    rw [if_neg (fun e => hz ⟨h0, e⟩)]
  · rfl
theorem stat_bad (k : Nat) (s : ByteArray) (n : Int) (i : Nat) (hi : i < s.size) (hb : ¬ (48 ≤ bt s (i : Int) ∧ bt s (i : Int) ≤ 57) ∨ 2 < i ∨ (n = 0 ∧ bt s (i : Int) = 48)) :
    smithyref16_status.l0 (k + 1) s n (i : Int) = some 0 := by
  simp only [smithyref16_status.l0]
  rw [if_pos (by omega), if_pos (by omega)]
  split
  · rfl
  split
  · rfl
  split
  · rfl
  rcases hb with h | h | ⟨h1, h2⟩
  · exact absurd ⟨by omega, by omega⟩ h
  · omega
  · rw [if_pos h1, if_pos h2]
theorem stat_end (k : Nat) (s : ByteArray) (n : Int) (i : Nat) (hi : ¬ i < s.size) : smithyref16_status.l0 (k + 1) s n (i : Int) = some (if n > 255 then 0 else n) := by
  simp only [smithyref16_status.l0]
  rw [if_neg (by omega)]
  split <;> rfl
theorem bt_get (s : ByteArray) (i : Nat) (h : i < s.size) : bt s (i : Int) = ((s.data.toList[i]'(by simpa using h)).toNat : Int) := btn s i h
theorem u8_of (c : UInt8) (n : Nat) (h : (c.toNat : Int) = 48 + (n : Int)) (hn : n < 10) : c = UInt8.ofNat (48 + n) := by
  apply UInt8.toNat_inj.1
  rw [UInt8.toNat_ofNat']
  omega
/-- What status answers: 0, or a number whose digits the text is. -/
theorem stat_any (k : Nat) (s : ByteArray) : ∃ v : Int, smithyref16_status.f (k + 10) s = some v ∧ (v = 0 ∨ ∃ n : Nat, v = (n : Int) ∧ n < 256 ∧ 1 ≤ n ∧ s = ⟨(dl n).toArray⟩) := by
  unfold smithyref16_status.f
  rw [show (0 : Int) = ((0 : Nat) : Int) from rfl]
  by_cases h0 : 0 < s.size
  rotate_left
  · exact ⟨_, stat_end (k + 9) s _ 0 h0, .inl rfl⟩
  by_cases d0 : (48 ≤ bt s ((0 : Nat) : Int) ∧ bt s ((0 : Nat) : Int) ≤ 57) ∧ bt s ((0 : Nat) : Int) ≠ 48
  rotate_left
  · exact ⟨0, stat_bad (k + 9) s _ 0 h0 (by by_cases h : 48 ≤ bt s ((0 : Nat) : Int) ∧ bt s ((0 : Nat) : Int) ≤ 57; exact .inr (.inr ⟨rfl, by omega⟩); exact .inl h), .inl rfl⟩
  rw [stat_step (k + 9) s _ 0 h0 (by omega) (by omega) (by omega) d0.1 (fun h => d0.2 h.2)]
  obtain ⟨a, ha⟩ : ∃ a : Nat, bt s ((0 : Nat) : Int) = 48 + (a : Int) := ⟨(bt s ((0 : Nat) : Int) - 48).toNat, by omega⟩
  rw [ha] at d0 ⊢
  have ca := bt_get s 0 h0
  rw [ha] at ca
  have ea := u8_of _ a ca.symm (by omega)
  by_cases h1 : 1 < s.size
  rotate_left
  · refine ⟨_, stat_end (k + 8) s _ 1 h1, .inr ⟨a, ?_, by omega, by omega, ?_⟩⟩
    · rw [if_neg (by omega)]; omega
    · apply ByteArray.ext
      apply Array.ext'
      show s.data.toList = dl a
      unfold dl
      rw [if_pos (by omega), ← ea]
      exact List.ext_getElem (by simp; omega) (fun j h1 h2 => by
        have : j = 0 := by simp at h2; omega
        subst this; rfl)
  by_cases d1 : 48 ≤ bt s ((1 : Nat) : Int) ∧ bt s ((1 : Nat) : Int) ≤ 57
  rotate_left
  · exact ⟨0, stat_bad (k + 8) s _ 1 h1 (.inl d1), .inl rfl⟩
  rw [stat_step (k + 8) s _ 1 h1 (by omega) (by omega) (by omega) d1 (fun h => by omega)]
  obtain ⟨b, hb⟩ : ∃ b : Nat, bt s ((1 : Nat) : Int) = 48 + (b : Int) := ⟨(bt s ((1 : Nat) : Int) - 48).toNat, by omega⟩
  rw [hb] at d1 ⊢
  have cb := bt_get s 1 h1
  rw [hb] at cb
  have eb := u8_of _ b cb.symm (by omega)
  by_cases h2 : 2 < s.size
  rotate_left
  · refine ⟨_, stat_end (k + 7) s _ 2 h2, .inr ⟨10 * a + b, ?_, by omega, by omega, ?_⟩⟩
    · rw [if_neg (by omega)]; omega
    · apply ByteArray.ext
      apply Array.ext'
      show s.data.toList = dl (10 * a + b)
      unfold dl
      rw [if_neg (by omega), if_pos (by omega), show (10 * a + b) / 10 = a by omega, show (10 * a + b) % 10 = b by omega, ← ea, ← eb]
      exact List.ext_getElem (by simp; omega) (fun j h1 h2 => by
        have : j = 0 ∨ j = 1 := by simp at h2; omega
        rcases this with rfl | rfl <;> rfl)
  by_cases d2 : 48 ≤ bt s ((2 : Nat) : Int) ∧ bt s ((2 : Nat) : Int) ≤ 57
  rotate_left
  · exact ⟨0, stat_bad (k + 7) s _ 2 h2 (.inl d2), .inl rfl⟩
  rw [stat_step (k + 7) s _ 2 h2 (by omega) (by omega) (by omega) d2 (fun h => by omega)]
  obtain ⟨c, hc⟩ : ∃ c : Nat, bt s ((2 : Nat) : Int) = 48 + (c : Int) := ⟨(bt s ((2 : Nat) : Int) - 48).toNat, by omega⟩
  rw [hc] at d2 ⊢
  have cc := bt_get s 2 h2
  rw [hc] at cc
  have ec := u8_of _ c cc.symm (by omega)
  by_cases h3 : 3 < s.size
  · exact ⟨0, stat_bad (k + 6) s _ 3 h3 (.inr (.inl (by omega))), .inl rfl⟩
  by_cases hv : 100 * a + 10 * b + c ≤ 255
  · refine ⟨_, stat_end (k + 6) s _ 3 h3, .inr ⟨100 * a + 10 * b + c, ?_, by omega, by omega, ?_⟩⟩
    · rw [if_neg (by omega)]; omega
    · apply ByteArray.ext
      apply Array.ext'
      show s.data.toList = dl (100 * a + 10 * b + c)
      unfold dl
      rw [if_neg (by omega), if_neg (by omega), show (100 * a + 10 * b + c) / 100 = a by omega, show (100 * a + 10 * b + c) / 10 % 10 = b by omega, show (100 * a + 10 * b + c) % 10 = c by omega, ← ea, ← eb, ← ec]
      exact List.ext_getElem (by simp; omega) (fun j h1 h2 => by
        have : j = 0 ∨ j = 1 ∨ j = 2 := by simp at h2; omega
        rcases this with rfl | rfl | rfl <;> rfl)
  · exact ⟨0, by rw [stat_end (k + 6) s _ 3 h3, if_pos (by omega)], .inl rfl⟩
theorem stat_of (k : Nat) (s : ByteArray) : smithyref16_status.f (k + 10) s = some (failN s) := by
  obtain ⟨v, hv, h⟩ := stat_any k s
  rcases h with rfl | ⟨n, rfl, h1, h2, rfl⟩
  · by_cases hf : failN s = 0
    · rw [hv, hf]
    · obtain ⟨n, h1, h2, rfl⟩ := fail_stat s hf
      have := at_rounds (smithyref16_status.mono _) (show 10 ≤ k + 10 by omega) (stat_dl n h1 h2)
      rw [this] at hv
      have := Option.some.inj hv
      omega
  · rw [hv, failN_dl n h1 h2]
/-- What both Parse tell. -/
def resL (k : Nat) (l0 : List ByteArray) : Option (Int × ByteArray × List ByteArray × List ByteArray × Int × Int) := cmd_Parse.f k l0
theorem good3 (b : Bool) (r : Int × ByteArray × List ByteArray × List ByteArray × Int × Int) : (if (if b = true then (0 : Int) else 3) = 0 then some r else cmd_Parse.bad (if b = true then 0 else 3)) = if b = true then some r else cmd_Parse.bad 3 := by
  cases b <;> rfl
theorem named_of (k : Nat) (fl : List ByteArray) (r : Int × ByteArray × List ByteArray × List ByteArray × Int × Int) (hl : fl.length ≤ 4294967296) (hk : fl.length + 90 < k) :
    cmd_Parse.named k fl r = if fl.all nameB = true then some r else cmd_Parse.bad 3 := by
  unfold cmd_Parse.named
  rw [files_of fl k hl hk, Option.bind_some, good3]
theorem rnamed_of (k : Nat) (o : Int) (d : ByteArray) (src ws : List ByteArray) (st : Int) (hd : d.size ≤ 140737488351232) (hs : ∀ x ∈ src, x.size ≤ 140737488351232) (hl : src.length ≤ 4294967296) (hk : src.length + 5 < k) :
    smithyref16_Parse.named k o d src ws st = if ((if 1 ≤ o ∧ o ≤ 5 then nameB d else true) && src.all nameB) = true then some (o, d, src, ws, st, 0) else cmd_Parse.bad 3 := by
  unfold smithyref16_Parse.named
  rw [rfiles_of o d src ws st k hd hs hl hk, Option.bind_some]
  rfl
theorem fail_pos {s : ByteArray} : (7 : Int) = 7 := rfl
/-- Both Parse answer the same. -/
theorem parse_same (k : Nat) (l0 : List ByteArray) (hs : ∀ x ∈ l0, x.size ≤ 140737488351232) (hk : 2000 ≤ k) : ∃ r : Int × ByteArray × List ByteArray × List ByteArray × Int × Int, cmd_Parse.f k l0 = some r ∧ smithyref16_Parse.f k l0 = some r ∧ r.2.2.1.length ≤ 514 ∧ r.2.2.2.1.length ≤ 514 := by
  cases l0 with
  | nil => exact ⟨_, rfl, rfl, by decide, by decide⟩
  | cons x l =>
    simp only [cmd_Parse.f, smithyref16_Parse.f]
    by_cases hl : 514 < l.length + 1
    · rw [if_pos hl, if_pos hl]
      exact ⟨_, rfl, rfl, by decide, by decide⟩
    · rw [if_neg hl, if_neg hl]
      obtain ⟨j, rfl⟩ : ∃ j, k = j + 20 := ⟨k - 20, by omega⟩
      obtain ⟨i, h1, h2, i0, i8⟩ := idx_op j x
      rw [h1, h2, Option.bind_some, Option.bind_some]
      by_cases hi : i = -1
      · subst hi
        rw [if_pos rfl, show (-1 : Int) + 1 = 0 from rfl, many_none (j + 19), Option.bind_some, if_pos rfl]
        exact ⟨_, rfl, rfl, by decide, by decide⟩
      · rw [if_neg hi, if_neg (show ¬ (i < 0 ∨ 8 ≤ i) by omega), count_many (j + 19) i _ (by omega) i8]
        obtain ⟨b, hb⟩ : ∃ b, smithyref16_many.f (j + 20) (i + 1) (l.length : Int) = some b := by
          have : i = 0 ∨ i = 1 ∨ i = 2 ∨ i = 3 ∨ i = 4 ∨ i = 5 ∨ i = 6 ∨ i = 7 := by omega
          rcases this with rfl | rfl | rfl | rfl | rfl | rfl | rfl | rfl
          · exact ⟨_, rfl⟩
          · unfold smithyref16_many.f
            rw [if_neg (by decide), if_pos (by decide)]
            split <;> exact ⟨_, rfl⟩
          · unfold smithyref16_many.f
            rw [if_neg (by decide), if_neg (by decide), if_pos (by decide)]
            split <;> exact ⟨_, rfl⟩
          all_goals exact ⟨_, rfl⟩
        rw [hb, Option.bind_some, Option.bind_some]
        cases b with
        | false => rw [if_pos rfl, if_pos rfl]; exact ⟨_, rfl, rfl, by decide, by decide⟩
        | true =>
          rw [if_neg (by decide), if_neg (by decide)]
          have hsl : ∀ y ∈ l, y.size ≤ 140737488351232 := fun y hy => hs y (List.mem_cons_of_mem _ hy)
          have hll : l.length ≤ 513 := by omega
          have : i = 0 ∨ i = 1 ∨ i = 2 ∨ i = 3 ∨ i = 4 ∨ i = 5 ∨ i = 6 ∨ i = 7 := by omega
          rcases this with rfl | rfl | rfl | rfl | rfl | rfl | rfl | rfl
          · -- copy
            have h2 : (l.length : Int) = 2 := by
              have h_ : smithyref16_many.f (j + 20) (0 + 1) (l.length : Int) = some ((l.length : Int) == 2) := rfl
              rw [h_] at hb
              exact beq_iff_eq.1 (Option.some.inj hb)
            match l, h2 with
            | [a, d], _ =>
              show ∃ r, cmd_Parse.named (j + 20) [a, d] (1, d, [a], [], 0, 0) = some r ∧ smithyref16_Parse.named (j + 20) 1 d [a] [] 0 = some r ∧ _
              rw [named_of _ _ _ (by simp) (by first | (simp; done) | (simp; omega)), rnamed_of _ _ _ _ _ _ (hsl d (by simp)) (fun y hy => hsl y (by simp at hy; simp [hy])) (by simp) (by first | (simp; done) | (simp; omega)), if_pos (show (1 : Int) ≤ 1 ∧ (1 : Int) ≤ 5 by decide)]
              simp only [List.all_cons, List.all_nil, Bool.and_true]
              rw [Bool.and_comm (nameB d)]
              split
              · exact ⟨_, rfl, rfl, by show 1 ≤ 514; decide, by show 0 ≤ 514; decide⟩
              · exact ⟨_, rfl, rfl, by decide, by decide⟩
          · -- concat
            match l with
            | [] => cases hb
            | d :: ws =>
              have hw : ws.length ≤ 512 := by simp at hll; omega
              show ∃ r, cmd_Parse.named (j + 20) (d :: ws) (2, d, ws, [], 0, 0) = some r ∧ smithyref16_Parse.named (j + 20) 2 d ws [] 0 = some r ∧ _
              rw [named_of _ _ _ (by first | (simp; done) | (simp; omega)) (by first | (simp; done) | (simp; omega)), rnamed_of _ _ _ _ _ _ (hsl d (by simp)) (fun y hy => hsl y (List.mem_cons_of_mem _ hy)) (by omega) (by omega), if_pos (show (1 : Int) ≤ 2 ∧ (2 : Int) ≤ 5 by decide)]
              rw [show (d :: ws).all nameB = (nameB d && ws.all nameB) from List.all_cons]
              by_cases hc : (nameB d && ws.all nameB) = true
              · rw [if_pos hc]
                exact ⟨_, rfl, rfl, by show ws.length ≤ 514; omega, by show 0 ≤ 514; decide⟩
              · rw [if_neg hc]
                exact ⟨_, rfl, rfl, by decide, by decide⟩
          · -- echo-to
            match l with
            | [] => cases hb
            | d :: ws =>
              have hw : ws.length ≤ 512 := by simp at hll; omega
              show ∃ r, cmd_Parse.named (j + 20) [d] (3, d, [], ws, 0, 0) = some r ∧ smithyref16_Parse.named (j + 20) 3 d [] ws 0 = some r ∧ _
              rw [named_of _ _ _ (by simp) (by first | (simp; done) | (simp; omega)), rnamed_of _ _ _ _ _ _ (hsl d (by simp)) (fun y hy => by cases hy) (by simp) (by first | (simp; done) | (simp; omega)), if_pos (show (1 : Int) ≤ 3 ∧ (3 : Int) ≤ 5 by decide)]
              simp only [List.all_cons, List.all_nil, Bool.and_true]
              split
              · exact ⟨_, rfl, rfl, by show 0 ≤ 514; decide, by show ws.length ≤ 514; omega⟩
              · exact ⟨_, rfl, rfl, by decide, by decide⟩
          · -- touch
            have h2 : (l.length : Int) = 1 := by
              have h_ : smithyref16_many.f (j + 20) (3 + 1) (l.length : Int) = some ((l.length : Int) == 1) := rfl
              rw [h_] at hb
              exact beq_iff_eq.1 (Option.some.inj hb)
            match l, h2 with
            | [d], _ =>
              show ∃ r, cmd_Parse.named (j + 20) [d] (4, d, [], [], 0, 0) = some r ∧ smithyref16_Parse.named (j + 20) 4 d [] [] 0 = some r ∧ _
              rw [named_of _ _ _ (by simp) (by first | (simp; done) | (simp; omega)), rnamed_of _ _ _ _ _ _ (hsl d (by simp)) (fun y hy => by cases hy) (by simp) (by first | (simp; done) | (simp; omega)), if_pos (show (1 : Int) ≤ 4 ∧ (4 : Int) ≤ 5 by decide)]
              simp only [List.all_cons, List.all_nil, Bool.and_true]
              split <;> exact ⟨_, rfl, rfl, by show 0 ≤ 514; decide, by show 0 ≤ 514; decide⟩
          · -- remove
            have h2 : (l.length : Int) = 1 := by
              have h_ : smithyref16_many.f (j + 20) (4 + 1) (l.length : Int) = some ((l.length : Int) == 1) := rfl
              rw [h_] at hb
              exact beq_iff_eq.1 (Option.some.inj hb)
            match l, h2 with
            | [d], _ =>
              show ∃ r, cmd_Parse.named (j + 20) [d] (5, d, [], [], 0, 0) = some r ∧ smithyref16_Parse.named (j + 20) 5 d [] [] 0 = some r ∧ _
              rw [named_of _ _ _ (by simp) (by first | (simp; done) | (simp; omega)), rnamed_of _ _ _ _ _ _ (hsl d (by simp)) (fun y hy => by cases hy) (by simp) (by first | (simp; done) | (simp; omega)), if_pos (show (1 : Int) ≤ 5 ∧ (5 : Int) ≤ 5 by decide)]
              simp only [List.all_cons, List.all_nil, Bool.and_true]
              split <;> exact ⟨_, rfl, rfl, by show 0 ≤ 514; decide, by show 0 ≤ 514; decide⟩
          · -- test-exists
            have h2 : (l.length : Int) = 1 := by
              have h_ : smithyref16_many.f (j + 20) (5 + 1) (l.length : Int) = some ((l.length : Int) == 1) := rfl
              rw [h_] at hb
              exact beq_iff_eq.1 (Option.some.inj hb)
            match l, h2 with
            | [d], _ =>
              show ∃ r, cmd_Parse.named (j + 20) [d] (6, ByteArray.empty, [d], [], 0, 0) = some r ∧ smithyref16_Parse.named (j + 20) 6 ByteArray.empty [d] [] 0 = some r ∧ _
              rw [named_of _ _ _ (by simp) (by first | (simp; done) | (simp; omega)), rnamed_of _ _ _ _ _ _ (by decide) (fun y hy => hsl y hy) (by simp) (by first | (simp; done) | (simp; omega)), if_neg (show ¬ ((1 : Int) ≤ 6 ∧ (6 : Int) ≤ 5) by decide), Bool.true_and]
              split
              · exact ⟨_, rfl, rfl, by show 1 ≤ 514; decide, by show 0 ≤ 514; decide⟩
              · exact ⟨_, rfl, rfl, by decide, by decide⟩
          · -- fail
            have h2 : (l.length : Int) ≤ 1 := by
              have h_ : smithyref16_many.f (j + 20) (6 + 1) (l.length : Int) = some (decide ((l.length : Int) ≤ 1)) := rfl
              rw [h_] at hb
              exact of_decide_eq_true (Option.some.inj hb)
            match l, h2 with
            | [], _ =>
              show ∃ r, some (7, ByteArray.empty, [], [], 1, 0) = some r ∧ smithyref16_Parse.named (j + 20) 7 ByteArray.empty [] [] 1 = some r ∧ _
              rw [rnamed_of _ _ _ _ _ _ (by decide) (fun y hy => by cases hy) (by simp) (by first | (simp; done) | (simp; omega)), if_neg (show ¬ ((1 : Int) ≤ 7 ∧ (7 : Int) ≤ 5) by decide)]
              exact ⟨_, rfl, rfl, by decide, by decide⟩
            | [s], _ =>
              have hz : s.size ≤ 140737488355328 := Nat.le_trans (hsl s (by simp)) (by decide)
              show ∃ r, (if s.size ≤ 140737488355328 then (if failN s = 0 then cmd_Parse.bad 160 else some (7, ByteArray.empty, [], [], failN s, 0)) else none) = some r ∧ ((smithyref16_status.f (j + 20) s).bind fun v => if v = 0 then smithyref16_Parse.bad 160 else smithyref16_Parse.named (j + 20) 7 ByteArray.empty [] [] v) = some r ∧ _
              rw [if_pos hz, stat_of (j + 10) s, Option.bind_some]
              by_cases hf : failN s = 0
              · rw [if_pos hf, if_pos hf]
                exact ⟨_, rfl, rfl, by decide, by decide⟩
              · rw [if_neg hf, if_neg hf, rnamed_of _ _ _ _ _ _ (by decide) (fun y hy => by cases hy) (by simp) (by first | (simp; done) | (simp; omega)), if_neg (show ¬ ((1 : Int) ≤ 7 ∧ (7 : Int) ≤ 5) by decide)]
                exact ⟨_, rfl, rfl, by show 0 ≤ 514; decide, by show 0 ≤ 514; decide⟩
          · -- say
            show ∃ r, some (8, ByteArray.empty, [], l, 0, 0) = some r ∧ smithyref16_Parse.named (j + 20) 8 ByteArray.empty [] l 0 = some r ∧ _
            rw [rnamed_of _ _ _ _ _ _ (by decide) (fun y hy => by cases hy) (by simp) (by first | (simp; done) | (simp; omega)), if_neg (show ¬ ((1 : Int) ≤ 8 ∧ (8 : Int) ≤ 5) by decide)]
            exact ⟨_, rfl, rfl, by show 0 ≤ 514; decide, by show l.length ≤ 514; omega⟩
theorem texts_loop (l : List ByteArray) (hl : l.length ≤ 4294967296) : ∀ (n k i : Nat), l.length - i ≤ n → i ≤ l.length → n < k → smithyplain_Texts.l0 k l l (l.length : Int) (i : Int) = some true := by
  intro n
  induction n with
  | zero =>
    intro k i hn hi hk
    obtain ⟨k, rfl⟩ : ∃ m, k = m + 1 := ⟨k - 1, by omega⟩
    simp only [smithyplain_Texts.l0]
    rw [if_neg (by omega)]
  | succ n ih =>
    intro k i hn hi hk
    obtain ⟨k, rfl⟩ : ∃ m, k = m + 1 := ⟨k - 1, by omega⟩
    simp only [smithyplain_Texts.l0]
    by_cases hlt : i < l.length
    · have hih := ih k (i + 1) (by omega) (by omega) (by omega)
      have h1 : (i : Int) < (l.length : Int) := by omega
      have h0 : (0 : Int) ≤ (i : Int) := by omega
      rw [if_pos h1, if_pos h0, if_pos h1, if_pos h1, if_true, w64i i (by omega), hih]
    · rw [if_neg (by omega)]
theorem texts_refl (l : List ByteArray) (k : Nat) (hl : l.length ≤ 4294967296) (hk : l.length < k) : smithyplain_Texts.f k l l = some true := by
  unfold smithyplain_Texts.f
  rw [if_pos rfl]
  exact texts_loop l hl l.length k 0 (by omega) (by omega) (by omega)
theorem same_refl (k : Nat) (o : Int) (d : ByteArray) (l ws : List ByteArray) (st : Int) (h1 : l.length ≤ 600) (h2 : ws.length ≤ 600) (hk : 1000 ≤ k) : smithylaw16_same.f k o d l ws st o d l ws st = some true := by
  unfold smithylaw16_same.f
  rw [if_pos rfl, if_pos rfl, if_pos rfl, texts_refl l k (by omega) (by omega), Option.bind_some, if_pos rfl, texts_refl ws k (by omega) (by omega)]
  rfl
theorem lexq_len : ∀ (n : Nat) (l : List UInt8), l.length ≤ n → ∀ (acc : List UInt8) (p : Nat) (w : List UInt8) (q : Nat), lexq l acc p = some (w, q) → w.length ≤ acc.length + l.length
  | _, [], _, acc, p, w, q, h => by rw [lexq.eq_def] at h; cases h
  | 0, c :: t, h0, _, _, _, _, _ => by simp at h0
  | n + 1, c :: t, h0, acc, p, w, q, h => by
    have ih := lexq_len n
    simp only [List.length_cons] at h0 ⊢
    rw [lexq_cons] at h
    split at h
    · cases h; omega
    · split at h
      · cases h
      · split at h
        · cases t with
          | nil => cases h
          | cons d t' =>
            simp only [List.length_cons] at h0 ⊢
            simp only at h
            split at h
            · have := ih t' (by omega) _ _ _ _ h; simp at this; omega
            · split at h
              · have := ih t' (by omega) _ _ _ _ h; simp at this; omega
              · split at h
                · have := ih t' (by omega) _ _ _ _ h; simp at this; omega
                · cases h
        · have := ih t (by omega) _ _ _ _ h; simp at this; omega
theorem nb_len (l : List UInt8) : (nb l).length ≤ l.length := by
  unfold nb
  exact (List.takeWhile_sublist _).length_le
theorem wordsN_size : ∀ (n : Nat) (l : List UInt8) (ws : List (List UInt8)), wordsN n l = some ws → ∀ w ∈ ws, w.length ≤ l.length
  | 0, _, ws, h, w, hw => by simp [wordsN] at h; subst h; cases hw
  | n + 1, [], ws, h, w, hw => by simp [wordsN] at h; subst h; cases hw
  | n + 1, c :: t, ws, h, w, hw => by
    have ih := wordsN_size n
    rw [wordsN] at h
    split at h
    · have := ih _ _ h w hw; simp; omega
    · split at h
      · split at h
        · cases h
        · rename_i w0 p hq
          split at h
          · obtain ⟨a, ha, rfl⟩ := Option.map_eq_some_iff.1 h
            rcases List.mem_cons.1 hw with rfl | hw
            · have := lexq_len _ t (Nat.le_refl _) _ _ _ _ hq; simp at this ⊢; omega
            · have := ih _ _ ha w hw; simp at this ⊢; omega
          · cases h
      · split at h
        · cases h
        · obtain ⟨a, ha, rfl⟩ := Option.map_eq_some_iff.1 h
          rcases List.mem_cons.1 hw with rfl | hw
          · exact nb_len _
          · have := ih _ _ ha w hw; simp at this ⊢; omega
theorem wordsA_size (s : ByteArray) : ∀ x ∈ (wordsA s).1, x.size ≤ 140737488351232 := by
  intro x hx
  unfold wordsA at hx
  split at hx
  · cases hx
  · rename_i h
    cases hw : wordsN s.size s.data.toList with
    | none => rw [hw] at hx; cases hx
    | some ws =>
      rw [hw] at hx
      simp only [wordsR, List.nil_append] at hx
      obtain ⟨w, hm, rfl⟩ := List.mem_map.1 hx
      have := wordsN_size _ _ _ hw w hm
      have e : (mkW w).size = w.length := by simp [mkW, ByteArray.size]
      simp at this
      omega
theorem CmdLines (a0 : ByteArray) : smithylaw16_CmdLines.f 400000 a0 = some true := by
  have hl := words_all a0 400000 (by omega)
  have hr := ref_all a0 400000 (by omega)
  have hz := wordsA_size a0
  have hbig : a0.size > 65536 → wordsA a0 = ([], 2) := fun h => by unfold wordsA; rw [if_pos h]
  generalize wordsA a0 = wa at hl hr hz hbig
  obtain ⟨ws0, e0⟩ := wa
  obtain ⟨p, h1, h2, h3⟩ : ∃ p : Int × ByteArray × List ByteArray × List ByteArray × Int × Int, cmd_Line.f 400000 a0 = some p ∧ smithyref16_Line.f 400000 a0 = some p ∧ (p.2.2.1.length ≤ 514 ∧ p.2.2.2.1.length ≤ 514) := by
    unfold cmd_Line.f smithyref16_Line.f
    rw [hl, Option.bind_some, hr, Option.bind_some]
    by_cases hs : a0.size > 65536
    · rw [if_pos (show (a0.size : Int) > 65536 by omega)]
      have := hbig hs
      injection this with g1 g2
      subst g1 g2
      exact ⟨_, rfl, rfl, by decide, by decide⟩
    · rw [if_neg (show ¬ (a0.size : Int) > 65536 by omega)]
      by_cases he : e0 = 0
      · rw [if_pos he, if_pos he]
        obtain ⟨⟨o, d, l, ws, st, e⟩, h1, h2, h3, h4⟩ := parse_same 400000 ws0 hz (by decide)
        rw [h1, h2]
        exact ⟨_, rfl, rfl, h3, h4⟩
      · rw [if_neg he, if_neg he]
        exact ⟨_, rfl, rfl, Nat.zero_le _, Nat.zero_le _⟩
  obtain ⟨o, d, l, ws, st, e⟩ := p
  unfold smithylaw16_CmdLines.f
  rw [h1, Option.bind_some, h2, Option.bind_some, if_pos rfl, same_refl 400000 o d l ws st (Nat.le_trans h3.1 (by decide)) (Nat.le_trans h3.2 (by decide)) (by decide)]
  rfl
end Go.Proofs.YtpiafpkpdbknfaaGreatDoor.Pure
