/- The plain law under LexPrints: what Quote and Print write is what the reference writes. Conditions: what comes in is of bulk at most 1048576. -/
import Derived.Test.YtpiafpkpdbknfaaPLexPrintsx3
import Derived.Test.YtpiafpkpdbknfaaSWords
namespace Go.Proofs.Ytpiafpkpdbknfaa.Pure
open Go.RowKit Go.Proofs.Ytpiafpkpdbknfaa.PLexPrints Go.Proofs.YtpiafpkpdbknfaaW.PrintWords Go.Proofs.YtpiafpkpdbknfaaW.PrintLast Go.Proofs.Ytpiafpkpdbknfaa.Sup
set_option linter.unusedVariables false
set_option linter.unusedSimpArgs false

theorem bt_of (s : ByteArray) (i : Nat) (h : i < s.size) : bt s (i : Int) = ((s[i]'h).toNat : Int) := by simp [bt, h]
theorem drop_of (s : ByteArray) (i : Nat) (h : i < s.size) : s.data.toList.drop i = s[i]'h :: s.data.toList.drop (i + 1) := qbyte s i h
theorem ext_of (s : ByteArray) (i j : Nat) (hj : j ≤ s.size) : (s.extract i j).data.toList = (s.data.toList.drop i).take (j - i) := by
  simp [ByteArray.data_extract, Array.toList_extract, List.extract_eq_take_drop]
theorem ext_eq (s : ByteArray) (i j : Nat) (hj : j ≤ s.size) : s.extract i j = ⟨((s.data.toList.drop i).take (j - i)).toArray⟩ := by
  apply ByteArray.ext
  apply Array.ext'
  rw [ext_of s i j hj]
theorem blank_of (c : UInt8) : lex_blank.f (c.toNat : Int) = some (isB c) := by
  unfold lex_blank.f isB
  by_cases h : c = 32
  · subst h; rfl
  · have h1 : ¬ ((c.toNat : Int) = 32) := fun e => h (UInt8.toNat_inj.1 (by show c.toNat = 32; omega))
    rw [if_neg h1]
    have h2 : (c == 32) = false := by simpa using h
    rw [h2, Bool.false_or]
    congr 1
    by_cases h9 : c = 9
    · subst h9; rfl
    · have h3 : ¬ ((c.toNat : Int) = 9) := fun e => h9 (UInt8.toNat_inj.1 (by show c.toNat = 9; omega))
      rw [beq_eq_false_iff_ne.2 h3, beq_eq_false_iff_ne.2 h9]
theorem u8_int {c v : UInt8} : ((c.toNat : Int) = (v.toNat : Int)) ↔ c = v := ⟨fun e => UInt8.toNat_inj.1 (by omega), fun e => by rw [e]⟩
theorem c34 {c : UInt8} : ((c.toNat : Int) = 34) ↔ c = 34 := u8_int (v := 34)
theorem c92 {c : UInt8} : ((c.toNat : Int) = 92) ↔ c = 92 := u8_int (v := 92)
theorem c10 {c : UInt8} : ((c.toNat : Int) = 10) ↔ c = 10 := u8_int (v := 10)
theorem w64 {x : Int} (h0 : 0 ≤ x) (h : x ≤ 4611686018427387904) : wrap64 x = x := by unfold wrap64; omega
def mkW (l : List UInt8) : ByteArray := ⟨l.toArray⟩
def wordsR (o : Option (List (List UInt8))) (acc : List ByteArray) : List ByteArray × Int := match o with | some ws => (acc ++ ws.map mkW, 0) | none => ([], 150)
theorem wordsR_map (o : Option (List (List UInt8))) (w : List UInt8) (acc : List ByteArray) : wordsR (o.map (w :: ·)) acc = wordsR o (acc ++ [mkW w]) := by
  cases o with
  | none => rfl
  | some ws => simp [wordsR]
theorem qfacts (s : ByteArray) (i : Nat) (hi : i < s.size) (hs : s.size ≤ 65536) :
    lex_quoted.f s (i : Int) = some (qW (lexq (s.data.toList.drop (i + 1)) [] (i + 1)), qP (lexq (s.data.toList.drop (i + 1)) [] (i + 1)), qB (lexq (s.data.toList.drop (i + 1)) [] (i + 1))) := by
  unfold lex_quoted.f
  rw [if_pos ⟨by omega, by omega, by omega⟩]
  rfl

theorem w64_add (i m : Nat) (h : i + m ≤ 4611686018427387904) : wrap64 ((i : Int) + (m : Int)) = ((i + m : Nat) : Int) := by rw [w64 (by omega) (by omega)]; omega
theorem w64_sub (s i : Nat) (h : i ≤ s) (h2 : s ≤ 4611686018427387904) : wrap64 ((s : Int) - (i : Int)) = ((s - i : Nat) : Int) := by rw [w64 (by omega) (by omega)]; omega
theorem ia_of (x : ByteArray) (l : List UInt8) (h : x.data.toList = l) (hs : x.size ≤ 65536) : strings_IndexAny.f x ⟨#[32, 9]⟩ = some (if (nb l).length = l.length then -1 else ((nb l).length : Int)) := by
  unfold strings_IndexAny.f
  rw [if_pos ⟨by decide, by decide, by omega, by decide⟩, h]
  exact congrArg some (indexAny_nb l)
theorem ca_of (x : ByteArray) (l : List UInt8) (h : x.data.toList = l) (hs : x.size ≤ 65536) : strings_ContainsAny.f x ⟨#[34, 10]⟩ = some (l.any badB) := by
  unfold strings_ContainsAny.f strings_IndexAny.f
  rw [if_pos ⟨by decide, by decide, by omega, by decide⟩, h, Option.bind_some]
  exact congrArg some (contains_bad l)

set_option maxHeartbeats 1000000 in
theorem words_loop (s : ByteArray) (hs : s.size ≤ 65536) : ∀ (n k i : Nat) (acc : List ByteArray), s.size - i ≤ n → i ≤ s.size → acc.length ≤ i → n < k →
    lex_Words.l0 k s acc (i : Int) = some (wordsR (wordsN n (s.data.toList.drop i)) acc) := by
  intro n
  induction n with
  | zero =>
    intro k i acc hn hi ha hk
    obtain ⟨k, rfl⟩ : ∃ m, k = m + 1 := ⟨k - 1, by omega⟩
    simp only [lex_Words.l0]
    rw [if_neg (by omega)]
    simp [wordsN, wordsR]
  | succ n ih =>
    intro k i acc hn hi ha hk
    obtain ⟨k, rfl⟩ : ∃ m, k = m + 1 := ⟨k - 1, by omega⟩
    simp only [lex_Words.l0]
    by_cases hlt : i < s.size
    · obtain ⟨c, hc⟩ : ∃ c, s[i]'hlt = c := ⟨_, rfl⟩
      have hd := drop_of s i hlt
      rw [hc] at hd
      rw [if_pos (by omega), if_pos (by omega), bt_of s i hlt, hc, blank_of, hd]
      simp only [Option.bind_some]
      have hl : (s.data.toList.drop (i + 1)).length = s.size - (i + 1) := by simp
      cases hb : isB c
      · simp only [Bool.false_eq_true, if_false]
        by_cases h34 : c = 34
        · subst h34
          rw [if_pos (c34.2 rfl), wordsN_quote]
          have hqf := qfacts s i hlt hs
          rw [lexq_zero _ _ (i + 1)] at hqf
          cases hq : lexq (s.data.toList.drop (i + 1)) [] 0 with
          | none =>
            rw [hq] at hqf
            rw [hqf]
            rfl
          | some x =>
            obtain ⟨w, p⟩ := x
            have hbd := lexq_bound _ _ (Nat.le_refl _) _ _ _ _ hq
            have hbd2 := hbd.2.1
            rw [hl] at hbd2
            rw [hq] at hqf
            replace hqf : lex_quoted.f s (i : Int) = some (mkW w, ((p + (i + 1) : Nat) : Int), true) := hqf
            rw [hqf]
            simp only [Option.bind_some, if_true]
            have hdd : s.data.toList.drop (p + (i + 1)) = (s.data.toList.drop (i + 1)).drop p := by rw [List.drop_drop]; congr 1; omega
            have hih : lex_Words.l0 k s (acc ++ [mkW w]) ((p + (i + 1) : Nat) : Int) = some (wordsR (wordsN n ((s.data.toList.drop (i + 1)).drop p)) (acc ++ [mkW w])) := by
              rw [ih k (p + (i + 1)) (acc ++ [mkW w]) (by omega) (by omega) (by simp; omega) (by omega), hdd]
            have hal : acc.length < 8796093022208 := by omega
            by_cases hpl : p + (i + 1) < s.size
            · have hd2 := drop_of s (p + (i + 1)) hpl
              rw [hdd] at hd2
              have he : endOk ((s.data.toList.drop (i + 1)).drop p) = isB (s[p + (i + 1)]'hpl) := by rw [hd2]; rfl
              rw [if_pos (by omega), if_pos (by omega), bt_of s _ hpl, blank_of, he]
              simp only [Option.bind_some]
              cases hb2 : isB (s[p + (i + 1)]'hpl)
              · rfl
              · simp only [if_true]
                rw [if_pos hal, hih, wordsR_map]
            · have he : (s.data.toList.drop (i + 1)).drop p = [] := List.drop_eq_nil_of_le (by rw [hl]; omega)
              rw [if_neg (by omega), if_pos hal, hih, he]
              simp only [endOk, if_true]
              rw [wordsR_map]
        · rw [if_neg (fun e => h34 (c34.1 e)), if_pos (by omega), wordsN_plain _ _ _ hb h34]
          have hnb := nb_cons (s.data.toList.drop (i + 1)) hb
          have hnl := nb_le (c :: s.data.toList.drop (i + 1))
          have hdl : (c :: s.data.toList.drop (i + 1)).length = s.size - i := by rw [← hd]; simp
          obtain ⟨m, hm⟩ : ∃ m, (nb (c :: s.data.toList.drop (i + 1))).length = m := ⟨_, rfl⟩
          have hm1 : 1 ≤ m := by rw [← hm, hnb]; simp
          have htk : (s.data.toList.drop i).take m = nb (c :: s.data.toList.drop (i + 1)) := by
            rw [hd, ← hm]
            exact (List.prefix_iff_eq_take.1 (List.takeWhile_prefix _)).symm
          have hal : acc.length < 8796093022208 := by omega
          have hex := ext_of s i s.size (Nat.le_refl _)
          rw [hd, List.take_of_length_le (by omega)] at hex
          have hia := ia_of (s.extract i s.size) _ hex (by rw [ByteArray.size_extract]; omega)
          rw [hm, hdl] at hia
          have hex2 := ext_of s i (i + m) (by omega)
          rw [show i + m - i = m by omega, htk] at hex2
          have hca := ca_of (s.extract i (i + m)) _ hex2 (by rw [ByteArray.size_extract]; omega)
          have he3 : s.extract i (i + m) = mkW (nb (c :: s.data.toList.drop (i + 1))) := by
            rw [ext_eq s i (i + m) (by omega), show i + m - i = m by omega, htk]; rfl
          have hih : lex_Words.l0 k s (acc ++ [s.extract i (i + m)]) ((i + m : Nat) : Int) = some (wordsR (wordsN n ((c :: s.data.toList.drop (i + 1)).drop m)) (acc ++ [mkW (nb (c :: s.data.toList.drop (i + 1)))])) := by
            rw [ih k (i + m) _ (by omega) (by omega) (by simp; omega) (by omega), he3, ← hd, List.drop_drop]
          have e0 : (((i : Int) : Int).toNat) = i := by omega
          rw [e0, hia, hm]
          simp only [Option.bind_some]
          have c1 : (i : Int) ≤ ((i + m : Nat) : Int) := by omega
          have c2 : ((i + m : Nat) : Int) ≤ (s.size : Int) := by omega
          by_cases hms : m = s.size - i
          · have c0 : (-1 : Int) < 0 := by decide
            rw [if_pos hms, if_pos c0, w64_sub s.size i (by omega) (by omega), ← hms, w64_add i m (by omega), if_pos c1, if_pos c2, Int.toNat_natCast, hca]
            rw [Option.bind_some]
            cases hbad : (nb (c :: s.data.toList.drop (i + 1))).any badB
            · rw [if_neg Bool.false_ne_true, if_neg Bool.false_ne_true, if_pos hal, hih, wordsR_map]
            · rw [if_pos rfl, if_pos rfl]; rfl
          · have c0 : ¬ ((m : Int) < 0) := by omega
            rw [if_neg hms, if_neg c0, w64_add i m (by omega), if_pos c1, if_pos c2, Int.toNat_natCast, hca]
            rw [Option.bind_some]
            cases hbad : (nb (c :: s.data.toList.drop (i + 1))).any badB
            · rw [if_neg Bool.false_ne_true, if_neg Bool.false_ne_true, if_pos hal, hih, wordsR_map]
            · rw [if_pos rfl, if_pos rfl]; rfl
      · simp only [if_true]
        rw [w64 (by omega) (by omega), wordsN_blank _ _ _ hb]
        exact ih k (i + 1) acc (by omega) (by omega) (by omega) (by omega)
    · rw [if_neg (by omega), List.drop_eq_nil_of_le (by simp; omega)]
      simp [wordsN, wordsR]
/-- What Words tells of a text. -/
def wordsA (s : ByteArray) : List ByteArray × Int := if s.size > 65536 then ([], 2) else wordsR (wordsN s.size s.data.toList) []
theorem words_all (s : ByteArray) (k : Nat) (hk : 65537 < k) : lex_Words.f k s = some (wordsA s) := by
  unfold lex_Words.f wordsA
  by_cases h : s.size > 65536
  · rw [if_pos (by omega), if_pos h]
  · rw [if_neg (by omega), if_neg h]
    have := words_loop s (by omega) s.size k 0 [] (by omega) (by omega) (by simp) (by omega)
    simpa using this
theorem texts_loop (l : List ByteArray) (hl : l.length ≤ 4294967296) : ∀ (n k i : Nat), l.length - i ≤ n → i ≤ l.length → n < k → smithyplain_Texts.l0 k l l (l.length : Int) (i : Int) = some true := by
  intro n
  induction n with
  | zero =>
    intro k i hn hi hk
    obtain ⟨k, rfl⟩ : ∃ m, k = m + 1 := ⟨k - 1, by omega⟩
    simp only [smithyplain_Texts.l0]
    rw [if_neg (by omega)]
  | succ n ih =>
    intro k i hn hi hk
    obtain ⟨k, rfl⟩ : ∃ m, k = m + 1 := ⟨k - 1, by omega⟩
    simp only [smithyplain_Texts.l0]
    by_cases hlt : i < l.length
    · have hih := ih k (i + 1) (by omega) (by omega) (by omega)
      have e1 := w64_add i 1 (by omega)
      have h1 : (i : Int) < (l.length : Int) := by omega
      have h0 : (0 : Int) ≤ (i : Int) := by omega
      rw [show ((1 : Nat) : Int) = 1 from rfl] at e1
      rw [if_pos h1, if_pos h0, if_pos h1, if_pos h1, if_true, e1, hih]
    · rw [if_neg (by omega)]
theorem texts_refl (l : List ByteArray) (k : Nat) (hl : l.length ≤ 4294967296) (hk : l.length < k) : smithyplain_Texts.f k l l = some true := by
  unfold smithyplain_Texts.f
  rw [if_pos rfl]
  exact texts_loop l hl l.length k 0 (by omega) (by omega) (by omega)
theorem wordsN_len : ∀ (n : Nat) (l : List UInt8) (ws : List (List UInt8)), wordsN n l = some ws → ws.length ≤ n
  | 0, _, ws, h => by simp [wordsN] at h; subst h; simp
  | n + 1, [], ws, h => by simp [wordsN] at h; subst h; simp
  | n + 1, c :: t, ws, h => by
    have ih := wordsN_len n
    rw [wordsN] at h
    split at h
    · have := ih _ _ h; omega
    · split at h
      · split at h
        · cases h
        · split at h
          · obtain ⟨a, ha, rfl⟩ := Option.map_eq_some_iff.1 h
            have := ih _ _ ha
            simp; omega
          · cases h
      · split at h
        · cases h
        · obtain ⟨a, ha, rfl⟩ := Option.map_eq_some_iff.1 h
          have := ih _ _ ha
          simp; omega
theorem wordsA_len (s : ByteArray) : (wordsA s).1.length ≤ 65536 := by
  unfold wordsA
  split
  · simp
  · rename_i h
    cases hw : wordsN s.size s.data.toList with
    | none => simp [wordsR]
    | some ws =>
      have := wordsN_len _ _ _ hw
      simp [wordsR]; omega
theorem small_ok (k : Nat) (hk : 327681 < k) : smithylaw15_small.f k = some true := by
  unfold smithylaw15_small.f
  have e1 : wordsA (⟨#[99, 111, 112, 121, 32, 97, 32, 34, 98, 32, 99, 34, 32, 34, 34]⟩ : ByteArray) = ([(⟨#[99, 111, 112, 121]⟩ : ByteArray), (⟨#[97]⟩ : ByteArray), (⟨#[98, 32, 99]⟩ : ByteArray), (⟨#[]⟩ : ByteArray)], 0) := by decide +kernel
  have e2 : wordsA (⟨#[97, 34, 98, 34]⟩ : ByteArray) = ([], 150) := by decide +kernel
  have e3 : lex_Quote.f (⟨#[97, 32, 98]⟩ : ByteArray) = some ⟨#[34, 97, 32, 98, 34]⟩ := by decide +kernel
  have e4 : lex_Quote.f (⟨#[97, 98]⟩ : ByteArray) = some ⟨#[97, 98]⟩ := by decide +kernel
  have e5 : (some ((⟨#[97, 98]⟩ : ByteArray).toList == ([97, 98] : List UInt8))) = some true := by decide +kernel
  rw [words_all _ k (by omega), Option.bind_some, words_all _ k (by omega), Option.bind_some, e1, e2, e3, e4]
  rw [if_pos rfl, if_pos rfl, texts_refl _ k (by simp) (by simp; omega), Option.bind_some, if_pos rfl, Option.bind_some, if_pos (by decide +kernel), Option.bind_some]
  exact e5
theorem lexq_esc (R : List UInt8) : ∀ (w acc : List UInt8) (p : Nat), lexq (escL w ++ 34 :: R) acc p = some (acc ++ w, p + (escL w).length + 1)
  | [], acc, p => by
    rw [escL, List.nil_append, lexq_cons, if_pos rfl]
    simp
  | b :: w, acc, p => by
    have ih := lexq_esc R w
    rw [escL, List.append_assoc]
    unfold escB
    by_cases h34 : b = 34
    · subst h34
      rw [if_pos rfl]
      show lexq (92 :: 34 :: (escL w ++ 34 :: R)) acc p = _
      rw [lexq_cons, if_neg (by decide), if_neg (by decide), if_pos rfl]
      simp only
      rw [if_true, ih]
      simp; omega
    · rw [if_neg h34]
      by_cases h92 : b = 92
      · subst h92
        rw [if_pos rfl]
        show lexq (92 :: 92 :: (escL w ++ 34 :: R)) acc p = _
        rw [lexq_cons, if_neg (by decide), if_neg (by decide), if_pos rfl]
        simp only
        rw [if_neg (by decide), if_true, ih]
        simp; omega
      · rw [if_neg h92]
        by_cases h10 : b = 10
        · subst h10
          rw [if_pos rfl]
          show lexq (92 :: 110 :: (escL w ++ 34 :: R)) acc p = _
          rw [lexq_cons, if_neg (by decide), if_neg (by decide), if_pos rfl]
          simp only
          rw [if_neg (by decide), if_neg (by decide), if_true, ih]
          simp; omega
        · rw [if_neg h10]
          show lexq (b :: (escL w ++ 34 :: R)) acc p = _
          rw [lexq_cons, if_neg h34, if_neg h10, if_neg h92, ih]
          simp; omega
theorem nb_app (R : List UInt8) (hR : endOk R = true) : ∀ w : List UInt8, w.all (fun b => !isB b) = true → nb (w ++ R) = w
  | [], _ => by
    cases R with
    | nil => rfl
    | cons c t => exact nb_blank t hR
  | b :: w, h => by
    rw [List.all_cons, Bool.and_eq_true] at h
    have h1 : isB b = false := by simpa using h.1
    rw [List.cons_append, nb_cons _ h1, nb_app R hR w h.2]
theorem odd_false {b : UInt8} (h : odd b = false) : isB b = false ∧ b ≠ 34 ∧ badB b = false := by
  unfold odd at h
  simp only [List.contains_cons, List.contains_nil, Bool.or_false, Bool.or_eq_false_iff, beq_eq_false_iff_ne] at h
  obtain ⟨h1, h2, h3, h4, h5⟩ := h
  refine ⟨by simp [isB, h1, h2], h4, by simp [badB, h3, h4]⟩
theorem plain_all : ∀ w : List UInt8, w.any odd = false → w.all (fun b => !isB b) = true ∧ w.any badB = false
  | [], _ => ⟨rfl, rfl⟩
  | b :: w, h => by
    rw [List.any_cons, Bool.or_eq_false_iff] at h
    obtain ⟨h1, h2, h3⟩ := odd_false h.1
    obtain ⟨h4, h5⟩ := plain_all w h.2
    refine ⟨by rw [List.all_cons, h1, h4]; rfl, by rw [List.any_cons, h3, h5]; rfl⟩
/-- One word, printed, is read as that word, if behind it the text ends or a blank stands. -/
theorem wordsN_word (R : List UInt8) (r : List (List UInt8)) (hR : endOk R = true) (hr : ∀ m, R.length ≤ m → wordsN m R = some r) (w : List UInt8) (n : Nat) (hn : (quoteL w ++ R).length ≤ n) :
    wordsN n (quoteL w ++ R) = some (w :: r) := by
  unfold quoteL at hn ⊢
  by_cases hp : plainL w = true
  · rw [if_pos hp] at hn ⊢
    unfold plainL at hp
    cases w with
    | nil => simp at hp
    | cons c t =>
      have hany : (c :: t).any odd = false := by
        rw [Bool.and_eq_true] at hp
        simpa using hp.2
      obtain ⟨h1, h2⟩ := plain_all _ hany
      have ho := (Bool.or_eq_false_iff.1 (by rw [← List.any_cons]; exact hany)).1
      obtain ⟨b1, b2, b3⟩ := odd_false ho
      have hnb := nb_app R hR (c :: t) h1
      have hlen : (c :: t ++ R).length = t.length + 1 + R.length := by simp; omega
      obtain ⟨n, rfl⟩ : ∃ m, n = m + 1 := ⟨n - 1, by omega⟩
      rw [List.cons_append] at hnb ⊢
      rw [wordsN_plain _ _ _ b1 b2, hnb, h2, if_neg Bool.false_ne_true]
      rw [← List.cons_append, List.drop_left, hr n (by omega)]
      rfl
  · rw [if_neg hp] at hn ⊢
    have hlen : (34 :: (escL w ++ [34]) ++ R).length = (escL w).length + 2 + R.length := by simp; omega
    obtain ⟨n, rfl⟩ : ∃ m, n = m + 1 := ⟨n - 1, by omega⟩
    have e : 34 :: (escL w ++ [34]) ++ R = 34 :: (escL w ++ 34 :: R) := by simp
    have e2 : (escL w ++ 34 :: R).drop (0 + (escL w).length + 1) = R := by
      rw [Nat.zero_add, ← List.drop_drop, List.drop_left]
      rfl
    rw [e, wordsN_quote, lexq_esc R w [] 0]
    simp only
    rw [e2, hR, if_pos rfl, hr n (by omega)]
    rfl
def tailL (r : List (List UInt8)) : List UInt8 := Lib.joinTail [32] (r.map quoteL)
theorem tailL_cons (w : List UInt8) (r : List (List UInt8)) : tailL (w :: r) = 32 :: (quoteL w ++ tailL r) := by simp [tailL, Lib.joinTail]
theorem tailL_end : ∀ r : List (List UInt8), endOk (tailL r) = true
  | [] => rfl
  | w :: r => by rw [tailL_cons]; rfl
theorem wordsN_tail : ∀ (r : List (List UInt8)) (m : Nat), (tailL r).length ≤ m → wordsN m (tailL r) = some r
  | [], m, _ => wordsN_nil m
  | w :: r, m, h => by
    rw [tailL_cons] at h ⊢
    rw [List.length_cons] at h
    obtain ⟨m, rfl⟩ : ∃ j, m = j + 1 := ⟨m - 1, by omega⟩
    rw [wordsN_blank _ _ _ rfl]
    exact wordsN_word _ r (tailL_end r) (wordsN_tail r) w m (by omega)
def printL (ws : List (List UInt8)) : List UInt8 := Lib.join (ws.map quoteL) [32]
/-- What is printed is read back. -/
theorem wordsN_print (ws : List (List UInt8)) (n : Nat) (h : (printL ws).length ≤ n) : wordsN n (printL ws) = some ws := by
  cases ws with
  | nil => exact wordsN_nil n
  | cons w r =>
    unfold printL at h ⊢
    rw [List.map_cons, Lib.join_cons] at h ⊢
    exact wordsN_word _ r (tailL_end r) (wordsN_tail r) w n h
theorem wordsN_lens : ∀ (n : Nat) (l : List UInt8) (ws : List (List UInt8)), wordsN n l = some ws → Lib.lens ws ≤ l.length
  | 0, _, ws, h => by rw [wordsN] at h; cases h; simp [Lib.lens]
  | n + 1, [], ws, h => by rw [wordsN] at h; cases h; simp [Lib.lens]
  | n + 1, c :: t, ws, h => by
    have ih := wordsN_lens n
    by_cases hb : isB c = true
    · rw [wordsN_blank _ _ _ hb] at h
      have := ih _ _ h
      simp; omega
    · replace hb : isB c = false := by simpa using hb
      by_cases h34 : c = 34
      · subst h34
        rw [wordsN_quote] at h
        cases hq : lexq t [] 0 with
        | none => rw [hq] at h; cases h
        | some x =>
          obtain ⟨w, p⟩ := x
          have hbd := lexq_bound _ _ (Nat.le_refl _) _ _ _ _ hq
          rw [hq] at h
          simp only at h
          split at h
          · obtain ⟨ws', h1, rfl⟩ := Option.map_eq_some_iff.1 h
            have := ih _ _ h1
            simp [Lib.lens] at this hbd ⊢; omega
          · cases h
      · have hn := nb_le (c :: t)
        rw [wordsN_plain _ _ _ hb h34] at h
        split at h
        · cases h
        · obtain ⟨ws', h1, rfl⟩ := Option.map_eq_some_iff.1 h
          have := ih _ _ h1
          simp [Lib.lens] at this hn ⊢; omega
theorem lens_quote : ∀ ws : List (List UInt8), Lib.lens (ws.map quoteL) ≤ 2 * Lib.lens ws + 2 * ws.length
  | [] => by simp [Lib.lens]
  | w :: r => by
    have := lens_quote r
    have := quoteL_len w
    simp [Lib.lens] at *; omega
theorem printL_len (ws : List (List UInt8)) : (printL ws).length ≤ 2 * Lib.lens ws + 3 * ws.length := by
  cases ws with
  | nil => simp [printL, Lib.join_nil]
  | cons w r =>
    have h1 := lens_quote r
    have h2 := quoteL_len w
    unfold printL
    rw [List.map_cons, Lib.join_cons, List.length_append, Lib.joinTail_length]
    simp [Lib.lens] at *; omega
theorem lens_mem : ∀ (ws : List (List UInt8)) (w : List UInt8), w ∈ ws → w.length ≤ Lib.lens ws
  | x :: r, w, h => by
    rcases List.mem_cons.1 h with rfl | h
    · simp [Lib.lens]
    · have := lens_mem r w h
      simp [Lib.lens] at *; omega
def quoteW (x : ByteArray) : ByteArray := ⟨(quoteL x.data.toList).toArray⟩
theorem quoteW_mk (w : List UInt8) : quoteW (mkW w) = mkW (quoteL w) := by simp [quoteW, mkW]
theorem quote_of (x : ByteArray) (h : x.size ≤ 1099511627776) : lex_Quote.f x = some (quoteW x) := by
  unfold lex_Quote.f; rw [if_pos h]; rfl
theorem mk_back (ws : List (List UInt8)) : (ws.map mkW).map (·.data.toList) = ws := by
  induction ws with
  | nil => rfl
  | cons w r ih => rw [List.map_cons, List.map_cons, ih]; rfl
theorem rd_at {d : ByteArray} (l : List ByteArray) (i : Nat) (h : i < l.length) : rdOf d l (i : Int) = l[i] := by
  simp [rdOf, h]
theorem join_of (l : List (List UInt8)) (h1 : l.length ≤ 1048576) (h2 : (Lib.join l [32]).length ≤ 4294967296) : strings_Join.f (l.map mkW) (⟨#[32]⟩ : ByteArray) = some (mkW (Lib.join l [32])) := by
  unfold strings_Join.f
  rw [mk_back]
  show (if _ ∧ (Lib.join l [32]).length ≤ _ then some (mkW (Lib.join l [32])) else none) = _
  rw [if_pos ⟨by rw [List.length_map]; omega, by omega⟩]
theorem print_loop (ws : List (List UInt8)) (hw : ∀ w ∈ ws, w.length ≤ 1048576) (hl : ws.length ≤ 1048576) (hj : (printL ws).length ≤ 4294967296) : ∀ (n k i : Nat), ws.length - i ≤ n → i ≤ ws.length → n < k →
    lex_Print.l0 k (((ws.take i).map quoteL).map mkW) (ws.map mkW) (ws.length : Int) (i : Int) = some (mkW (printL ws)) := by
  intro n
  induction n with
  | zero =>
    intro k i hn hi hk
    obtain ⟨k, rfl⟩ : ∃ m, k = m + 1 := ⟨k - 1, by omega⟩
    simp only [lex_Print.l0]
    rw [if_neg (by omega), List.take_of_length_le (by omega), join_of _ (by simp; omega) hj]
    rfl
  | succ n ih =>
    intro k i hn hi hk
    obtain ⟨k, rfl⟩ : ∃ m, k = m + 1 := ⟨k - 1, by omega⟩
    simp only [lex_Print.l0]
    by_cases hlt : i < ws.length
    · have hih := ih k (i + 1) (by omega) (by omega) (by omega)
      have e1 := w64_add i 1 (by omega)
      rw [show ((1 : Nat) : Int) = 1 from rfl] at e1
      have h1 : (i : Int) < (ws.length : Int) := by omega
      have h0 : (0 : Int) ≤ (i : Int) := by omega
      have h2 : (i : Int) < ((ws.map mkW).length : Int) := by rw [List.length_map]; exact h1
      have h3 : (((ws.take i).map quoteL).map mkW).length < 8796093022208 := by simp; omega
      have hlt2 : i < (ws.map mkW).length := by rw [List.length_map]; exact hlt
      have hrd : rdOf ByteArray.empty (ws.map mkW) (i : Int) = mkW ws[i] := by rw [rd_at (d := ByteArray.empty) _ i hlt2, List.getElem_map]
      have hsz : (mkW ws[i]).size ≤ 1099511627776 := by
        have h5 := hw ws[i] (List.getElem_mem hlt)
        have h6 : (mkW ws[i]).size = ws[i].length := by simp [mkW, ByteArray.size]
        omega
      have htk : ((ws.take i).map quoteL).map mkW ++ [mkW (quoteL ws[i])] = ((ws.take (i + 1)).map quoteL).map mkW := by
        rw [List.take_succ_eq_append_getElem hlt, List.map_append, List.map_append]; rfl
      rw [if_pos h1, if_pos h0, if_pos h2, hrd, quote_of _ hsz, Option.bind_some, if_pos h3, quoteW_mk, htk, e1, hih]
    · rw [if_neg (by omega), List.take_of_length_le (by omega), join_of _ (by simp; omega) hj]
      rfl
theorem print_all (ws : List (List UInt8)) (hw : ∀ w ∈ ws, w.length ≤ 1048576) (hl : ws.length ≤ 1048576) (hj : (printL ws).length ≤ 4294967296) (k : Nat) (hk : ws.length < k) : lex_Print.f k (ws.map mkW) = some (mkW (printL ws)) := by
  unfold lex_Print.f
  have := print_loop ws hw hl hj ws.length k 0 (by omega) (by omega) hk
  rw [List.length_map]
  simpa using this
theorem chars_of (x : ByteArray) : x.toList = x.data.toList := by
  obtain ⟨⟨l⟩⟩ := x
  exact ByteArray.toList_mk _
theorem rplain_loop (s : ByteArray) (hs : s.size ≤ 1048576) : ∀ (n k i : Nat), s.size - i ≤ n → i ≤ s.size → n < k →
    smithyref15_plain.l0 k s (i : Int) = some (if (s.data.toList.drop i).any odd = true then false else (s.toList != ([] : List UInt8))) := by
  intro n
  induction n with
  | zero =>
    intro k i hn hi hk
    obtain ⟨k, rfl⟩ : ∃ m, k = m + 1 := ⟨k - 1, by omega⟩
    simp only [smithyref15_plain.l0]
    rw [if_neg (by omega), List.drop_eq_nil_of_le (by simp; omega), List.any_nil, if_neg Bool.false_ne_true]
  | succ n ih =>
    intro k i hn hi hk
    obtain ⟨k, rfl⟩ : ∃ m, k = m + 1 := ⟨k - 1, by omega⟩
    simp only [smithyref15_plain.l0]
    by_cases hlt : i < s.size
    · obtain ⟨c, hc⟩ : ∃ c, s[i]'hlt = c := ⟨_, rfl⟩
      have hd := drop_of s i hlt
      rw [hc] at hd
      have hih := ih k (i + 1) (by omega) (by omega) (by omega)
      have h1 : (i : Int) < (s.size : Int) := by omega
      have h0 : (0 : Int) ≤ (i : Int) := by omega
      have n6 : i + 1 ≤ 4611686018427387904 := by omega
      have e1 := w64_add i 1 n6
      rw [show ((1 : Nat) : Int) = 1 from rfl] at e1
      rw [if_pos h1, if_pos h0, bt_of s i hlt, hc, e1, hd, List.any_cons]
      have hbl : smithyref15_blank.f (c.toNat : Int) = some (isB c) := blank_of c
      rw [hbl, Option.bind_some]
      have hodd : odd c = (isB c || (c == 10 || (c == 34 || c == 92))) := by
        unfold odd isB
        simp only [List.contains_cons, List.contains_nil, Bool.or_false]
        cases (c == 32) <;> cases (c == 9) <;> rfl
      rw [hodd]
      cases hb : isB c
      · rw [if_neg Bool.false_ne_true, Bool.false_or]
        by_cases h10 : c = 10
        · rw [if_pos (c10.2 h10), if_pos (by simp [h10])]
        · rw [if_neg (fun e => h10 (c10.1 e))]
          by_cases h34 : c = 34
          · rw [if_pos (c34.2 h34), if_pos (by simp [h34])]
          · rw [if_neg (fun e => h34 (c34.1 e))]
            by_cases h92 : c = 92
            · rw [if_pos (c92.2 h92), if_pos (by simp [h92])]
            · rw [if_neg (fun e => h92 (c92.1 e)), hih]
              have : (c == 10 || (c == 34 || c == 92)) = false := by simp [h10, h34, h92]
              rw [this, Bool.false_or]
      · rw [if_pos rfl, Bool.true_or, Bool.true_or, if_pos rfl]
    · rw [if_neg (by omega), List.drop_eq_nil_of_le (by simp; omega), List.any_nil, if_neg Bool.false_ne_true]
theorem rplain_all (s : ByteArray) (hs : s.size ≤ 1048576) (k : Nat) (hk : 1048576 < k) : smithyref15_plain.f k s = some (plainL s.data.toList) := by
  unfold smithyref15_plain.f plainL
  have := rplain_loop s hs s.size k 0 (by omega) (by omega) (by omega)
  rw [show ((0 : Nat) : Int) = 0 from rfl] at this
  rw [this, List.drop_zero, chars_of]
  cases (s.data.toList.any odd)
  · rw [if_neg Bool.false_ne_true]
    cases s.data.toList <;> rfl
  · simp
theorem mkW_app (a b : List UInt8) : mkW a ++ mkW b = mkW (a ++ b) := by
  apply ByteArray.ext
  simp [mkW]
theorem mkW_size (a : List UInt8) : (mkW a).size = a.length := by simp [mkW, ByteArray.size]
theorem rquote_loop (s : ByteArray) (hs : s.size ≤ 1048576) : ∀ (n k i : Nat) (acc : List UInt8), s.size - i ≤ n → i ≤ s.size → n < k → acc.length ≤ 2 * i + 1 →
    smithyref15_Quote.l0 k s (mkW acc) (i : Int) = some (mkW (acc ++ (escL (s.data.toList.drop i) ++ [34]))) := by
  intro n
  induction n with
  | zero =>
    intro k i acc hn hi hk ha
    obtain ⟨k, rfl⟩ : ∃ m, k = m + 1 := ⟨k - 1, by omega⟩
    simp only [smithyref15_Quote.l0]
    rw [if_neg (by omega), List.drop_eq_nil_of_le (by simp; omega), mkW_size, if_pos (by omega)]
    show some (mkW acc ++ mkW [34]) = _
    rw [mkW_app]
    rfl
  | succ n ih =>
    intro k i acc hn hi hk ha
    obtain ⟨k, rfl⟩ : ∃ m, k = m + 1 := ⟨k - 1, by omega⟩
    simp only [smithyref15_Quote.l0]
    by_cases hlt : i < s.size
    · obtain ⟨c, hc⟩ : ∃ c, s[i]'hlt = c := ⟨_, rfl⟩
      have hd := drop_of s i hlt
      rw [hc] at hd
      have h1 : (i : Int) < (s.size : Int) := by omega
      have h0 : (0 : Int) ≤ (i : Int) := by omega
      have n6 : i + 1 ≤ 4611686018427387904 := by omega
      have f2 : acc.length + 2 ≤ 9223372036854775807 := by omega
      have f1 : acc.length + 1 ≤ 9223372036854775807 := by omega
      have g1 : (i : Int) ≤ ((i + 1 : Nat) : Int) := by omega
      have g2 : ((i + 1 : Nat) : Int) ≤ (s.size : Int) := by omega
      have hstep : ∀ x : List UInt8, x.length ≤ 2 → escB c = x → smithyref15_Quote.l0 k s (mkW acc ++ mkW x) ((i + 1 : Nat) : Int) = some (mkW (acc ++ (escL (c :: s.data.toList.drop (i + 1)) ++ [34]))) := by
        intro x hx he
        rw [mkW_app, ih k (i + 1) (acc ++ x) (by omega) (by omega) (by omega) (by rw [List.length_append]; omega)]
        simp [escL, he, List.append_assoc]
      have hex := ext_eq s i (i + 1) (by omega)
      rw [hd, show i + 1 - i = 1 by omega] at hex
      have hx1 : s.extract i (i + 1) = mkW [c] := hex
      have e1 := w64_add i 1 n6
      rw [show ((1 : Nat) : Int) = 1 from rfl] at e1
      rw [if_pos h1, if_pos h0, bt_of s i hlt, hc, e1, hd, mkW_size]
      by_cases h34 : c = 34
      · rw [if_pos (c34.2 h34), if_pos f2]
        exact hstep [92, 34] (by decide) (by rw [h34]; rfl)
      · rw [if_neg (fun e => h34 (c34.1 e))]
        by_cases h92 : c = 92
        · rw [if_pos (c92.2 h92), if_pos f2]
          exact hstep [92, 92] (by decide) (by rw [h92]; rfl)
        · rw [if_neg (fun e => h92 (c92.1 e))]
          by_cases h10 : c = 10
          · rw [if_pos (c10.2 h10), if_pos f2]
            exact hstep [92, 110] (by decide) (by rw [h10]; rfl)
          · rw [if_neg (fun e => h10 (c10.1 e)), if_pos g1, if_pos g2, Int.toNat_natCast, Int.toNat_natCast, hx1, mkW_size, if_pos (by exact f1)]
            exact hstep [c] (by simp) (by unfold escB; rw [if_neg h34, if_neg h92, if_neg h10])
    · rw [if_neg (by omega), List.drop_eq_nil_of_le (by simp; omega), mkW_size, if_pos (by omega)]
      show some (mkW acc ++ mkW [34]) = _
      rw [mkW_app]
      rfl
theorem rquote_all (s : ByteArray) (hs : s.size ≤ 1048576) (k : Nat) (hk : 1048577 < k) : smithyref15_Quote.f k s = some (quoteW s) := by
  unfold smithyref15_Quote.f
  rw [rplain_all s hs k (by omega), Option.bind_some]
  unfold quoteW quoteL
  by_cases hp : plainL s.data.toList = true
  · rw [if_pos hp, if_pos hp]
  · rw [if_neg hp, if_neg hp]
    have := rquote_loop s hs s.size k 0 [34] (by omega) (by omega) (by omega) (by simp)
    exact this
theorem joinTail_snoc (sep : List UInt8) (r : List (List UInt8)) (y : List UInt8) : Lib.joinTail sep (r ++ [y]) = Lib.joinTail sep r ++ sep ++ y := by
  simp [Lib.joinTail, List.append_assoc]
theorem printL_snoc (ws : List (List UInt8)) (w : List UInt8) (h : 0 < ws.length) : printL (ws ++ [w]) = printL ws ++ [32] ++ quoteL w := by
  cases ws with
  | nil => simp at h
  | cons a r =>
    unfold printL
    rw [List.cons_append, List.map_cons, List.map_cons, Lib.join_cons, Lib.join_cons, List.map_append, List.map_cons, List.map_nil, joinTail_snoc]
    simp [List.append_assoc]
theorem rprint_loop (ws : List (List UInt8)) (hw : ∀ w ∈ ws, w.length ≤ 1048576) (hl : ws.length ≤ 1048576) (hlens : Lib.lens ws ≤ 1048576) : ∀ (n k i : Nat), ws.length - i ≤ n → i ≤ ws.length → n + 1048580 < k →
    smithyref15_Print.l0 k (mkW (printL (ws.take i))) (ws.map mkW) (ws.length : Int) (i : Int) = some (mkW (printL ws)) := by
  intro n
  induction n with
  | zero =>
    intro k i hn hi hk
    obtain ⟨k, rfl⟩ : ∃ m, k = m + 1 := ⟨k - 1, by omega⟩
    simp only [smithyref15_Print.l0]
    rw [if_neg (by omega), List.take_of_length_le (by omega)]
  | succ n ih =>
    intro k i hn hi hk
    obtain ⟨k, rfl⟩ : ∃ m, k = m + 1 := ⟨k - 1, by omega⟩
    simp only [smithyref15_Print.l0]
    by_cases hlt : i < ws.length
    · have hih := ih k (i + 1) (by omega) (by omega) (by omega)
      have h1 : (i : Int) < (ws.length : Int) := by omega
      have h0 : (0 : Int) ≤ (i : Int) := by omega
      have h2 : (i : Int) < ((ws.map mkW).length : Int) := by rw [List.length_map]; exact h1
      have hlt2 : i < (ws.map mkW).length := by rw [List.length_map]; exact hlt
      have hrd : rdOf ByteArray.empty (ws.map mkW) (i : Int) = mkW ws[i] := by rw [rd_at (d := ByteArray.empty) _ i hlt2, List.getElem_map]
      have h5 := hw ws[i] (List.getElem_mem hlt)
      have hsz : (mkW ws[i]).size ≤ 1048576 := by rw [mkW_size]; exact h5
      have hq := rquote_all (mkW ws[i]) hsz k (by omega)
      rw [quoteW_mk] at hq
      have hql := quoteL_len ws[i]
      have hpl := printL_len (ws.take i)
      have hlt3 := Lib.lens_take_le ws i
      have htl : (ws.take i).length = i := by rw [List.length_take]; omega
      have f1 : (printL (ws.take i)).length + 1 ≤ 9223372036854775807 := by omega
      have f2 : (printL (ws.take i)).length + 1 + (quoteL ws[i]).length ≤ 9223372036854775807 := by omega
      have f3 : (printL (ws.take i)).length + (quoteL ws[i]).length ≤ 9223372036854775807 := by omega
      have n6 : i + 1 ≤ 4611686018427387904 := by omega
      have htk : ws.take (i + 1) = ws.take i ++ [ws[i]] := List.take_succ_eq_append_getElem hlt
      rw [htk] at hih
      by_cases hi0 : i = 0
      · subst hi0
        have h3 : ¬ (((0 : Nat) : Int) > 0) := by decide
        have e1 := w64_add 0 1 n6
        rw [show ((1 : Nat) : Int) = 1 from rfl] at e1
        have e0 : mkW (printL (ws.take 0)) ++ mkW (quoteL ws[0]) = mkW (printL (ws.take 0 ++ [ws[0]])) := by
          rw [mkW_app, List.take_zero, List.nil_append]
          simp [printL, Lib.join_nil, Lib.join_one]
        rw [if_pos h1, if_pos h0, if_pos h2, if_neg h3, hrd, hq, Option.bind_some, mkW_size, mkW_size, if_pos f3, e1, e0]
        exact hih
      · have h3 : ((i : Nat) : Int) > 0 := by omega
        have hsn := printL_snoc (ws.take i) ws[i] (by omega)
        have e1 := w64_add i 1 n6
        rw [show ((1 : Nat) : Int) = 1 from rfl] at e1
        have e0 : mkW (printL (ws.take i)) ++ (⟨#[32]⟩ : ByteArray) ++ mkW (quoteL ws[i]) = mkW (printL (ws.take i ++ [ws[i]])) := by
          rw [hsn, ← mkW_app, ← mkW_app]
          rfl
        rw [if_pos h1, if_pos h0, if_pos h2, if_pos h3, hrd, mkW_size, if_pos f1, hq, Option.bind_some, mkW_size, if_pos f2, e0, e1, hih]
    · rw [if_neg (by omega), List.take_of_length_le (by omega)]
theorem rprint_all (ws : List (List UInt8)) (hw : ∀ w ∈ ws, w.length ≤ 1048576) (hl : ws.length ≤ 1048576) (hlens : Lib.lens ws ≤ 1048576) (k : Nat) (hk : 2097160 < k) : smithyref15_Print.f k (ws.map mkW) = some (mkW (printL ws)) := by
  unfold smithyref15_Print.f
  have := rprint_loop ws hw hl hlens ws.length k 0 (by omega) (by omega) (by omega)
  rw [List.length_map]
  exact this
theorem mk_of (l : List ByteArray) : (l.map (·.data.toList)).map mkW = l := by
  induction l with
  | nil => rfl
  | cons x r ih => rw [List.map_cons, List.map_cons, ih]; rfl
theorem LexPrints (l : List ByteArray) (a1 : ByteArray) (h : Lib.lens (l.map (·.data.toList)) + l.length + a1.size ≤ 1048576) : ∃ k, smithylaw15_LexPrints.f k l a1 = some true := by
  refine ⟨4000000, ?_⟩
  obtain ⟨ws, hws⟩ : ∃ ws, l.map (·.data.toList) = ws := ⟨_, rfl⟩
  have hl : ws.map mkW = l := by rw [← hws, mk_of]
  have hlen : ws.length = l.length := by rw [← hws, List.length_map]
  rw [hws] at h
  subst hl
  have hp3 := printL_len ws
  have h4 : ∀ w ∈ ws, w.length ≤ 1048576 := fun w hw => by have := lens_mem ws w hw; omega
  have hp := print_all ws h4 (by omega) (by omega) 4000000 (by omega)
  have hr := rprint_all ws h4 (by omega) (by omega) 4000000 (by omega)
  have hsm := small_ok 4000000 (by omega)
  have hq1 := quote_of a1 (by omega)
  have hq2 := rquote_all a1 (by omega) 4000000 (by omega)
  have hown : smithyplain_Own.f (ws.map mkW) = some (ws.map mkW) := by
    unfold smithyplain_Own.f
    rw [if_pos (by show 0 + _ < _; omega)]
    rfl
  unfold smithylaw15_LexPrints.f
  rw [hown, Option.bind_some, hp, Option.bind_some, hr, Option.bind_some, if_pos rfl, hq1, Option.bind_some, hq2, Option.bind_some, if_pos rfl, texts_refl _ _ (by rw [List.length_map]; omega) (by rw [List.length_map]; omega), Option.bind_some, if_pos rfl, hsm]
  rfl

end Go.Proofs.Ytpiafpkpdbknfaa.Pure
