/- The plain law under CmdAgain: what is read from words is a right command whose words are these, but for a fail with 1. Conditions: none beyond the statement's own. -/
import Derived.Test.YtpiafpkpdbknfaaGreatDoorPCmdAgainx6
import Derived.Test.YtpiafpkpdbknfaaGreatDoorSName
namespace Go.Proofs.YtpiafpkpdbknfaaGreatDoor.Pure
open Go.RowKit Go.Proofs.YtpiafpkpdbknfaaGreatDoor.PCmdAgain Go.Proofs.YtpiafpkpdbknfaaGreatDoorW.PrintWords Go.Proofs.YtpiafpkpdbknfaaGreatDoorW.PrintLast Go.Proofs.YtpiafpkpdbknfaaGreatDoor.Sup
set_option linter.unusedVariables false
set_option linter.unusedSimpArgs false

theorem rd_at (l : List ByteArray) (i : Nat) (h : i < l.length) : rdOf ByteArray.empty l (i : Int) = l[i] := by
  simp [rdOf, h]
theorem w64p {x : Int} (h0 : 0 ≤ x) (h : x ≤ 4611686018427387904) : wrap64 x = x := by unfold wrap64; omega
theorem w64i (i : Nat) (h : i ≤ 4611686018427387000) : wrap64 ((i : Int) + 1) = ((i + 1 : Nat) : Int) := by rw [w64p (by omega) (by omega)]; rfl
theorem btn (s : ByteArray) (i : Nat) (h : i < s.size) : bt s (i : Int) = ((s.data.toList[i]'(by simpa using h)).toNat : Int) := by simp [bt, h]; rfl
/-- Is a text a name? -/
def nameB (s : ByteArray) : Bool := s.data.toList.all nameC && (decide (0 < s.size) && decide (s.size ≤ 64))
theorem letter_all : ∀ n : Nat, n < 256 → names_letter.f (n : Int) = some (nameN (n : Int)) := by decide +kernel
theorem letter_of (c : UInt8) : names_letter.f (c.toNat : Int) = some (nameC c) := letter_all c.toNat (UInt8.toNat_lt c)
theorem drop_all {l : List UInt8} {i : Nat} (h : i < l.length) : (l.drop i).all nameC = (nameC l[i] && (l.drop (i + 1)).all nameC) := by
  rw [List.drop_eq_getElem_cons h, List.all_cons]
theorem check_loop (s : ByteArray) (hs : s.size ≤ 4294967296) : ∀ (n k i : Nat), s.size - i ≤ n → i ≤ s.size → n < k → names_Check.l0 k s (s.size : Int) (i : Int) = some (if (s.data.toList.drop i).all nameC then 0 else 3) := by
  intro n
  induction n with
  | zero =>
    intro k i hn hi hk
    obtain ⟨k, rfl⟩ : ∃ m, k = m + 1 := ⟨k - 1, by omega⟩
    simp only [names_Check.l0]
    rw [if_neg (by omega), List.drop_of_length_le (by simp; omega)]
    rfl
  | succ n ih =>
    intro k i hn hi hk
    obtain ⟨k, rfl⟩ : ∃ m, k = m + 1 := ⟨k - 1, by omega⟩
    simp only [names_Check.l0]
    by_cases hlt : i < s.size
    · have hl : i < s.data.toList.length := by simpa using hlt
      have h1 : (i : Int) < (s.size : Int) := by omega
      have h0 : (0 : Int) ≤ (i : Int) := by omega
      rw [if_pos h1, if_pos h0, if_pos h1, btn s i hlt, letter_of, Option.bind_some, drop_all hl]
      cases hc : nameC s.data.toList[i] with
      | true => rw [if_pos rfl, w64i i (by omega), ih k (i + 1) (by omega) (by omega) (by omega), Bool.true_and]
      | false => rfl
    · rw [if_neg (by omega), List.drop_of_length_le (by simp; omega)]
      rfl
theorem check_of (s : ByteArray) (k : Nat) (hk : 80 < k) : names_Check.f k s = some (if nameB s then 0 else 3) := by
  obtain ⟨k, rfl⟩ : ∃ m, k = m + 1 := ⟨k - 1, by omega⟩
  unfold names_Check.f nameB
  by_cases h0 : (s.size : Int) = 0
  · rw [if_pos h0]
    simp only [names_Check.j0]
    rw [if_pos trivial, decide_eq_false (show ¬ 0 < s.size by omega), Bool.false_and, Bool.and_false]
    rfl
  · rw [if_neg h0, decide_eq_true (show 0 < s.size by omega), Bool.true_and]
    simp only [names_Check.j0]
    by_cases h6 : s.size ≤ 64
    · have hl := check_loop s (by omega) 64 k 0 (by omega) (by omega) (by omega)
      rw [if_neg (by simp; omega), show names_Check.l0 k s (s.size : Int) 0 = _ from hl, decide_eq_true h6, Bool.and_true]
      rfl
    · rw [if_pos (by simp; omega), decide_eq_false h6, Bool.and_false]
      rfl
theorem files_loop (l : List ByteArray) (hl : l.length ≤ 4294967296) : ∀ (n k i : Nat), l.length - i ≤ n → i ≤ l.length → n + 90 < k → cmd_files.l0 k l (l.length : Int) (i : Int) = some (if (l.drop i).all nameB then 0 else 3) := by
  intro n
  induction n with
  | zero =>
    intro k i hn hi hk
    obtain ⟨k, rfl⟩ : ∃ m, k = m + 1 := ⟨k - 1, by omega⟩
    simp only [cmd_files.l0]
    rw [if_neg (by omega), List.drop_of_length_le (by omega)]
    rfl
  | succ n ih =>
    intro k i hn hi hk
    obtain ⟨k, rfl⟩ : ∃ m, k = m + 1 := ⟨k - 1, by omega⟩
    simp only [cmd_files.l0]
    by_cases hlt : i < l.length
    · have h1 : (i : Int) < (l.length : Int) := by omega
      have h0 : (0 : Int) ≤ (i : Int) := by omega
      rw [if_pos h1, if_pos h0, if_pos h1, rd_at l i hlt, check_of _ k (by omega), Option.bind_some, List.drop_eq_getElem_cons hlt, List.all_cons]
      cases hc : nameB l[i] with
      | true => rw [if_pos rfl, if_pos rfl, w64i i (by omega), ih k (i + 1) (by omega) (by omega) (by omega), Bool.true_and]
      | false => rfl
    · rw [if_neg (by omega), List.drop_of_length_le (by omega)]
      rfl
theorem files_of (l : List ByteArray) (k : Nat) (hl : l.length ≤ 4294967296) (hk : l.length + 90 < k) : cmd_files.f k l = some (if l.all nameB then 0 else 3) :=
  files_loop l hl l.length k 0 (by omega) (by omega) hk
theorem toList_ne {a b : ByteArray} (h : a ≠ b) : ¬ a.toList = b.toList := by
  intro e
  rw [ByteArray.toList_eq, ByteArray.toList_eq] at e
  exact h (ByteArray.ext (Array.ext' e))
/-- The digits of a small number. -/
def dl (v : Nat) : List UInt8 := if v < 10 then [UInt8.ofNat (48 + v)] else if v < 100 then [UInt8.ofNat (48 + v / 10), UInt8.ofNat (48 + v % 10)] else [UInt8.ofNat (48 + v / 100), UInt8.ofNat (48 + v / 10 % 10), UInt8.ofNat (48 + v % 10)]
theorem itoa_dl (v : Nat) (h : v < 1000) : Lib.itoa (v : Int) = dl v := by
  rw [Lib.itoa_nonneg]
  unfold dl
  split
  · rename_i h1; exact Lib.decDigits_one h1
  · rename_i h1
    split
    · rename_i h2; exact Lib.decDigits_two h1 h2
    · rename_i h2
      rw [Lib.decDigits, dif_neg h1, Lib.decDigits_two (by omega) (by omega)]
      rw [Nat.div_div_eq_div_mul]
      rfl
set_option maxRecDepth 100000 in
theorem atoi_dl : ∀ v : Nat, v < 256 → 1 ≤ v → (match Lib.atoiAll (dl v) with | .ok u => u == (v : Int) | _ => false) = true := by decide +kernel
theorem atoi_dl' (v : Nat) (h : v < 256) (h1 : 1 ≤ v) : Lib.atoiAll (dl v) = .ok (v : Int) := by
  have := atoi_dl v h h1
  revert this
  cases Lib.atoiAll (dl v) with
  | ok u => intro e; rw [beq_iff_eq.1 e]
  | _ => intro e; cases e
theorem failN_dl (v : Nat) (h : v < 256) (h1 : 1 ≤ v) : failN ⟨(dl v).toArray⟩ = (v : Int) := by
  rw [failN_ok (v := (v : Int)) (by simpa using atoi_dl' v h h1), itoa_dl v (by omega), if_pos ⟨rfl, by omega, by omega⟩]
theorem fail_stat (s : ByteArray) (h : failN s ≠ 0) : ∃ v : Nat, v < 256 ∧ 1 ≤ v ∧ s = ⟨(dl v).toArray⟩ := by
  unfold failN at h
  split at h
  · rename_i v hv
    split at h
    · rename_i hq
      obtain ⟨n, rfl⟩ : ∃ n : Nat, v = (n : Int) := ⟨v.toNat, by omega⟩
      exact ⟨n, by omega, by omega, by rw [← hq.1, itoa_dl n (by omega)]⟩
    · exact absurd rfl h
  · exact absurd rfl h
theorem texts_loop (l : List ByteArray) (hl : l.length ≤ 4294967296) : ∀ (n k i : Nat), l.length - i ≤ n → i ≤ l.length → n < k → smithyplain_Texts.l0 k l l (l.length : Int) (i : Int) = some true := by
  intro n
  induction n with
  | zero =>
    intro k i hn hi hk
    obtain ⟨k, rfl⟩ : ∃ m, k = m + 1 := ⟨k - 1, by omega⟩
    simp only [smithyplain_Texts.l0]
    rw [if_neg (by omega)]
  | succ n ih =>
    intro k i hn hi hk
    obtain ⟨k, rfl⟩ : ∃ m, k = m + 1 := ⟨k - 1, by omega⟩
    simp only [smithyplain_Texts.l0]
    by_cases hlt : i < l.length
    · have hih := ih k (i + 1) (by omega) (by omega) (by omega)
      have h1 : (i : Int) < (l.length : Int) := by omega
      have h0 : (0 : Int) ≤ (i : Int) := by omega
      rw [if_pos h1, if_pos h0, if_pos h1, if_pos h1, if_true, w64i i (by omega), hih]
    · rw [if_neg (by omega)]
theorem texts_refl (l : List ByteArray) (k : Nat) (hl : l.length ≤ 4294967296) (hk : l.length < k) : smithyplain_Texts.f k l l = some true := by
  unfold smithyplain_Texts.f
  rw [if_pos rfl]
  exact texts_loop l hl l.length k 0 (by omega) (by omega) (by omega)
theorem same_refl (k : Nat) (o : Int) (d : ByteArray) (l ws : List ByteArray) (st : Int) (h1 : l.length ≤ 600) (h2 : ws.length ≤ 600) (hk : 1000 ≤ k) : smithylaw16_same.f k o d l ws st o d l ws st = some true := by
  unfold smithylaw16_same.f
  rw [if_pos rfl, if_pos rfl, if_pos rfl, texts_refl l k (by omega) (by omega), Option.bind_some, if_pos rfl, texts_refl ws k (by omega) (by omega)]
  rfl
set_option maxRecDepth 100000 in
theorem idx_word (k : Nat) (x : ByteArray) : ∃ i : Int, slices_Index_string_string.f (k + 20) headsL x = some i ∧ (i = -1 ∨ ∃ n : Nat, n < 8 ∧ i = (n : Int) ∧ headsL[n]? = some x) := by
  by_cases h0 : (⟨#[99, 111, 112, 121]⟩ : ByteArray) = x
  · subst h0; exact ⟨0, by kernel_rfl, .inr ⟨0, by decide, rfl, rfl⟩⟩
  by_cases h1 : (⟨#[99, 111, 110, 99, 97, 116]⟩ : ByteArray) = x
  · subst h1; exact ⟨1, by kernel_rfl, .inr ⟨1, by decide, rfl, rfl⟩⟩
  by_cases h2 : (⟨#[101, 99, 104, 111, 45, 116, 111]⟩ : ByteArray) = x
  · subst h2; exact ⟨2, by kernel_rfl, .inr ⟨2, by decide, rfl, rfl⟩⟩
  by_cases h3 : (⟨#[116, 111, 117, 99, 104]⟩ : ByteArray) = x
  · subst h3; exact ⟨3, by kernel_rfl, .inr ⟨3, by decide, rfl, rfl⟩⟩
  by_cases h4 : (⟨#[114, 101, 109, 111, 118, 101]⟩ : ByteArray) = x
  · subst h4; exact ⟨4, by kernel_rfl, .inr ⟨4, by decide, rfl, rfl⟩⟩
  by_cases h5 : (⟨#[116, 101, 115, 116, 45, 101, 120, 105, 115, 116, 115]⟩ : ByteArray) = x
  · subst h5; exact ⟨5, by kernel_rfl, .inr ⟨5, by decide, rfl, rfl⟩⟩
  by_cases h6 : (⟨#[102, 97, 105, 108]⟩ : ByteArray) = x
  · subst h6; exact ⟨6, by kernel_rfl, .inr ⟨6, by decide, rfl, rfl⟩⟩
  by_cases h7 : (⟨#[115, 97, 121]⟩ : ByteArray) = x
  · subst h7; exact ⟨7, by kernel_rfl, .inr ⟨7, by decide, rfl, rfl⟩⟩
  refine ⟨-1, ?_, .inl rfl⟩
  have st : ∀ (n i : Nat) (y : ByteArray), i < 8 → headsL[i]? = some y → ¬ y = x → slices_Index_string_string.l0 (n + 1) headsL x 8 (i : Int) = slices_Index_string_string.l0 n headsL x 8 ((i + 1 : Nat) : Int) := by
    intro n i y hi hy hne
    have hlen : i < headsL.length := hi
    have hg : headsL[i] = y := by rw [List.getElem?_eq_getElem hlen] at hy; exact Option.some.inj hy
    have h8 : (headsL.length : Int) = 8 := rfl
    simp only [slices_Index_string_string.l0]
    rw [if_pos (by omega), if_pos (by omega), if_pos (by omega), rd_at headsL i hlen, hg, if_neg (fun e => toList_ne hne e.symm), w64i i (by omega)]
  show slices_Index_string_string.l0 (k + 20) headsL x 8 ((0 : Nat) : Int) = _
  rw [st (k + 19) 0 _ (by decide) rfl h0, st (k + 18) 1 _ (by decide) rfl h1, st (k + 17) 2 _ (by decide) rfl h2, st (k + 16) 3 _ (by decide) rfl h3, st (k + 15) 4 _ (by decide) rfl h4, st (k + 14) 5 _ (by decide) rfl h5, st (k + 13) 6 _ (by decide) rfl h6, st (k + 12) 7 _ (by decide) rfl h7]
  rfl
theorem first_two (k : Nat) : cmd_first.f (k + 5) [0, 0] = some 0 := by kernel_rfl
/-- Whether a command is right, and its words: by its kind. -/
theorem files1 (k : Nat) (d : ByteArray) (hd : nameB d = true) (hk : 200 ≤ k) : cmd_files.f k [d] = some 0 := by
  rw [files_of [d] k (by simp) (by simp; omega)]
  simp [hd]
theorem check_1 (k : Nat) (a d : ByteArray) (ha : nameB a = true) (hd : nameB d = true) (hk : 2000 ≤ k) : cmd_Check.f k 1 d [a] [] 0 = some 0 := by
  unfold cmd_Check.f
  rw [if_pos ⟨by simp, by simp⟩, show cmd_Check.shape 1 d [a] [] 0 = 1 from rfl]
  show cmd_copying_right.f k a d = _
  unfold cmd_copying_right.f
  rw [files_of [d, a] k (by simp) (by simp; omega)]
  simp [ha, hd]
theorem check_2 (k : Nat) (d : ByteArray) (ws : List ByteArray) (hd : nameB d = true) (hw : ws.all nameB = true) (h1 : 1 ≤ ws.length) (h2 : ws.length ≤ 64) (hk : 2000 ≤ k) : cmd_Check.f k 2 d ws [] 0 = some 0 := by
  unfold cmd_Check.f
  rw [if_pos ⟨by omega, by simp⟩, show cmd_Check.shape 2 d ws [] 0 = 2 by unfold cmd_Check.shape; rw [if_neg (fun h => absurd h.1 (by decide)), if_pos ⟨rfl, rfl, rfl, by omega⟩]]
  show cmd_joining_right.f k d ws = _
  obtain ⟨k, rfl⟩ : ∃ m, k = m + 6 := ⟨k - 6, by omega⟩
  unfold cmd_joining_right.f
  rw [if_neg (by omega)]
  simp only [cmd_joining_right.j0]
  rw [if_neg (by simp; omega), files1 (k + 5) d hd (by omega), Option.bind_some, files_of ws (k + 5) (by omega) (by omega), if_pos hw, Option.bind_some, first_two]
  rfl
theorem few_of (ws : List ByteArray) (h : ws.length ≤ 512) : cmd_few.f ws = some 0 := by
  unfold cmd_few.f
  rw [if_neg (by omega)]
theorem check_3 (k : Nat) (d : ByteArray) (ws : List ByteArray) (hd : nameB d = true) (h2 : ws.length ≤ 512) (hk : 2000 ≤ k) : cmd_Check.f k 3 d [] ws 0 = some 0 := by
  unfold cmd_Check.f
  rw [if_pos ⟨by simp, by omega⟩, show cmd_Check.shape 3 d [] ws 0 = 3 by unfold cmd_Check.shape; rw [if_neg (fun h => absurd h.1 (by decide)), if_neg (fun h => absurd h.1 (by decide)), if_pos ⟨rfl, rfl, rfl, by omega⟩]]
  show cmd_echoing_right.f k d ws = _
  obtain ⟨k, rfl⟩ : ∃ m, k = m + 5 := ⟨k - 5, by omega⟩
  unfold cmd_echoing_right.f
  rw [few_of ws h2, Option.bind_some, files1 (k + 5) d hd (by omega), Option.bind_some, first_two]
  rfl
theorem check_4 (k : Nat) (d : ByteArray) (hd : nameB d = true) (hk : 2000 ≤ k) : cmd_Check.f k 4 d [] [] 0 = some 0 := by
  unfold cmd_Check.f
  rw [if_pos ⟨by simp, by simp⟩, show cmd_Check.shape 4 d [] [] 0 = 4 from rfl]
  show cmd_touching_right.f k d = _
  unfold cmd_touching_right.f
  rw [files1 k d hd (by omega)]
  rfl
theorem check_5 (k : Nat) (d : ByteArray) (hd : nameB d = true) (hk : 2000 ≤ k) : cmd_Check.f k 5 d [] [] 0 = some 0 := by
  unfold cmd_Check.f
  rw [if_pos ⟨by simp, by simp⟩, show cmd_Check.shape 5 d [] [] 0 = 5 from rfl]
  show cmd_removing_right.f k d = _
  unfold cmd_removing_right.f
  rw [files1 k d hd (by omega)]
  rfl
theorem check_6 (k : Nat) (d : ByteArray) (hd : nameB d = true) (hk : 2000 ≤ k) : cmd_Check.f k 6 ByteArray.empty [d] [] 0 = some 0 := by
  unfold cmd_Check.f
  rw [if_pos ⟨by simp, by simp⟩, show cmd_Check.shape 6 ByteArray.empty [d] [] 0 = 6 from rfl]
  show cmd_testing_right.f k d = _
  unfold cmd_testing_right.f
  rw [files1 k d hd (by omega)]
  rfl
theorem check_7 (k : Nat) (st : Int) (h1 : 1 ≤ st) (h2 : st ≤ 255) : cmd_Check.f k 7 ByteArray.empty [] [] st = some 0 := by
  unfold cmd_Check.f
  rw [if_pos ⟨by simp, by simp⟩, show cmd_Check.shape 7 ByteArray.empty [] [] st = 7 by unfold cmd_Check.shape; rw [if_neg (fun h => absurd h.1 (by decide)), if_neg (fun h => absurd h.1 (by decide)), if_neg (fun h => absurd h.1 (by decide)), if_neg (fun h => absurd h.1 (by decide)), if_neg (fun h => absurd h.1 (by decide)), if_neg (fun h => absurd h.1 (by decide)), if_pos ⟨rfl, rfl, rfl, rfl⟩]]
  show cmd_failing_right.f st = _
  unfold cmd_failing_right.f
  rw [if_neg (by omega), if_neg (by omega)]
theorem check_8 (k : Nat) (ws : List ByteArray) (h2 : ws.length ≤ 512) : cmd_Check.f k 8 ByteArray.empty [] ws 0 = some 0 := by
  unfold cmd_Check.f
  rw [if_pos ⟨by simp, by omega⟩, show cmd_Check.shape 8 ByteArray.empty [] ws 0 = 8 by unfold cmd_Check.shape; rw [if_neg (fun h => absurd h.1 (by decide)), if_neg (fun h => absurd h.1 (by decide)), if_neg (fun h => absurd h.1 (by decide)), if_neg (fun h => absurd h.1 (by decide)), if_neg (fun h => absurd h.1 (by decide)), if_neg (fun h => absurd h.1 (by decide)), if_neg (fun h => absurd h.1 (by decide)), if_pos ⟨rfl, rfl, rfl, rfl, by omega⟩]]
  show cmd_saying_right.f ws = _
  unfold cmd_saying_right.f
  rw [few_of ws h2]
  rfl
/-- A command's kind: its fields are those of a right command, and its words are these. -/
inductive Kind : Int → ByteArray → List ByteArray → List ByteArray → Int → List ByteArray → Prop
  | copy (a d) (ha : nameB a = true) (hd : nameB d = true) : Kind 1 d [a] [] 0 [⟨#[99, 111, 112, 121]⟩, a, d]
  | concat (d ws) (hd : nameB d = true) (hw : ws.all nameB = true) (h1 : 1 ≤ ws.length) (h2 : ws.length ≤ 64) : Kind 2 d ws [] 0 (⟨#[99, 111, 110, 99, 97, 116]⟩ :: d :: ws)
  | echo (d ws) (hd : nameB d = true) (h2 : ws.length ≤ 512) : Kind 3 d [] ws 0 (⟨#[101, 99, 104, 111, 45, 116, 111]⟩ :: d :: ws)
  | touch (d) (hd : nameB d = true) : Kind 4 d [] [] 0 [⟨#[116, 111, 117, 99, 104]⟩, d]
  | remove (d) (hd : nameB d = true) : Kind 5 d [] [] 0 [⟨#[114, 101, 109, 111, 118, 101]⟩, d]
  | test (d) (hd : nameB d = true) : Kind 6 ByteArray.empty [d] [] 0 [⟨#[116, 101, 115, 116, 45, 101, 120, 105, 115, 116, 115]⟩, d]
  | fail1 : Kind 7 ByteArray.empty [] [] 1 [⟨#[102, 97, 105, 108]⟩]
  | fail (n : Nat) (h1 : 2 ≤ n) (h2 : n ≤ 255) : Kind 7 ByteArray.empty [] [] (n : Int) [⟨#[102, 97, 105, 108]⟩, ⟨(dl n).toArray⟩]
  | say (ws) (h2 : ws.length ≤ 512) : Kind 8 ByteArray.empty [] ws 0 (⟨#[115, 97, 121]⟩ :: ws)
theorem kind_check {o : Int} {d : ByteArray} {l ws : List ByteArray} {st : Int} {wl : List ByteArray} (h : Kind o d l ws st wl) (k : Nat) (hk : 2000 ≤ k) : cmd_Check.f k o d l ws st = some 0 := by
  cases h with
  | copy a d ha hd => exact check_1 k a d ha hd hk
  | concat d ws hd hw h1 h2 => exact check_2 k d l hd hw h1 h2 hk
  | echo d ws hd h2 => exact check_3 k d ws hd h2 hk
  | touch d hd => exact check_4 k d hd hk
  | remove d hd => exact check_5 k d hd hk
  | test d hd => exact check_6 k d hd hk
  | fail1 => exact check_7 k 1 (by decide) (by decide)
  | fail n h1 h2 => exact check_7 k n (by omega) (by omega)
  | say ws h2 => exact check_8 k ws h2
theorem kind_words {o : Int} {d : ByteArray} {l ws : List ByteArray} {st : Int} {wl : List ByteArray} (h : Kind o d l ws st wl) (k : Nat) (hk : 2000 ≤ k) : cmd_Words.f k o d l ws st = some (wl, 0) := by
  have hc := kind_check h k hk
  unfold cmd_Words.f
  rw [hc, Option.bind_some, if_pos rfl]
  cases h with
  | copy a d ha hd => rfl
  | concat d ws hd hw h1 h2 =>
    rw [show cmd_Check.shape 2 d l [] 0 = 2 by unfold cmd_Check.shape; rw [if_neg (fun h => absurd h.1 (by decide)), if_pos ⟨rfl, rfl, rfl, by omega⟩]]
    show (cmd_joining_words.f d l).bind _ = _
    unfold cmd_joining_words.f
    rw [Option.bind_some, if_pos (by simp; omega)]
    rfl
  | echo d ws hd h2 =>
    rw [show cmd_Check.shape 3 d [] ws 0 = 3 by unfold cmd_Check.shape; rw [if_neg (fun h => absurd h.1 (by decide)), if_neg (fun h => absurd h.1 (by decide)), if_pos ⟨rfl, rfl, rfl, by omega⟩]]
    show (cmd_echoing_words.f d ws).bind _ = _
    unfold cmd_echoing_words.f
    rw [Option.bind_some, if_pos (by simp; omega)]
    rfl
  | touch d hd => rfl
  | remove d hd => rfl
  | test d hd => rfl
  | fail1 => rfl
  | fail n h1 h2 =>
    show (cmd_failing_words.f (n : Int)).bind _ = _
    unfold cmd_failing_words.f
    rw [if_neg (by omega)]
    unfold strconv_Itoa_35.f
    rw [if_pos ⟨by omega, by omega⟩, Option.bind_some, itoa_dl n (by omega)]
    rfl
  | say ws h2 =>
    rw [show cmd_Check.shape 8 ByteArray.empty [] ws 0 = 8 by unfold cmd_Check.shape; rw [if_neg (fun h => absurd h.1 (by decide)), if_neg (fun h => absurd h.1 (by decide)), if_neg (fun h => absurd h.1 (by decide)), if_neg (fun h => absurd h.1 (by decide)), if_neg (fun h => absurd h.1 (by decide)), if_neg (fun h => absurd h.1 (by decide)), if_neg (fun h => absurd h.1 (by decide)), if_pos ⟨rfl, rfl, rfl, rfl, by omega⟩]]
    show (cmd_saying_words.f ws).bind _ = _
    unfold cmd_saying_words.f
    rw [Option.bind_some, if_pos (by simp; omega)]
    rfl
theorem named_kind (k : Nat) (fl : List ByteArray) (r : Int × ByteArray × List ByteArray × List ByteArray × Int × Int) (hl : fl.length ≤ 4294967296) (hk : fl.length + 90 < k) :
    (fl.all nameB = true ∧ cmd_Parse.named k fl r = some r) ∨ cmd_Parse.named k fl r = some (0, ByteArray.empty, [], [], 0, 3) := by
  unfold cmd_Parse.named
  rw [files_of fl k hl hk, Option.bind_some]
  cases h : fl.all nameB with
  | true => exact .inl ⟨rfl, rfl⟩
  | false => exact .inr rfl
def bad_ (er : Int) : Int × ByteArray × List ByteArray × List ByteArray × Int × Int := (0, ByteArray.empty, [], [], 0, er)
/-- What Parse answers is an error, or a right command whose words are these. -/
theorem parse_kind (k : Nat) (l0 : List ByteArray) (hs : ∀ x ∈ l0, x.size ≤ 140737488351232) (hk : 4000 ≤ k) :
    (∃ er : Int, er ≠ 0 ∧ cmd_Parse.f k l0 = some (bad_ er)) ∨
    ∃ o d l ws st wl, cmd_Parse.f k l0 = some (o, d, l, ws, st, 0) ∧ Kind o d l ws st wl ∧ ((o = 7 ∧ st = 1) ∨ wl = l0) := by
  cases l0 with
  | nil => exact .inl ⟨9, by decide, rfl⟩
  | cons x l =>
    simp only [cmd_Parse.f]
    by_cases hl : 514 < l.length + 1
    · rw [if_pos hl]
      exact .inl ⟨2, by decide, rfl⟩
    · rw [if_neg hl]
      obtain ⟨j, rfl⟩ : ∃ j, k = j + 20 := ⟨k - 20, by omega⟩
      obtain ⟨i, h1, hx⟩ := idx_word j x
      rw [h1, Option.bind_some]
      rcases hx with rfl | ⟨n, hn, rfl, hw⟩
      · rw [if_pos rfl]
        exact .inl ⟨160, by decide, rfl⟩
      · rw [if_neg (by omega), if_neg (show ¬ ((n : Int) < 0 ∨ 8 ≤ (n : Int)) by omega)]
        have hsl : ∀ y ∈ l, y.size ≤ 140737488351232 := fun y hy => hs y (List.mem_cons_of_mem _ hy)
        have hll : l.length ≤ 513 := by omega
        obtain ⟨b, hb⟩ : ∃ b, cmd_count.f (j + 20) ((n : Int) + 1) (l.length : Int) = some b := by
          have : n = 0 ∨ n = 1 ∨ n = 2 ∨ n = 3 ∨ n = 4 ∨ n = 5 ∨ n = 6 ∨ n = 7 := by omega
          rcases this with rfl | rfl | rfl | rfl | rfl | rfl | rfl | rfl
          · exact ⟨_, rfl⟩
          · show ∃ b, cmd_count.f (j + 20) 2 (l.length : Int) = some b
            unfold cmd_count.f
            rw [if_neg (by decide), if_pos (by decide)]
            split <;> exact ⟨_, rfl⟩
          · show ∃ b, cmd_count.f (j + 20) 3 (l.length : Int) = some b
            unfold cmd_count.f
            rw [if_neg (by decide), if_neg (by decide), if_pos (by decide)]
            split <;> exact ⟨_, rfl⟩
          all_goals exact ⟨_, rfl⟩
        rw [hb, Option.bind_some]
        cases b with
        | false => rw [if_pos rfl]; exact .inl ⟨160, by decide, rfl⟩
        | true =>
          rw [if_neg (by decide)]
          have : n = 0 ∨ n = 1 ∨ n = 2 ∨ n = 3 ∨ n = 4 ∨ n = 5 ∨ n = 6 ∨ n = 7 := by omega
          rcases this with rfl | rfl | rfl | rfl | rfl | rfl | rfl | rfl
          all_goals obtain rfl := Option.some.inj hw
          · have h2 : (l.length : Int) = 2 := by
              have h_ : some ((l.length : Int) == 2) = some true := hb
              exact beq_iff_eq.1 (Option.some.inj h_)
            match l, h2 with
            | [a, d], _ =>
              show (∃ er : Int, er ≠ 0 ∧ cmd_Parse.named (j + 20) [a, d] (1, d, [a], [], 0, 0) = some (bad_ er)) ∨ ∃ o d1 l ws st wl, cmd_Parse.named (j + 20) [a, d] (1, d, [a], [], 0, 0) = some (o, d1, l, ws, st, 0) ∧ _
              rcases named_kind (j + 20) [a, d] (1, d, [a], [], 0, 0) (by simp) (by simp; omega) with ⟨ha, e⟩ | e
              · simp at ha
                exact .inr ⟨_, _, _, _, _, _, e, .copy a d ha.1 ha.2, .inr rfl⟩
              · exact .inl ⟨3, by decide, e⟩
          · match l with
            | [] => cases hb
            | d :: ws =>
              have h_ : (if ((d :: ws).length : Int) ≥ 2 then some (decide (((d :: ws).length : Int) ≤ 65)) else some false) = some true := hb
              have hc : 1 ≤ ws.length ∧ ws.length ≤ 64 := by
                split at h_
                · have := of_decide_eq_true (Option.some.inj h_)
                  simp only [List.length_cons] at this
                  rename_i h2
                  simp only [List.length_cons] at h2
                  omega
                · cases h_
              show (∃ er : Int, er ≠ 0 ∧ cmd_Parse.named (j + 20) (d :: ws) (2, d, ws, [], 0, 0) = some (bad_ er)) ∨ ∃ o d1 l ws1 st wl, cmd_Parse.named (j + 20) (d :: ws) (2, d, ws, [], 0, 0) = some (o, d1, l, ws1, st, 0) ∧ _
              rcases named_kind (j + 20) (d :: ws) (2, d, ws, [], 0, 0) (by simp; omega) (by simp; omega) with ⟨ha, e⟩ | e
              · rw [List.all_cons, Bool.and_eq_true] at ha
                exact .inr ⟨_, _, _, _, _, _, e, .concat d ws ha.1 ha.2 hc.1 hc.2, .inr rfl⟩
              · exact .inl ⟨3, by decide, e⟩
          · match l with
            | [] => cases hb
            | d :: ws =>
              have hc : ws.length ≤ 512 := by simp at hll; omega
              show (∃ er : Int, er ≠ 0 ∧ cmd_Parse.named (j + 20) [d] (3, d, [], ws, 0, 0) = some (bad_ er)) ∨ ∃ o d1 l ws1 st wl, cmd_Parse.named (j + 20) [d] (3, d, [], ws, 0, 0) = some (o, d1, l, ws1, st, 0) ∧ _
              rcases named_kind (j + 20) [d] (3, d, [], ws, 0, 0) (by simp) (by simp; omega) with ⟨ha, e⟩ | e
              · simp at ha
                exact .inr ⟨_, _, _, _, _, _, e, .echo d ws ha hc, .inr rfl⟩
              · exact .inl ⟨3, by decide, e⟩
          · have h2 : (l.length : Int) = 1 := by
              have h_ : some ((l.length : Int) == 1) = some true := hb
              exact beq_iff_eq.1 (Option.some.inj h_)
            match l, h2 with
            | [d], _ =>
              show (∃ er : Int, er ≠ 0 ∧ cmd_Parse.named (j + 20) [d] (4, d, [], [], 0, 0) = some (bad_ er)) ∨ ∃ o d1 l ws1 st wl, cmd_Parse.named (j + 20) [d] (4, d, [], [], 0, 0) = some (o, d1, l, ws1, st, 0) ∧ _
              rcases named_kind (j + 20) [d] (4, d, [], [], 0, 0) (by simp) (by simp; omega) with ⟨ha, e⟩ | e
              · simp at ha
                exact .inr ⟨_, _, _, _, _, _, e, .touch d ha, .inr rfl⟩
              · exact .inl ⟨3, by decide, e⟩
          · have h2 : (l.length : Int) = 1 := by
              have h_ : some ((l.length : Int) == 1) = some true := hb
              exact beq_iff_eq.1 (Option.some.inj h_)
            match l, h2 with
            | [d], _ =>
              show (∃ er : Int, er ≠ 0 ∧ cmd_Parse.named (j + 20) [d] (5, d, [], [], 0, 0) = some (bad_ er)) ∨ ∃ o d1 l ws1 st wl, cmd_Parse.named (j + 20) [d] (5, d, [], [], 0, 0) = some (o, d1, l, ws1, st, 0) ∧ _
              rcases named_kind (j + 20) [d] (5, d, [], [], 0, 0) (by simp) (by simp; omega) with ⟨ha, e⟩ | e
              · simp at ha
                exact .inr ⟨_, _, _, _, _, _, e, .remove d ha, .inr rfl⟩
              · exact .inl ⟨3, by decide, e⟩
          · have h2 : (l.length : Int) = 1 := by
              have h_ : some ((l.length : Int) == 1) = some true := hb
              exact beq_iff_eq.1 (Option.some.inj h_)
            match l, h2 with
            | [d], _ =>
              show (∃ er : Int, er ≠ 0 ∧ cmd_Parse.named (j + 20) [d] (6, ByteArray.empty, [d], [], 0, 0) = some (bad_ er)) ∨ ∃ o d1 l ws1 st wl, cmd_Parse.named (j + 20) [d] (6, ByteArray.empty, [d], [], 0, 0) = some (o, d1, l, ws1, st, 0) ∧ _
              rcases named_kind (j + 20) [d] (6, ByteArray.empty, [d], [], 0, 0) (by simp) (by simp; omega) with ⟨ha, e⟩ | e
              · simp at ha
                exact .inr ⟨_, _, _, _, _, _, e, .test d ha, .inr rfl⟩
              · exact .inl ⟨3, by decide, e⟩
          · have h2 : (l.length : Int) ≤ 1 := by
              have h_ : some (decide ((l.length : Int) ≤ 1)) = some true := hb
              exact of_decide_eq_true (Option.some.inj h_)
            match l, h2 with
            | [], _ => exact .inr ⟨7, ByteArray.empty, [], [], 1, _, rfl, .fail1, .inl ⟨rfl, rfl⟩⟩
            | [s], _ =>
              have hz : s.size ≤ 140737488355328 := Nat.le_trans (hsl s (by simp)) (by decide)
              show (∃ er : Int, er ≠ 0 ∧ (if s.size ≤ 140737488355328 then (if failN s = 0 then cmd_Parse.bad 160 else some (7, ByteArray.empty, [], [], failN s, 0)) else none) = some (bad_ er)) ∨ ∃ o d1 l ws1 st wl, (if s.size ≤ 140737488355328 then (if failN s = 0 then cmd_Parse.bad 160 else some (7, ByteArray.empty, [], [], failN s, 0)) else none) = some (o, d1, l, ws1, st, 0) ∧ _
              rw [if_pos hz]
              by_cases hf : failN s = 0
              · rw [if_pos hf]
                exact .inl ⟨160, by decide, rfl⟩
              · rw [if_neg hf]
                obtain ⟨v, hv, hv1, rfl⟩ := fail_stat s hf
                rw [failN_dl v hv hv1]
                by_cases h1 : v = 1
                · subst h1
                  exact .inr ⟨7, ByteArray.empty, [], [], 1, _, rfl, .fail1, .inl ⟨rfl, rfl⟩⟩
                · exact .inr ⟨7, ByteArray.empty, [], [], (v : Int), _, rfl, .fail v (by omega) (by omega), .inr rfl⟩
          · have h2 : (l.length : Int) ≤ 512 := by
              have h_ : some (decide ((l.length : Int) ≤ 512)) = some true := hb
              exact of_decide_eq_true (Option.some.inj h_)
            exact .inr ⟨8, ByteArray.empty, [], l, 0, _, rfl, .say l (by omega), .inr rfl⟩
theorem kind_one {o : Int} {d : ByteArray} {l ws : List ByteArray} {st : Int} {wl : List ByteArray} (h : Kind o d l ws st wl) (ho : o = 7) (hst : st = 1) : wl.length = 1 := by
  cases h with
  | fail1 => rfl
  | fail n h1 h2 => omega
  | _ => omega
theorem kind_len {o : Int} {d : ByteArray} {l ws : List ByteArray} {st : Int} {wl : List ByteArray} (h : Kind o d l ws st wl) : wl.length ≤ 514 := by
  cases h <;> simp <;> omega
theorem CmdAgain_k (j : Nat) (l0 : List ByteArray) (hs : ∀ x ∈ l0, x.size ≤ 140737488351232) : smithylaw16_CmdAgain.f (j + 8002) l0 = some true := by
  unfold smithylaw16_CmdAgain.f
  rcases parse_kind (j + 8002) l0 hs (by omega) with ⟨er, he, h⟩ | ⟨o, d, l, ws, st, wl, h, hkd, hw⟩
  · rw [h, Option.bind_some]
    show (if er = 0 then _ else _) = _
    rw [if_neg he]
    show ((smithylaw16_same.f (j + 8002) 0 ByteArray.empty [] [] 0 0 ByteArray.empty [] [] 0).bind _) = _
    rw [same_refl (j + 8002) 0 ByteArray.empty [] [] 0 (by decide) (by decide) (by omega)]
    rfl
  · rw [h, Option.bind_some]
    show (if (0 : Int) = 0 then _ else _) = _
    rw [if_pos rfl]
    show ((cmd_Words.f (j + 8002) o d l ws st).bind _) = _
    rw [kind_words hkd (j + 8002) (by omega), Option.bind_some]
    show (if (0 : Int) = 0 then _ else _) = _
    rw [if_pos rfl]
    show ((cmd_Check.f (j + 8002) o d l ws st).bind _) = _
    rw [kind_check hkd (j + 8002) (by omega), Option.bind_some]
    show smithylaw16_CmdAgain.j0 (j + 8002) l0 wl false o d l ws st = _
    simp only [smithylaw16_CmdAgain.j0]
    rw [if_neg (by decide)]
    by_cases ho : o = 7 ∧ st = 1
    · rw [if_pos ho.1, beq_iff_eq.2 ho.2]
      simp only [smithylaw16_CmdAgain.j1]
      rw [if_pos trivial, kind_one hkd ho.1 ho.2]
      rfl
    · have e := hw.resolve_left ho
      subst e
      have hj : smithylaw16_CmdAgain.j1 (j + 8001) wl wl false = some true := by
        simp only [smithylaw16_CmdAgain.j1]
        rw [if_neg (by decide), texts_refl wl _ (by have := kind_len hkd; omega) (by have := kind_len hkd; omega)]
        rfl
      by_cases h7 : o = 7
      · rw [if_pos h7, beq_eq_false_iff_ne.2 (fun e => ho ⟨h7, e⟩)]
        exact hj
      · rw [if_neg h7]
        exact hj
theorem CmdAgain (l0 : List ByteArray) (hs : ∀ x ∈ l0, x.size ≤ 140737488351232) : smithylaw16_CmdAgain.f 8002 l0 = some true := CmdAgain_k 0 l0 hs
end Go.Proofs.YtpiafpkpdbknfaaGreatDoor.Pure
