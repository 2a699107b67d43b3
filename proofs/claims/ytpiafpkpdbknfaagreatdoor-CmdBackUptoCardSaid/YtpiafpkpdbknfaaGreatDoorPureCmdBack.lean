/- The plain law under CmdBack: a right command is read from its words, and from its line, as it was. Conditions: its texts are of at most 1048576 bytes each. -/
import Derived.Test.YtpiafpkpdbknfaaGreatDoorPCmdBackx6
import Derived.Test.YtpiafpkpdbknfaaGreatDoorSName
import Derived.Test.YtpiafpkpdbknfaaGreatDoorSWords
namespace Go.Proofs.YtpiafpkpdbknfaaGreatDoor.Pure
open Go.RowKit Go.Proofs.YtpiafpkpdbknfaaGreatDoor.PCmdBack Go.Proofs.YtpiafpkpdbknfaaGreatDoorW.PrintWords Go.Proofs.YtpiafpkpdbknfaaGreatDoorW.PrintLast Go.Proofs.YtpiafpkpdbknfaaGreatDoor.Sup
set_option linter.unusedVariables false
set_option linter.unusedSimpArgs false

theorem rd_at {d : ByteArray} (l : List ByteArray) (i : Nat) (h : i < l.length) : rdOf d l (i : Int) = l[i] := by
  simp [rdOf, h]
theorem w64p {x : Int} (h0 : 0 ≤ x) (h : x ≤ 4611686018427387904) : wrap64 x = x := by unfold wrap64; omega
theorem w64i (i : Nat) (h : i ≤ 4611686018427387000) : wrap64 ((i : Int) + 1) = ((i + 1 : Nat) : Int) := by rw [w64p (by omega) (by omega)]; rfl
theorem btn (s : ByteArray) (i : Nat) (h : i < s.size) : bt s (i : Int) = ((s.data.toList[i]'(by simpa using h)).toNat : Int) := by simp [bt, h]; rfl
/-- Is a text a name? -/
def nameB (s : ByteArray) : Bool := s.data.toList.all nameC && (decide (0 < s.size) && decide (s.size ≤ 64))
theorem letter_all : ∀ n : Nat, n < 256 → names_letter.f (n : Int) = some (nameN (n : Int)) := by decide +kernel
theorem letter_of (c : UInt8) : names_letter.f (c.toNat : Int) = some (nameC c) := letter_all c.toNat (UInt8.toNat_lt c)
theorem drop_all {l : List UInt8} {i : Nat} (h : i < l.length) : (l.drop i).all nameC = (nameC l[i] && (l.drop (i + 1)).all nameC) := by
  rw [List.drop_eq_getElem_cons h, List.all_cons]
theorem check_loop (s : ByteArray) (hs : s.size ≤ 4294967296) : ∀ (n k i : Nat), s.size - i ≤ n → i ≤ s.size → n < k → names_Check.l0 k s (s.size : Int) (i : Int) = some (if (s.data.toList.drop i).all nameC then 0 else 3) := by
  intro n
  induction n with
  | zero =>
    intro k i hn hi hk
    obtain ⟨k, rfl⟩ : ∃ m, k = m + 1 := ⟨k - 1, by omega⟩
    simp only [names_Check.l0]
    rw [if_neg (by omega), List.drop_of_length_le (by simp; omega)]
    rfl
  | succ n ih =>
    intro k i hn hi hk
    obtain ⟨k, rfl⟩ : ∃ m, k = m + 1 := ⟨k - 1, by omega⟩
    simp only [names_Check.l0]
    by_cases hlt : i < s.size
    · have hl : i < s.data.toList.length := by simpa using hlt
      have h1 : (i : Int) < (s.size : Int) := by omega
      have h0 : (0 : Int) ≤ (i : Int) := by omega
      rw [if_pos h1, if_pos h0, if_pos h1, btn s i hlt, letter_of, Option.bind_some, drop_all hl]
      cases hc : nameC s.data.toList[i] with
      | true => rw [if_pos rfl, w64i i (by omega), ih k (i + 1) (by omega) (by omega) (by omega), Bool.true_and]
      | false => rfl
    · rw [if_neg (by omega), List.drop_of_length_le (by simp; omega)]
      rfl
theorem check_of (s : ByteArray) (k : Nat) (hk : 80 < k) : names_Check.f k s = some (if nameB s then 0 else 3) := by
  obtain ⟨k, rfl⟩ : ∃ m, k = m + 1 := ⟨k - 1, by omega⟩
  unfold names_Check.f nameB
  by_cases h0 : (s.size : Int) = 0
  · rw [if_pos h0]
    simp only [names_Check.j0]
    rw [if_pos trivial, decide_eq_false (show ¬ 0 < s.size by omega), Bool.false_and, Bool.and_false]
    rfl
  · rw [if_neg h0, decide_eq_true (show 0 < s.size by omega), Bool.true_and]
    simp only [names_Check.j0]
    by_cases h6 : s.size ≤ 64
    · have hl := check_loop s (by omega) 64 k 0 (by omega) (by omega) (by omega)
      rw [if_neg (by simp; omega), show names_Check.l0 k s (s.size : Int) 0 = _ from hl, decide_eq_true h6, Bool.and_true]
      rfl
    · rw [if_pos (by simp; omega), decide_eq_false h6, Bool.and_false]
      rfl
theorem files_loop (l : List ByteArray) (hl : l.length ≤ 4294967296) : ∀ (n k i : Nat), l.length - i ≤ n → i ≤ l.length → n + 90 < k → cmd_files.l0 k l (l.length : Int) (i : Int) = some (if (l.drop i).all nameB then 0 else 3) := by
  intro n
  induction n with
  | zero =>
    intro k i hn hi hk
    obtain ⟨k, rfl⟩ : ∃ m, k = m + 1 := ⟨k - 1, by omega⟩
    simp only [cmd_files.l0]
    rw [if_neg (by omega), List.drop_of_length_le (by omega)]
    rfl
  | succ n ih =>
    intro k i hn hi hk
    obtain ⟨k, rfl⟩ : ∃ m, k = m + 1 := ⟨k - 1, by omega⟩
    simp only [cmd_files.l0]
    by_cases hlt : i < l.length
    · have h1 : (i : Int) < (l.length : Int) := by omega
      have h0 : (0 : Int) ≤ (i : Int) := by omega
      rw [if_pos h1, if_pos h0, if_pos h1, rd_at l i hlt, check_of _ k (by omega), Option.bind_some, List.drop_eq_getElem_cons hlt, List.all_cons]
      cases hc : nameB l[i] with
      | true => rw [if_pos rfl, if_pos rfl, w64i i (by omega), ih k (i + 1) (by omega) (by omega) (by omega), Bool.true_and]
      | false => rfl
    · rw [if_neg (by omega), List.drop_of_length_le (by omega)]
      rfl
theorem files_of (l : List ByteArray) (k : Nat) (hl : l.length ≤ 4294967296) (hk : l.length + 90 < k) : cmd_files.f k l = some (if l.all nameB then 0 else 3) :=
  files_loop l hl l.length k 0 (by omega) (by omega) hk
/-- The digits of a small number. -/
def dl (v : Nat) : List UInt8 := if v < 10 then [UInt8.ofNat (48 + v)] else if v < 100 then [UInt8.ofNat (48 + v / 10), UInt8.ofNat (48 + v % 10)] else [UInt8.ofNat (48 + v / 100), UInt8.ofNat (48 + v / 10 % 10), UInt8.ofNat (48 + v % 10)]
theorem itoa_dl (v : Nat) (h : v < 1000) : Lib.itoa (v : Int) = dl v := by
  rw [Lib.itoa_nonneg]
  unfold dl
  split
  · rename_i h1; exact Lib.decDigits_one h1
  · rename_i h1
    split
    · rename_i h2; exact Lib.decDigits_two h1 h2
    · rename_i h2
      rw [Lib.decDigits, dif_neg h1, Lib.decDigits_two (by omega) (by omega)]
      rw [Nat.div_div_eq_div_mul]
      rfl
set_option maxRecDepth 100000 in
theorem atoi_dl : ∀ v : Nat, v < 256 → 1 ≤ v → (match Lib.atoiAll (dl v) with | .ok u => u == (v : Int) | _ => false) = true := by decide +kernel
theorem atoi_dl' (v : Nat) (h : v < 256) (h1 : 1 ≤ v) : Lib.atoiAll (dl v) = .ok (v : Int) := by
  have := atoi_dl v h h1
  revert this
  cases Lib.atoiAll (dl v) with
  | ok u => intro e; rw [beq_iff_eq.1 e]
  | _ => intro e; cases e
theorem failN_dl (v : Nat) (h : v < 256) (h1 : 1 ≤ v) : failN ⟨(dl v).toArray⟩ = (v : Int) := by
  rw [failN_ok (v := (v : Int)) (by simpa using atoi_dl' v h h1), itoa_dl v (by omega), if_pos ⟨rfl, by omega, by omega⟩]
theorem texts_loop (l : List ByteArray) (hl : l.length ≤ 4294967296) : ∀ (n k i : Nat), l.length - i ≤ n → i ≤ l.length → n < k → smithyplain_Texts.l0 k l l (l.length : Int) (i : Int) = some true := by
  intro n
  induction n with
  | zero =>
    intro k i hn hi hk
    obtain ⟨k, rfl⟩ : ∃ m, k = m + 1 := ⟨k - 1, by omega⟩
    simp only [smithyplain_Texts.l0]
    rw [if_neg (by omega)]
  | succ n ih =>
    intro k i hn hi hk
    obtain ⟨k, rfl⟩ : ∃ m, k = m + 1 := ⟨k - 1, by omega⟩
    simp only [smithyplain_Texts.l0]
    by_cases hlt : i < l.length
    · have hih := ih k (i + 1) (by omega) (by omega) (by omega)
      have h1 : (i : Int) < (l.length : Int) := by omega
      have h0 : (0 : Int) ≤ (i : Int) := by omega
      rw [if_pos h1, if_pos h0, if_pos h1, if_pos h1, if_true, w64i i (by omega), hih]
    · rw [if_neg (by omega)]
theorem texts_refl (l : List ByteArray) (k : Nat) (hl : l.length ≤ 4294967296) (hk : l.length < k) : smithyplain_Texts.f k l l = some true := by
  unfold smithyplain_Texts.f
  rw [if_pos rfl]
  exact texts_loop l hl l.length k 0 (by omega) (by omega) (by omega)
theorem same_refl (k : Nat) (o : Int) (d : ByteArray) (l ws : List ByteArray) (st : Int) (h1 : l.length ≤ 600) (h2 : ws.length ≤ 600) (hk : 1000 ≤ k) : smithylaw16_same.f k o d l ws st o d l ws st = some true := by
  unfold smithylaw16_same.f
  rw [if_pos rfl, if_pos rfl, if_pos rfl, texts_refl l k (by omega) (by omega), Option.bind_some, if_pos rfl, texts_refl ws k (by omega) (by omega)]
  rfl
theorem first_two (k : Nat) : cmd_first.f (k + 5) [0, 0] = some 0 := by kernel_rfl
/-- Whether a command is right, and its words: by its kind. -/
theorem files1 (k : Nat) (d : ByteArray) (hd : nameB d = true) (hk : 200 ≤ k) : cmd_files.f k [d] = some 0 := by
  rw [files_of [d] k (by simp) (by simp; omega)]
  simp [hd]
theorem check_1 (k : Nat) (a d : ByteArray) (ha : nameB a = true) (hd : nameB d = true) (hk : 2000 ≤ k) : cmd_Check.f k 1 d [a] [] 0 = some 0 := by
  unfold cmd_Check.f
  rw [if_pos ⟨by simp, by simp⟩, show cmd_Check.shape 1 d [a] [] 0 = 1 from rfl]
  show cmd_copying_right.f k a d = _
  unfold cmd_copying_right.f
  rw [files_of [d, a] k (by simp) (by simp; omega)]
  simp [ha, hd]
theorem check_2 (k : Nat) (d : ByteArray) (ws : List ByteArray) (hd : nameB d = true) (hw : ws.all nameB = true) (h1 : 1 ≤ ws.length) (h2 : ws.length ≤ 64) (hk : 2000 ≤ k) : cmd_Check.f k 2 d ws [] 0 = some 0 := by
  unfold cmd_Check.f
  rw [if_pos ⟨by omega, by simp⟩, show cmd_Check.shape 2 d ws [] 0 = 2 by unfold cmd_Check.shape; rw [if_neg (fun h => absurd h.1 (by decide)), if_pos ⟨rfl, rfl, rfl, by omega⟩]]
  show cmd_joining_right.f k d ws = _
  obtain ⟨k, rfl⟩ : ∃ m, k = m + 6 := ⟨k - 6, by omega⟩
  unfold cmd_joining_right.f
  rw [if_neg (by omega)]
  simp only [cmd_joining_right.j0]
  rw [if_neg (by simp; omega), files1 (k + 5) d hd (by omega), Option.bind_some, files_of ws (k + 5) (by omega) (by omega), if_pos hw, Option.bind_some, first_two]
  rfl
theorem few_of (ws : List ByteArray) (h : ws.length ≤ 512) : cmd_few.f ws = some 0 := by
  unfold cmd_few.f
  rw [if_neg (by omega)]
theorem check_3 (k : Nat) (d : ByteArray) (ws : List ByteArray) (hd : nameB d = true) (h2 : ws.length ≤ 512) (hk : 2000 ≤ k) : cmd_Check.f k 3 d [] ws 0 = some 0 := by
  unfold cmd_Check.f
  rw [if_pos ⟨by simp, by omega⟩, show cmd_Check.shape 3 d [] ws 0 = 3 by unfold cmd_Check.shape; rw [if_neg (fun h => absurd h.1 (by decide)), if_neg (fun h => absurd h.1 (by decide)), if_pos ⟨rfl, rfl, rfl, by omega⟩]]
  show cmd_echoing_right.f k d ws = _
  obtain ⟨k, rfl⟩ : ∃ m, k = m + 5 := ⟨k - 5, by omega⟩
  unfold cmd_echoing_right.f
  rw [few_of ws h2, Option.bind_some, files1 (k + 5) d hd (by omega), Option.bind_some, first_two]
  rfl
theorem check_4 (k : Nat) (d : ByteArray) (hd : nameB d = true) (hk : 2000 ≤ k) : cmd_Check.f k 4 d [] [] 0 = some 0 := by
  unfold cmd_Check.f
  rw [if_pos ⟨by simp, by simp⟩, show cmd_Check.shape 4 d [] [] 0 = 4 from rfl]
  show cmd_touching_right.f k d = _
  unfold cmd_touching_right.f
  rw [files1 k d hd (by omega)]
  rfl
theorem check_5 (k : Nat) (d : ByteArray) (hd : nameB d = true) (hk : 2000 ≤ k) : cmd_Check.f k 5 d [] [] 0 = some 0 := by
  unfold cmd_Check.f
  rw [if_pos ⟨by simp, by simp⟩, show cmd_Check.shape 5 d [] [] 0 = 5 from rfl]
  show cmd_removing_right.f k d = _
  unfold cmd_removing_right.f
  rw [files1 k d hd (by omega)]
  rfl
theorem check_6 (k : Nat) (d : ByteArray) (hd : nameB d = true) (hk : 2000 ≤ k) : cmd_Check.f k 6 ByteArray.empty [d] [] 0 = some 0 := by
  unfold cmd_Check.f
  rw [if_pos ⟨by simp, by simp⟩, show cmd_Check.shape 6 ByteArray.empty [d] [] 0 = 6 from rfl]
  show cmd_testing_right.f k d = _
  unfold cmd_testing_right.f
  rw [files1 k d hd (by omega)]
  rfl
theorem check_7 (k : Nat) (st : Int) (h1 : 1 ≤ st) (h2 : st ≤ 255) : cmd_Check.f k 7 ByteArray.empty [] [] st = some 0 := by
  unfold cmd_Check.f
  rw [if_pos ⟨by simp, by simp⟩, show cmd_Check.shape 7 ByteArray.empty [] [] st = 7 by unfold cmd_Check.shape; rw [if_neg (fun h => absurd h.1 (by decide)), if_neg (fun h => absurd h.1 (by decide)), if_neg (fun h => absurd h.1 (by decide)), if_neg (fun h => absurd h.1 (by decide)), if_neg (fun h => absurd h.1 (by decide)), if_neg (fun h => absurd h.1 (by decide)), if_pos ⟨rfl, rfl, rfl, rfl⟩]]
  show cmd_failing_right.f st = _
  unfold cmd_failing_right.f
  rw [if_neg (by omega), if_neg (by omega)]
theorem check_8 (k : Nat) (ws : List ByteArray) (h2 : ws.length ≤ 512) : cmd_Check.f k 8 ByteArray.empty [] ws 0 = some 0 := by
  unfold cmd_Check.f
  rw [if_pos ⟨by simp, by omega⟩, show cmd_Check.shape 8 ByteArray.empty [] ws 0 = 8 by unfold cmd_Check.shape; rw [if_neg (fun h => absurd h.1 (by decide)), if_neg (fun h => absurd h.1 (by decide)), if_neg (fun h => absurd h.1 (by decide)), if_neg (fun h => absurd h.1 (by decide)), if_neg (fun h => absurd h.1 (by decide)), if_neg (fun h => absurd h.1 (by decide)), if_neg (fun h => absurd h.1 (by decide)), if_pos ⟨rfl, rfl, rfl, rfl, by omega⟩]]
  show cmd_saying_right.f ws = _
  unfold cmd_saying_right.f
  rw [few_of ws h2]
  rfl
/-- A command's kind: its fields are those of a right command, and its words are these. -/
inductive Kind : Int → ByteArray → List ByteArray → List ByteArray → Int → List ByteArray → Prop
  | copy (a d) (ha : nameB a = true) (hd : nameB d = true) : Kind 1 d [a] [] 0 [⟨#[99, 111, 112, 121]⟩, a, d]
  | concat (d ws) (hd : nameB d = true) (hw : ws.all nameB = true) (h1 : 1 ≤ ws.length) (h2 : ws.length ≤ 64) : Kind 2 d ws [] 0 (⟨#[99, 111, 110, 99, 97, 116]⟩ :: d :: ws)
  | echo (d ws) (hd : nameB d = true) (h2 : ws.length ≤ 512) : Kind 3 d [] ws 0 (⟨#[101, 99, 104, 111, 45, 116, 111]⟩ :: d :: ws)
  | touch (d) (hd : nameB d = true) : Kind 4 d [] [] 0 [⟨#[116, 111, 117, 99, 104]⟩, d]
  | remove (d) (hd : nameB d = true) : Kind 5 d [] [] 0 [⟨#[114, 101, 109, 111, 118, 101]⟩, d]
  | test (d) (hd : nameB d = true) : Kind 6 ByteArray.empty [d] [] 0 [⟨#[116, 101, 115, 116, 45, 101, 120, 105, 115, 116, 115]⟩, d]
  | fail1 : Kind 7 ByteArray.empty [] [] 1 [⟨#[102, 97, 105, 108]⟩]
  | fail (n : Nat) (h1 : 2 ≤ n) (h2 : n ≤ 255) : Kind 7 ByteArray.empty [] [] (n : Int) [⟨#[102, 97, 105, 108]⟩, ⟨(dl n).toArray⟩]
  | say (ws) (h2 : ws.length ≤ 512) : Kind 8 ByteArray.empty [] ws 0 (⟨#[115, 97, 121]⟩ :: ws)
theorem kind_check {o : Int} {d : ByteArray} {l ws : List ByteArray} {st : Int} {wl : List ByteArray} (h : Kind o d l ws st wl) (k : Nat) (hk : 2000 ≤ k) : cmd_Check.f k o d l ws st = some 0 := by
  cases h with
  | copy a d ha hd => exact check_1 k a d ha hd hk
  | concat d ws hd hw h1 h2 => exact check_2 k d l hd hw h1 h2 hk
  | echo d ws hd h2 => exact check_3 k d ws hd h2 hk
  | touch d hd => exact check_4 k d hd hk
  | remove d hd => exact check_5 k d hd hk
  | test d hd => exact check_6 k d hd hk
  | fail1 => exact check_7 k 1 (by decide) (by decide)
  | fail n h1 h2 => exact check_7 k n (by omega) (by omega)
  | say ws h2 => exact check_8 k ws h2
theorem kind_words {o : Int} {d : ByteArray} {l ws : List ByteArray} {st : Int} {wl : List ByteArray} (h : Kind o d l ws st wl) (k : Nat) (hk : 2000 ≤ k) : cmd_Words.f k o d l ws st = some (wl, 0) := by
  have hc := kind_check h k hk
  unfold cmd_Words.f
  rw [hc, Option.bind_some, if_pos rfl]
  cases h with
  | copy a d ha hd => rfl
  | concat d ws hd hw h1 h2 =>
    rw [show cmd_Check.shape 2 d l [] 0 = 2 by unfold cmd_Check.shape; rw [if_neg (fun h => absurd h.1 (by decide)), if_pos ⟨rfl, rfl, rfl, by omega⟩]]
    show (cmd_joining_words.f d l).bind _ = _
    unfold cmd_joining_words.f
    rw [Option.bind_some, if_pos (by simp; omega)]
    rfl
  | echo d ws hd h2 =>
    rw [show cmd_Check.shape 3 d [] ws 0 = 3 by unfold cmd_Check.shape; rw [if_neg (fun h => absurd h.1 (by decide)), if_neg (fun h => absurd h.1 (by decide)), if_pos ⟨rfl, rfl, rfl, by omega⟩]]
    show (cmd_echoing_words.f d ws).bind _ = _
    unfold cmd_echoing_words.f
    rw [Option.bind_some, if_pos (by simp; omega)]
    rfl
  | touch d hd => rfl
  | remove d hd => rfl
  | test d hd => rfl
  | fail1 => rfl
  | fail n h1 h2 =>
    show (cmd_failing_words.f (n : Int)).bind _ = _
    unfold cmd_failing_words.f
    rw [if_neg (by omega)]
    unfold strconv_Itoa_35.f
    rw [if_pos ⟨by omega, by omega⟩, Option.bind_some, itoa_dl n (by omega)]
    rfl
  | say ws h2 =>
    rw [show cmd_Check.shape 8 ByteArray.empty [] ws 0 = 8 by unfold cmd_Check.shape; rw [if_neg (fun h => absurd h.1 (by decide)), if_neg (fun h => absurd h.1 (by decide)), if_neg (fun h => absurd h.1 (by decide)), if_neg (fun h => absurd h.1 (by decide)), if_neg (fun h => absurd h.1 (by decide)), if_neg (fun h => absurd h.1 (by decide)), if_neg (fun h => absurd h.1 (by decide)), if_pos ⟨rfl, rfl, rfl, rfl, by omega⟩]]
    show (cmd_saying_words.f ws).bind _ = _
    unfold cmd_saying_words.f
    rw [Option.bind_some, if_pos (by simp; omega)]
    rfl
theorem files_c (l : List ByteArray) (k : Nat) (hl : l.length ≤ 64) (hk : 2000 ≤ k) : (cmd_files.f k l = some 0 ∧ l.all nameB = true) ∨ cmd_files.f k l = some 3 := by
  rw [files_of l k (by omega) (by omega)]
  cases h : l.all nameB
  · exact .inr rfl
  · exact .inl ⟨rfl, rfl⟩
theorem first_03 (k : Nat) : cmd_first.f (k + 5) [0, 3] = some 3 := by kernel_rfl
theorem first_30 (k : Nat) : cmd_first.f (k + 5) [3, 0] = some 3 := by kernel_rfl
theorem first_33 (k : Nat) : cmd_first.f (k + 5) [3, 3] = some 3 := by kernel_rfl
theorem first_w0 (k : Nat) : cmd_first.f (k + 5) [160, 0] = some 160 := by kernel_rfl
theorem first_w3 (k : Nat) : cmd_first.f (k + 5) [160, 3] = some 160 := by kernel_rfl
/-- What the object answers that is asked for its check. -/
def chkOf (k j : Nat) (d : ByteArray) (l ws : List ByteArray) (st : Int) : Option Int := match j with
  | 1 => cmd_copying_right.f k (l.headD ByteArray.empty) d
  | 2 => cmd_joining_right.f k d l
  | 3 => cmd_echoing_right.f k d ws
  | 4 => cmd_touching_right.f k d
  | 5 => cmd_removing_right.f k d
  | 6 => cmd_testing_right.f k (l.headD ByteArray.empty)
  | 7 => cmd_failing_right.f st
  | 8 => cmd_saying_right.f ws
  | _ => some 160
/-- A command that is wrong is told with an error; else it has a kind. -/
theorem check_kind (k : Nat) (hk : 2100 ≤ k) (o : Int) (d : ByteArray) (l ws : List ByteArray) (st : Int) (hl : l.length ≤ 8796093022200) (hws : ws.length ≤ 8796093022200) :
    (∃ er, er ≠ 0 ∧ cmd_Check.f k o d l ws st = some er) ∨ ∃ wl, Kind o d l ws st wl := by
  obtain ⟨k, rfl⟩ : ∃ m, k = m + 6 := ⟨k - 6, by omega⟩
  unfold cmd_Check.f
  rw [if_pos ⟨hl, hws⟩]
  show (∃ er, er ≠ 0 ∧ chkOf (k + 6) (cmd_Check.shape o d l ws st) d l ws st = some er) ∨ ∃ wl, Kind o d l ws st wl
  refine cmd_Check.cases_ o d l ws st (P := fun o d l ws st j => (∃ er, er ≠ 0 ∧ chkOf (k + 6) j d l ws st = some er) ∨ ∃ wl, Kind o d l ws st wl) ?_ ?_ ?_ ?_ ?_ ?_ ?_ ?_ ?_
  · intro s
    show (∃ er, er ≠ 0 ∧ cmd_copying_right.f (k + 6) s d = some er) ∨ _
    unfold cmd_copying_right.f
    rcases files_c [d, s] (k + 6) (by simp) (by omega) with ⟨h, ha⟩ | h
    · have hd : nameB d = true ∧ nameB s = true := by simpa using ha
      exact .inr ⟨_, .copy s d hd.2 hd.1⟩
    · exact .inl ⟨3, by decide, by rw [h]; rfl⟩
  · intro _
    show (∃ er, er ≠ 0 ∧ cmd_joining_right.f (k + 6) d l = some er) ∨ _
    unfold cmd_joining_right.f
    by_cases h1 : (l.length : Int) < 1
    · exact .inl ⟨160, by decide, by rw [if_pos h1]; simp only [cmd_joining_right.j0]; rw [if_pos trivial]⟩
    rw [if_neg h1]
    by_cases h64 : (l.length : Int) > 64
    · exact .inl ⟨160, by decide, by rw [decide_eq_true h64]; simp only [cmd_joining_right.j0]; rw [if_pos trivial]⟩
    rw [decide_eq_false h64]
    simp only [cmd_joining_right.j0]
    rw [if_neg (by decide)]
    rcases files_c [d] (k + 5) (by simp) (by omega) with ⟨h, ha⟩ | h
    · have hd : nameB d = true := by simpa using ha
      rcases files_c l (k + 5) (by omega) (by omega) with ⟨g, hb⟩ | g
      · exact .inr ⟨_, .concat d l hd hb (by omega) (by omega)⟩
      · exact .inl ⟨3, by decide, by rw [h, Option.bind_some, g, Option.bind_some, first_03]; rfl⟩
    · rcases files_c l (k + 5) (by omega) (by omega) with ⟨g, hb⟩ | g
      · exact .inl ⟨3, by decide, by rw [h, Option.bind_some, g, Option.bind_some, first_30]; rfl⟩
      · exact .inl ⟨3, by decide, by rw [h, Option.bind_some, g, Option.bind_some, first_33]; rfl⟩
  · intro _
    show (∃ er, er ≠ 0 ∧ cmd_echoing_right.f (k + 6) d ws = some er) ∨ _
    unfold cmd_echoing_right.f
    by_cases h1 : (ws.length : Int) > 512
    · have hf : cmd_few.f ws = some 160 := by unfold cmd_few.f; rw [if_pos h1]
      rcases files_c [d] (k + 6) (by simp) (by omega) with ⟨h, ha⟩ | h
      · exact .inl ⟨160, by decide, by rw [hf, Option.bind_some, h, Option.bind_some, first_w0]; rfl⟩
      · exact .inl ⟨160, by decide, by rw [hf, Option.bind_some, h, Option.bind_some, first_w3]; rfl⟩
    · rcases files_c [d] (k + 6) (by simp) (by omega) with ⟨h, ha⟩ | h
      · have hd : nameB d = true := by simpa using ha
        exact .inr ⟨_, .echo d ws hd (by omega)⟩
      · exact .inl ⟨3, by decide, by rw [few_of ws (by omega), Option.bind_some, h, Option.bind_some, first_03]; rfl⟩
  · show (∃ er, er ≠ 0 ∧ cmd_touching_right.f (k + 6) d = some er) ∨ _
    unfold cmd_touching_right.f
    rcases files_c [d] (k + 6) (by simp) (by omega) with ⟨h, ha⟩ | h
    · exact .inr ⟨_, .touch d (by simpa using ha)⟩
    · exact .inl ⟨3, by decide, by rw [h]; rfl⟩
  · show (∃ er, er ≠ 0 ∧ cmd_removing_right.f (k + 6) d = some er) ∨ _
    unfold cmd_removing_right.f
    rcases files_c [d] (k + 6) (by simp) (by omega) with ⟨h, ha⟩ | h
    · exact .inr ⟨_, .remove d (by simpa using ha)⟩
    · exact .inl ⟨3, by decide, by rw [h]; rfl⟩
  · intro s
    show (∃ er, er ≠ 0 ∧ cmd_testing_right.f (k + 6) s = some er) ∨ _
    unfold cmd_testing_right.f
    rcases files_c [s] (k + 6) (by simp) (by omega) with ⟨h, ha⟩ | h
    · exact .inr ⟨_, .test s (by simpa using ha)⟩
    · exact .inl ⟨3, by decide, by rw [h]; rfl⟩
  · show (∃ er, er ≠ 0 ∧ cmd_failing_right.f st = some er) ∨ _
    unfold cmd_failing_right.f
    by_cases h1 : st < 1
    · exact .inl ⟨160, by decide, by rw [if_pos h1]⟩
    by_cases h2 : st > 255
    · exact .inl ⟨160, by decide, by rw [if_neg h1, if_pos h2]⟩
    obtain ⟨n, rfl⟩ : ∃ n : Nat, st = (n : Int) := ⟨st.toNat, by omega⟩
    by_cases h3 : n = 1
    · subst h3; exact .inr ⟨_, .fail1⟩
    · exact .inr ⟨_, .fail n (by omega) (by omega)⟩
  · intro _
    show (∃ er, er ≠ 0 ∧ cmd_saying_right.f ws = some er) ∨ _
    unfold cmd_saying_right.f
    by_cases h1 : (ws.length : Int) > 512
    · exact .inl ⟨160, by decide, by unfold cmd_few.f; rw [if_pos h1]; rfl⟩
    · exact .inr ⟨_, .say ws (by omega)⟩
  · intro _
    exact .inl ⟨160, by decide, rfl⟩
theorem bt_of (s : ByteArray) (i : Nat) (h : i < s.size) : bt s (i : Int) = ((s[i]'h).toNat : Int) := by simp [bt, h]
theorem drop_of (s : ByteArray) (i : Nat) (h : i < s.size) : s.data.toList.drop i = s[i]'h :: s.data.toList.drop (i + 1) := qbyte s i h
theorem ext_of (s : ByteArray) (i j : Nat) (hj : j ≤ s.size) : (s.extract i j).data.toList = (s.data.toList.drop i).take (j - i) := by
  simp [ByteArray.data_extract, Array.toList_extract, List.extract_eq_take_drop]
theorem ext_eq (s : ByteArray) (i j : Nat) (hj : j ≤ s.size) : s.extract i j = ⟨((s.data.toList.drop i).take (j - i)).toArray⟩ := by
  apply ByteArray.ext
  apply Array.ext'
  rw [ext_of s i j hj]
theorem blank_of (c : UInt8) : lex_blank.f (c.toNat : Int) = some (isB c) := by
  unfold lex_blank.f isB
  by_cases h : c = 32
  · subst h; rfl
  · have h1 : ¬ ((c.toNat : Int) = 32) := fun e => h (UInt8.toNat_inj.1 (by show c.toNat = 32; omega))
    rw [if_neg h1]
    have h2 : (c == 32) = false := by simpa using h
    rw [h2, Bool.false_or]
    congr 1
    by_cases h9 : c = 9
    · subst h9; rfl
    · have h3 : ¬ ((c.toNat : Int) = 9) := fun e => h9 (UInt8.toNat_inj.1 (by show c.toNat = 9; omega))
      rw [beq_eq_false_iff_ne.2 h3, beq_eq_false_iff_ne.2 h9]
theorem u8_int {c v : UInt8} : ((c.toNat : Int) = (v.toNat : Int)) ↔ c = v := ⟨fun e => UInt8.toNat_inj.1 (by omega), fun e => by rw [e]⟩
theorem c34 {c : UInt8} : ((c.toNat : Int) = 34) ↔ c = 34 := u8_int (v := 34)
theorem c10 {c : UInt8} : ((c.toNat : Int) = 10) ↔ c = 10 := u8_int (v := 10)
theorem w64 {x : Int} (h0 : 0 ≤ x) (h : x ≤ 4611686018427387904) : wrap64 x = x := by unfold wrap64; omega
def mkW (l : List UInt8) : ByteArray := ⟨l.toArray⟩
def wordsR (o : Option (List (List UInt8))) (acc : List ByteArray) : List ByteArray × Int := match o with | some ws => (acc ++ ws.map mkW, 0) | none => ([], 150)
theorem wordsR_map (o : Option (List (List UInt8))) (w : List UInt8) (acc : List ByteArray) : wordsR (o.map (w :: ·)) acc = wordsR o (acc ++ [mkW w]) := by
  cases o with
  | none => rfl
  | some ws => simp [wordsR]
theorem qfacts (s : ByteArray) (i : Nat) (hi : i < s.size) (hs : s.size ≤ 65536) :
    lex_quoted.f s (i : Int) = some (qW (lexq (s.data.toList.drop (i + 1)) [] (i + 1)), qP (lexq (s.data.toList.drop (i + 1)) [] (i + 1)), qB (lexq (s.data.toList.drop (i + 1)) [] (i + 1))) := by
  unfold lex_quoted.f
  rw [if_pos ⟨by omega, by omega, by omega⟩]
  rfl

theorem w64_add (i m : Nat) (h : i + m ≤ 4611686018427387904) : wrap64 ((i : Int) + (m : Int)) = ((i + m : Nat) : Int) := by rw [w64 (by omega) (by omega)]; omega
theorem w64_sub (s i : Nat) (h : i ≤ s) (h2 : s ≤ 4611686018427387904) : wrap64 ((s : Int) - (i : Int)) = ((s - i : Nat) : Int) := by rw [w64 (by omega) (by omega)]; omega
theorem ia_of (x : ByteArray) (l : List UInt8) (h : x.data.toList = l) (hs : x.size ≤ 65536) : strings_IndexAny.f x ⟨#[32, 9]⟩ = some (if (nb l).length = l.length then -1 else ((nb l).length : Int)) := by
  unfold strings_IndexAny.f
  rw [if_pos ⟨by decide, by decide, by omega, by decide⟩, h]
  exact congrArg some (indexAny_nb l)
theorem ca_of (x : ByteArray) (l : List UInt8) (h : x.data.toList = l) (hs : x.size ≤ 65536) : strings_ContainsAny.f x ⟨#[34, 10]⟩ = some (l.any badB) := by
  unfold strings_ContainsAny.f strings_IndexAny.f
  rw [if_pos ⟨by decide, by decide, by omega, by decide⟩, h, Option.bind_some]
  exact congrArg some (contains_bad l)

set_option maxHeartbeats 1000000 in
theorem words_loop (s : ByteArray) (hs : s.size ≤ 65536) : ∀ (n k i : Nat) (acc : List ByteArray), s.size - i ≤ n → i ≤ s.size → acc.length ≤ i → n < k →
    lex_Words.l0 k s acc (i : Int) = some (wordsR (wordsN n (s.data.toList.drop i)) acc) := by
  intro n
  induction n with
  | zero =>
    intro k i acc hn hi ha hk
    obtain ⟨k, rfl⟩ : ∃ m, k = m + 1 := ⟨k - 1, by omega⟩
    simp only [lex_Words.l0]
    rw [if_neg (by omega)]
    simp [wordsN, wordsR]
  | succ n ih =>
    intro k i acc hn hi ha hk
    obtain ⟨k, rfl⟩ : ∃ m, k = m + 1 := ⟨k - 1, by omega⟩
    simp only [lex_Words.l0]
    by_cases hlt : i < s.size
    · obtain ⟨c, hc⟩ : ∃ c, s[i]'hlt = c := ⟨_, rfl⟩
      have hd := drop_of s i hlt
      rw [hc] at hd
      rw [if_pos (by omega), if_pos (by omega), bt_of s i hlt, hc, blank_of, hd]
      simp only [Option.bind_some]
      have hl : (s.data.toList.drop (i + 1)).length = s.size - (i + 1) := by simp
      cases hb : isB c
      · simp only [Bool.false_eq_true, if_false]
        by_cases h34 : c = 34
        · subst h34
          rw [if_pos (c34.2 rfl), wordsN_quote]
          have hqf := qfacts s i hlt hs
          rw [lexq_zero _ _ (i + 1)] at hqf
          cases hq : lexq (s.data.toList.drop (i + 1)) [] 0 with
          | none =>
            rw [hq] at hqf
            rw [hqf]
            rfl
          | some x =>
            obtain ⟨w, p⟩ := x
            have hbd := lexq_bound _ _ (Nat.le_refl _) _ _ _ _ hq
            have hbd2 := hbd.2.1
            rw [hl] at hbd2
            rw [hq] at hqf
            replace hqf : lex_quoted.f s (i : Int) = some (mkW w, ((p + (i + 1) : Nat) : Int), true) := hqf
            rw [hqf]
            simp only [Option.bind_some, if_true]
            have hdd : s.data.toList.drop (p + (i + 1)) = (s.data.toList.drop (i + 1)).drop p := by rw [List.drop_drop]; congr 1; omega
            have hih : lex_Words.l0 k s (acc ++ [mkW w]) ((p + (i + 1) : Nat) : Int) = some (wordsR (wordsN n ((s.data.toList.drop (i + 1)).drop p)) (acc ++ [mkW w])) := by
              rw [ih k (p + (i + 1)) (acc ++ [mkW w]) (by omega) (by omega) (by simp; omega) (by omega), hdd]
            have hal : acc.length < 8796093022208 := by omega
            by_cases hpl : p + (i + 1) < s.size
            · have hd2 := drop_of s (p + (i + 1)) hpl
              rw [hdd] at hd2
              have he : endOk ((s.data.toList.drop (i + 1)).drop p) = isB (s[p + (i + 1)]'hpl) := by rw [hd2]; rfl
              rw [if_pos (by omega), if_pos (by omega), bt_of s _ hpl, blank_of, he]
              simp only [Option.bind_some]
              cases hb2 : isB (s[p + (i + 1)]'hpl)
              · rfl
              · simp only [if_true]
                rw [if_pos hal, hih, wordsR_map]
            · have he : (s.data.toList.drop (i + 1)).drop p = [] := List.drop_eq_nil_of_le (by rw [hl]; omega)
              rw [if_neg (by omega), if_pos hal, hih, he]
              simp only [endOk, if_true]
              rw [wordsR_map]
        · rw [if_neg (fun e => h34 (c34.1 e)), if_pos (by omega), wordsN_plain _ _ _ hb h34]
          have hnb := nb_cons (s.data.toList.drop (i + 1)) hb
          have hnl := nb_le (c :: s.data.toList.drop (i + 1))
          have hdl : (c :: s.data.toList.drop (i + 1)).length = s.size - i := by rw [← hd]; simp
          obtain ⟨m, hm⟩ : ∃ m, (nb (c :: s.data.toList.drop (i + 1))).length = m := ⟨_, rfl⟩
          have hm1 : 1 ≤ m := by rw [← hm, hnb]; simp
          have htk : (s.data.toList.drop i).take m = nb (c :: s.data.toList.drop (i + 1)) := by
            rw [hd, ← hm]
            exact (List.prefix_iff_eq_take.1 (List.takeWhile_prefix _)).symm
          have hal : acc.length < 8796093022208 := by omega
          have hex := ext_of s i s.size (Nat.le_refl _)
          rw [hd, List.take_of_length_le (by omega)] at hex
          have hia := ia_of (s.extract i s.size) _ hex (by rw [ByteArray.size_extract]; omega)
          rw [hm, hdl] at hia
          have hex2 := ext_of s i (i + m) (by omega)
          rw [show i + m - i = m by omega, htk] at hex2
          have hca := ca_of (s.extract i (i + m)) _ hex2 (by rw [ByteArray.size_extract]; omega)
          have he3 : s.extract i (i + m) = mkW (nb (c :: s.data.toList.drop (i + 1))) := by
            rw [ext_eq s i (i + m) (by omega), show i + m - i = m by omega, htk]; rfl
          have hih : lex_Words.l0 k s (acc ++ [s.extract i (i + m)]) ((i + m : Nat) : Int) = some (wordsR (wordsN n ((c :: s.data.toList.drop (i + 1)).drop m)) (acc ++ [mkW (nb (c :: s.data.toList.drop (i + 1)))])) := by
            rw [ih k (i + m) _ (by omega) (by omega) (by simp; omega) (by omega), he3, ← hd, List.drop_drop]
          have e0 : (((i : Int) : Int).toNat) = i := by omega
          rw [e0, hia, hm]
          simp only [Option.bind_some]
          have c1 : (i : Int) ≤ ((i + m : Nat) : Int) := by omega
          have c2 : ((i + m : Nat) : Int) ≤ (s.size : Int) := by omega
          by_cases hms : m = s.size - i
          · have c0 : (-1 : Int) < 0 := by decide
            rw [if_pos hms, if_pos c0, w64_sub s.size i (by omega) (by omega), ← hms, w64_add i m (by omega), if_pos c1, if_pos c2, Int.toNat_natCast, hca]
            rw [Option.bind_some]
            cases hbad : (nb (c :: s.data.toList.drop (i + 1))).any badB
            · rw [if_neg Bool.false_ne_true, if_neg Bool.false_ne_true, if_pos hal, hih, wordsR_map]
            · rw [if_pos rfl, if_pos rfl]; rfl
          · have c0 : ¬ ((m : Int) < 0) := by omega
            rw [if_neg hms, if_neg c0, w64_add i m (by omega), if_pos c1, if_pos c2, Int.toNat_natCast, hca]
            rw [Option.bind_some]
            cases hbad : (nb (c :: s.data.toList.drop (i + 1))).any badB
            · rw [if_neg Bool.false_ne_true, if_neg Bool.false_ne_true, if_pos hal, hih, wordsR_map]
            · rw [if_pos rfl, if_pos rfl]; rfl
      · simp only [if_true]
        rw [w64 (by omega) (by omega), wordsN_blank _ _ _ hb]
        exact ih k (i + 1) acc (by omega) (by omega) (by omega) (by omega)
    · rw [if_neg (by omega), List.drop_eq_nil_of_le (by simp; omega)]
      simp [wordsN, wordsR]
/-- What Words tells of a text. -/
def wordsA (s : ByteArray) : List ByteArray × Int := if s.size > 65536 then ([], 2) else wordsR (wordsN s.size s.data.toList) []
theorem words_all (s : ByteArray) (k : Nat) (hk : 65537 < k) : lex_Words.f k s = some (wordsA s) := by
  unfold lex_Words.f wordsA
  by_cases h : s.size > 65536
  · rw [if_pos (by omega), if_pos h]
  · rw [if_neg (by omega), if_neg h]
    have := words_loop s (by omega) s.size k 0 [] (by omega) (by omega) (by simp) (by omega)
    simpa using this
theorem lexq_esc (R : List UInt8) : ∀ (w acc : List UInt8) (p : Nat), lexq (escL w ++ 34 :: R) acc p = some (acc ++ w, p + (escL w).length + 1)
  | [], acc, p => by
    rw [escL, List.nil_append, lexq_cons, if_pos rfl]
    simp
  | b :: w, acc, p => by
    have ih := lexq_esc R w
    rw [escL, List.append_assoc]
    unfold escB
    by_cases h34 : b = 34
    · subst h34
      rw [if_pos rfl]
      show lexq (92 :: 34 :: (escL w ++ 34 :: R)) acc p = _
      rw [lexq_cons, if_neg (by decide), if_neg (by decide), if_pos rfl]
      simp only
      rw [if_true, ih]
      simp; omega
    · rw [if_neg h34]
      by_cases h92 : b = 92
      · subst h92
        rw [if_pos rfl]
        show lexq (92 :: 92 :: (escL w ++ 34 :: R)) acc p = _
        rw [lexq_cons, if_neg (by decide), if_neg (by decide), if_pos rfl]
        simp only
        rw [if_neg (by decide), if_true, ih]
        simp; omega
      · rw [if_neg h92]
        by_cases h10 : b = 10
        · subst h10
          rw [if_pos rfl]
          show lexq (92 :: 110 :: (escL w ++ 34 :: R)) acc p = _
          rw [lexq_cons, if_neg (by decide), if_neg (by decide), if_pos rfl]
          simp only
          rw [if_neg (by decide), if_neg (by decide), if_true, ih]
          simp; omega
        · rw [if_neg h10]
          show lexq (b :: (escL w ++ 34 :: R)) acc p = _
          rw [lexq_cons, if_neg h34, if_neg h10, if_neg h92, ih]
          simp; omega
theorem nb_app (R : List UInt8) (hR : endOk R = true) : ∀ w : List UInt8, w.all (fun b => !isB b) = true → nb (w ++ R) = w
  | [], _ => by
    cases R with
    | nil => rfl
    | cons c t => exact nb_blank t hR
  | b :: w, h => by
    rw [List.all_cons, Bool.and_eq_true] at h
    have h1 : isB b = false := by simpa using h.1
    rw [List.cons_append, nb_cons _ h1, nb_app R hR w h.2]
theorem odd_false {b : UInt8} (h : odd b = false) : isB b = false ∧ b ≠ 34 ∧ badB b = false := by
  unfold odd at h
  simp only [List.contains_cons, List.contains_nil, Bool.or_false, Bool.or_eq_false_iff, beq_eq_false_iff_ne] at h
  obtain ⟨h1, h2, h3, h4, h5⟩ := h
  refine ⟨by simp [isB, h1, h2], h4, by simp [badB, h3, h4]⟩
theorem plain_all : ∀ w : List UInt8, w.any odd = false → w.all (fun b => !isB b) = true ∧ w.any badB = false
  | [], _ => ⟨rfl, rfl⟩
  | b :: w, h => by
    rw [List.any_cons, Bool.or_eq_false_iff] at h
    obtain ⟨h1, h2, h3⟩ := odd_false h.1
    obtain ⟨h4, h5⟩ := plain_all w h.2
    refine ⟨by rw [List.all_cons, h1, h4]; rfl, by rw [List.any_cons, h3, h5]; rfl⟩
/-- One word, printed, is read as that word, if behind it the text ends or a blank stands. -/
theorem wordsN_word (R : List UInt8) (r : List (List UInt8)) (hR : endOk R = true) (hr : ∀ m, R.length ≤ m → wordsN m R = some r) (w : List UInt8) (n : Nat) (hn : (quoteL w ++ R).length ≤ n) :
    wordsN n (quoteL w ++ R) = some (w :: r) := by
  unfold quoteL at hn ⊢
  by_cases hp : plainL w = true
  · rw [if_pos hp] at hn ⊢
    unfold plainL at hp
    cases w with
    | nil => simp at hp
    | cons c t =>
      have hany : (c :: t).any odd = false := by
        rw [Bool.and_eq_true] at hp
        simpa using hp.2
      obtain ⟨h1, h2⟩ := plain_all _ hany
      have ho := (Bool.or_eq_false_iff.1 (by rw [← List.any_cons]; exact hany)).1
      obtain ⟨b1, b2, b3⟩ := odd_false ho
      have hnb := nb_app R hR (c :: t) h1
      have hlen : (c :: t ++ R).length = t.length + 1 + R.length := by simp; omega
      obtain ⟨n, rfl⟩ : ∃ m, n = m + 1 := ⟨n - 1, by omega⟩
      rw [List.cons_append] at hnb ⊢
      rw [wordsN_plain _ _ _ b1 b2, hnb, h2, if_neg Bool.false_ne_true]
      rw [← List.cons_append, List.drop_left, hr n (by omega)]
      rfl
  · rw [if_neg hp] at hn ⊢
    have hlen : (34 :: (escL w ++ [34]) ++ R).length = (escL w).length + 2 + R.length := by simp; omega
    obtain ⟨n, rfl⟩ : ∃ m, n = m + 1 := ⟨n - 1, by omega⟩
    have e : 34 :: (escL w ++ [34]) ++ R = 34 :: (escL w ++ 34 :: R) := by simp
    have e2 : (escL w ++ 34 :: R).drop (0 + (escL w).length + 1) = R := by
      rw [Nat.zero_add, ← List.drop_drop, List.drop_left]
      rfl
    rw [e, wordsN_quote, lexq_esc R w [] 0]
    simp only
    rw [e2, hR, if_pos rfl, hr n (by omega)]
    rfl
def tailL (r : List (List UInt8)) : List UInt8 := Lib.joinTail [32] (r.map quoteL)
theorem tailL_cons (w : List UInt8) (r : List (List UInt8)) : tailL (w :: r) = 32 :: (quoteL w ++ tailL r) := by simp [tailL, Lib.joinTail]
theorem tailL_end : ∀ r : List (List UInt8), endOk (tailL r) = true
  | [] => rfl
  | w :: r => by rw [tailL_cons]; rfl
theorem wordsN_tail : ∀ (r : List (List UInt8)) (m : Nat), (tailL r).length ≤ m → wordsN m (tailL r) = some r
  | [], m, _ => wordsN_nil m
  | w :: r, m, h => by
    rw [tailL_cons] at h ⊢
    rw [List.length_cons] at h
    obtain ⟨m, rfl⟩ : ∃ j, m = j + 1 := ⟨m - 1, by omega⟩
    rw [wordsN_blank _ _ _ rfl]
    exact wordsN_word _ r (tailL_end r) (wordsN_tail r) w m (by omega)
def printL (ws : List (List UInt8)) : List UInt8 := Lib.join (ws.map quoteL) [32]
/-- What is printed is read back. -/
theorem wordsN_print (ws : List (List UInt8)) (n : Nat) (h : (printL ws).length ≤ n) : wordsN n (printL ws) = some ws := by
  cases ws with
  | nil => exact wordsN_nil n
  | cons w r =>
    unfold printL at h ⊢
    rw [List.map_cons, Lib.join_cons] at h ⊢
    exact wordsN_word _ r (tailL_end r) (wordsN_tail r) w n h
theorem lens_quote : ∀ ws : List (List UInt8), Lib.lens (ws.map quoteL) ≤ 2 * Lib.lens ws + 2 * ws.length
  | [] => by simp [Lib.lens]
  | w :: r => by
    have := lens_quote r
    have := quoteL_len w
    simp [Lib.lens] at *; omega
theorem printL_len (ws : List (List UInt8)) : (printL ws).length ≤ 2 * Lib.lens ws + 3 * ws.length := by
  cases ws with
  | nil => simp [printL, Lib.join_nil]
  | cons w r =>
    have h1 := lens_quote r
    have h2 := quoteL_len w
    unfold printL
    rw [List.map_cons, Lib.join_cons, List.length_append, Lib.joinTail_length]
    simp [Lib.lens] at *; omega
def quoteW (x : ByteArray) : ByteArray := ⟨(quoteL x.data.toList).toArray⟩
theorem quoteW_mk (w : List UInt8) : quoteW (mkW w) = mkW (quoteL w) := by simp [quoteW, mkW]
theorem quote_of (x : ByteArray) (h : x.size ≤ 1099511627776) : lex_Quote.f x = some (quoteW x) := by
  unfold lex_Quote.f; rw [if_pos h]; rfl
theorem mk_back (ws : List (List UInt8)) : (ws.map mkW).map (·.data.toList) = ws := by
  induction ws with
  | nil => rfl
  | cons w r ih => rw [List.map_cons, List.map_cons, ih]; rfl
theorem join_of (l : List (List UInt8)) (h1 : l.length ≤ 1048576) (h2 : (Lib.join l [32]).length ≤ 4294967296) : strings_Join.f (l.map mkW) (⟨#[32]⟩ : ByteArray) = some (mkW (Lib.join l [32])) := by
  unfold strings_Join.f
  rw [mk_back]
  show (if _ ∧ (Lib.join l [32]).length ≤ _ then some (mkW (Lib.join l [32])) else none) = _
  rw [if_pos ⟨by rw [List.length_map]; omega, by omega⟩]
theorem print_loop (ws : List (List UInt8)) (hw : ∀ w ∈ ws, w.length ≤ 1048576) (hl : ws.length ≤ 1048576) (hj : (printL ws).length ≤ 4294967296) : ∀ (n k i : Nat), ws.length - i ≤ n → i ≤ ws.length → n < k →
    lex_Print.l0 k (((ws.take i).map quoteL).map mkW) (ws.map mkW) (ws.length : Int) (i : Int) = some (mkW (printL ws)) := by
  intro n
  induction n with
  | zero =>
    intro k i hn hi hk
    obtain ⟨k, rfl⟩ : ∃ m, k = m + 1 := ⟨k - 1, by omega⟩
    simp only [lex_Print.l0]
    rw [if_neg (by omega), List.take_of_length_le (by omega), join_of _ (by simp; omega) hj]
    rfl
  | succ n ih =>
    intro k i hn hi hk
    obtain ⟨k, rfl⟩ : ∃ m, k = m + 1 := ⟨k - 1, by omega⟩
    simp only [lex_Print.l0]
    by_cases hlt : i < ws.length
    · have hih := ih k (i + 1) (by omega) (by omega) (by omega)
      have e1 := w64_add i 1 (by omega)
      rw [show ((1 : Nat) : Int) = 1 from rfl] at e1
      have h1 : (i : Int) < (ws.length : Int) := by omega
      have h0 : (0 : Int) ≤ (i : Int) := by omega
      have h2 : (i : Int) < ((ws.map mkW).length : Int) := by rw [List.length_map]; exact h1
      have h3 : (((ws.take i).map quoteL).map mkW).length < 8796093022208 := by simp; omega
      have hlt2 : i < (ws.map mkW).length := by rw [List.length_map]; exact hlt
      have hrd : rdOf ByteArray.empty (ws.map mkW) (i : Int) = mkW ws[i] := by rw [rd_at (d := ByteArray.empty) _ i hlt2, List.getElem_map]
      have hsz : (mkW ws[i]).size ≤ 1099511627776 := by
        have h5 := hw ws[i] (List.getElem_mem hlt)
        have h6 : (mkW ws[i]).size = ws[i].length := by simp [mkW, ByteArray.size]
        omega
      have htk : ((ws.take i).map quoteL).map mkW ++ [mkW (quoteL ws[i])] = ((ws.take (i + 1)).map quoteL).map mkW := by
        rw [List.take_succ_eq_append_getElem hlt, List.map_append, List.map_append]; rfl
      rw [if_pos h1, if_pos h0, if_pos h2, hrd, quote_of _ hsz, Option.bind_some, if_pos h3, quoteW_mk, htk, e1, hih]
    · rw [if_neg (by omega), List.take_of_length_le (by omega), join_of _ (by simp; omega) hj]
      rfl
theorem print_all (ws : List (List UInt8)) (hw : ∀ w ∈ ws, w.length ≤ 1048576) (hl : ws.length ≤ 1048576) (hj : (printL ws).length ≤ 4294967296) (k : Nat) (hk : ws.length < k) : lex_Print.f k (ws.map mkW) = some (mkW (printL ws)) := by
  unfold lex_Print.f
  have := print_loop ws hw hl hj ws.length k 0 (by omega) (by omega) hk
  rw [List.length_map]
  simpa using this
theorem dl_size (n : Nat) : (⟨(dl n).toArray⟩ : ByteArray).size ≤ 1048576 := by
  show (dl n).toArray.size ≤ _
  unfold dl
  split
  · simp
  · split <;> simp
theorem named_ok (k : Nat) (fl : List ByteArray) (r : Int × ByteArray × List ByteArray × List ByteArray × Int × Int) (hl : fl.length ≤ 4294967296) (hk : fl.length + 90 < k) (h : fl.all nameB = true) : cmd_Parse.named k fl r = some r := by
  unfold cmd_Parse.named
  rw [files_of fl k hl hk, if_pos h]
  rfl
/-- A right command is read from its words as it was. -/
theorem kind_parse {o : Int} {d : ByteArray} {l ws : List ByteArray} {st : Int} {wl : List ByteArray} (h : Kind o d l ws st wl) (k : Nat) (hk : 4000 ≤ k) : cmd_Parse.f k wl = some (o, d, l, ws, st, 0) := by
  obtain ⟨j, rfl⟩ : ∃ j, k = j + 20 := ⟨k - 20, by omega⟩
  cases h with
  | copy a d ha hd =>
    simp only [cmd_Parse.f]
    rw [if_neg (by simp), show slices_Index_string_string.f (j + 20) headsL ⟨#[99, 111, 112, 121]⟩ = some 0 by kernel_rfl, Option.bind_some, if_neg (by decide), if_neg (by decide)]
    have hb : cmd_count.f (j + 20) (0 + 1) (([a, d] : List ByteArray).length : Int) = some true := rfl
    rw [hb, Option.bind_some, if_neg (by decide)]
    exact named_ok (j + 20) [a, d] _ (by simp) (by simp; omega) (by simp [ha, hd])
  | concat d ws hd hw h1 h2 =>
    simp only [cmd_Parse.f]
    rw [if_neg (by simp; omega), show slices_Index_string_string.f (j + 20) headsL ⟨#[99, 111, 110, 99, 97, 116]⟩ = some 1 by kernel_rfl, Option.bind_some, if_neg (by decide), if_neg (by decide)]
    have hb : cmd_count.f (j + 20) (1 + 1) ((d :: l).length : Int) = some true := by
      show cmd_count.f (j + 20) 2 ((d :: l).length : Int) = some true
      unfold cmd_count.f
      rw [if_neg (by decide), if_pos (by decide), if_pos (by simp; omega)]
      exact congrArg some (decide_eq_true (by simp; omega))
    rw [hb, Option.bind_some, if_neg (by decide)]
    exact named_ok (j + 20) (d :: l) _ (by simp; omega) (by simp; omega) (by rw [List.all_cons, hd, hw]; rfl)
  | echo d ws hd h2 =>
    simp only [cmd_Parse.f]
    rw [if_neg (by simp; omega), show slices_Index_string_string.f (j + 20) headsL ⟨#[101, 99, 104, 111, 45, 116, 111]⟩ = some 2 by kernel_rfl, Option.bind_some, if_neg (by decide), if_neg (by decide)]
    have hb : cmd_count.f (j + 20) (2 + 1) ((d :: ws).length : Int) = some true := by
      show cmd_count.f (j + 20) 3 ((d :: ws).length : Int) = some true
      unfold cmd_count.f
      rw [if_neg (by decide), if_neg (by decide), if_pos (by decide), if_pos (by simp; omega)]
      exact congrArg some (decide_eq_true (by simp; omega))
    rw [hb, Option.bind_some, if_neg (by decide)]
    exact named_ok (j + 20) [d] _ (by simp) (by simp; omega) (by simp [hd])
  | touch d hd =>
    simp only [cmd_Parse.f]
    rw [if_neg (by simp), show slices_Index_string_string.f (j + 20) headsL ⟨#[116, 111, 117, 99, 104]⟩ = some 3 by kernel_rfl, Option.bind_some, if_neg (by decide), if_neg (by decide)]
    have hb : cmd_count.f (j + 20) (3 + 1) (([d] : List ByteArray).length : Int) = some true := rfl
    rw [hb, Option.bind_some, if_neg (by decide)]
    exact named_ok (j + 20) [d] _ (by simp) (by simp; omega) (by simp [hd])
  | remove d hd =>
    simp only [cmd_Parse.f]
    rw [if_neg (by simp), show slices_Index_string_string.f (j + 20) headsL ⟨#[114, 101, 109, 111, 118, 101]⟩ = some 4 by kernel_rfl, Option.bind_some, if_neg (by decide), if_neg (by decide)]
    have hb : cmd_count.f (j + 20) (4 + 1) (([d] : List ByteArray).length : Int) = some true := rfl
    rw [hb, Option.bind_some, if_neg (by decide)]
    exact named_ok (j + 20) [d] _ (by simp) (by simp; omega) (by simp [hd])
  | test d hd =>
    simp only [cmd_Parse.f]
    rw [if_neg (by simp), show slices_Index_string_string.f (j + 20) headsL ⟨#[116, 101, 115, 116, 45, 101, 120, 105, 115, 116, 115]⟩ = some 5 by kernel_rfl, Option.bind_some, if_neg (by decide), if_neg (by decide)]
    have hb : cmd_count.f (j + 20) (5 + 1) (([d] : List ByteArray).length : Int) = some true := rfl
    rw [hb, Option.bind_some, if_neg (by decide)]
    exact named_ok (j + 20) [d] _ (by simp) (by simp; omega) (by simp [hd])
  | fail1 =>
    simp only [cmd_Parse.f]
    rw [if_neg (by simp), show slices_Index_string_string.f (j + 20) headsL ⟨#[102, 97, 105, 108]⟩ = some 6 by kernel_rfl, Option.bind_some, if_neg (by decide), if_neg (by decide)]
    have hb : cmd_count.f (j + 20) (6 + 1) (([] : List ByteArray).length : Int) = some true := rfl
    rw [hb, Option.bind_some, if_neg (by decide)]
    rfl
  | fail n h1 h2 =>
    simp only [cmd_Parse.f]
    rw [if_neg (by simp), show slices_Index_string_string.f (j + 20) headsL ⟨#[102, 97, 105, 108]⟩ = some 6 by kernel_rfl, Option.bind_some, if_neg (by decide), if_neg (by decide)]
    have hb : cmd_count.f (j + 20) (6 + 1) (([⟨(dl n).toArray⟩] : List ByteArray).length : Int) = some true := rfl
    rw [hb, Option.bind_some, if_neg (by decide)]
    show (if (⟨(dl n).toArray⟩ : ByteArray).size ≤ 140737488355328 then (if failN ⟨(dl n).toArray⟩ = 0 then cmd_Parse.bad 160 else some (7, ByteArray.empty, [], [], failN ⟨(dl n).toArray⟩, 0)) else none) = _
    have hz : (⟨(dl n).toArray⟩ : ByteArray).size ≤ 140737488355328 := Nat.le_trans (dl_size n) (by decide)
    rw [if_pos hz, failN_dl n (by omega) (by omega), if_neg (by omega)]
  | say ws h2 =>
    simp only [cmd_Parse.f]
    rw [if_neg (by omega), show slices_Index_string_string.f (j + 20) headsL ⟨#[115, 97, 121]⟩ = some 7 by kernel_rfl, Option.bind_some, if_neg (by decide), if_neg (by decide)]
    have hb : cmd_count.f (j + 20) (7 + 1) (ws.length : Int) = some true := congrArg some (decide_eq_true (by omega))
    rw [hb, Option.bind_some, if_neg (by decide)]
    rfl
theorem kind_sizes {o : Int} {d : ByteArray} {l ws : List ByteArray} {st : Int} {wl : List ByteArray} (h : Kind o d l ws st wl) (hd : d.size ≤ 1048576) (hl : ∀ x ∈ l, x.size ≤ 1048576) (hw : ∀ x ∈ ws, x.size ≤ 1048576) :
    wl.length ≤ 514 ∧ (l.length ≤ 600 ∧ ws.length ≤ 600) ∧ ∀ x ∈ wl, x.size ≤ 1048576 := by
  cases h with
  | copy a d ha hd' => exact ⟨by simp, ⟨by simp, by simp⟩, fun x hx => by
      rcases List.mem_cons.1 hx with rfl | hx
      · decide
      rcases List.mem_cons.1 hx with rfl | hx
      · exact hl x (by simp)
      · obtain rfl := List.mem_singleton.1 hx
        exact hd⟩
  | concat d ws hd' hw' h1 h2 => exact ⟨by simp; omega, ⟨by omega, by simp⟩, fun x hx => by
      rcases List.mem_cons.1 hx with rfl | hx
      · decide
      rcases List.mem_cons.1 hx with rfl | hx
      · exact hd
      · exact hl x hx⟩
  | echo d ws hd' h2 => exact ⟨by simp; omega, ⟨by simp, by omega⟩, fun x hx => by
      rcases List.mem_cons.1 hx with rfl | hx
      · decide
      rcases List.mem_cons.1 hx with rfl | hx
      · exact hd
      · exact hw x hx⟩
  | touch d hd' => exact ⟨by simp, ⟨by simp, by simp⟩, fun x hx => by
      rcases List.mem_cons.1 hx with rfl | hx
      · decide
      · obtain rfl := List.mem_singleton.1 hx
        exact hd⟩
  | remove d hd' => exact ⟨by simp, ⟨by simp, by simp⟩, fun x hx => by
      rcases List.mem_cons.1 hx with rfl | hx
      · decide
      · obtain rfl := List.mem_singleton.1 hx
        exact hd⟩
  | test d hd' => exact ⟨by simp, ⟨by simp, by simp⟩, fun x hx => by
      rcases List.mem_cons.1 hx with rfl | hx
      · decide
      · obtain rfl := List.mem_singleton.1 hx
        exact hl x (by simp)⟩
  | fail1 => exact ⟨by simp, ⟨by simp, by simp⟩, fun x hx => by
      obtain rfl := List.mem_singleton.1 hx
      decide⟩
  | fail n h1 h2 => exact ⟨by simp, ⟨by simp, by simp⟩, fun x hx => by
      rcases List.mem_cons.1 hx with rfl | hx
      · decide
      · obtain rfl := List.mem_singleton.1 hx
        exact dl_size n⟩
  | say ws h2 => exact ⟨by simp; omega, ⟨by simp, by omega⟩, fun x hx => by
      rcases List.mem_cons.1 hx with rfl | hx
      · decide
      · exact hw x hx⟩
theorem mk_of (l : List ByteArray) : (l.map (·.data.toList)).map mkW = l := by
  induction l with
  | nil => rfl
  | cons x r ih => rw [List.map_cons, List.map_cons, ih]; rfl
theorem lens_le (M : Nat) : ∀ l : List (List UInt8), (∀ x ∈ l, x.length ≤ M) → Lib.lens l ≤ l.length * M
  | [], _ => by simp [Lib.lens]
  | x :: r, h => by
    have ih := lens_le M r (fun y hy => h y (List.mem_cons_of_mem _ hy))
    have hx := h x (List.mem_cons_self ..)
    have e : Lib.lens (x :: r) = x.length + Lib.lens r := by simp [Lib.lens]
    rw [e, List.length_cons, Nat.succ_mul]
    omega
theorem CmdBack (k : Nat) (hk : 70000 ≤ k) (op : Int) (dst : ByteArray) (src words : List ByteArray) (st : Int) (hl : src.length ≤ 8796093022200) (hws : words.length ≤ 8796093022200)
    (z1 : dst.size ≤ 1048576) (z2 : ∀ x ∈ src, x.size ≤ 1048576) (z3 : ∀ x ∈ words, x.size ≤ 1048576) : smithylaw16_CmdBack.f k op dst src words st = some true := by
  unfold smithylaw16_CmdBack.f
  rcases check_kind k (by omega) op dst src words st hl hws with ⟨er, he, h⟩ | ⟨wl, h⟩
  · rw [h, Option.bind_some, if_neg he]
  · obtain ⟨n1, ⟨n2, n3⟩, z⟩ := kind_sizes h z1 z2 z3
    have hw := kind_words h k (by omega)
    have hp := kind_parse h k (by omega)
    obtain ⟨ws, hwl⟩ : ∃ ws, wl.map (·.data.toList) = ws := ⟨_, rfl⟩
    have hmk : ws.map mkW = wl := by rw [← hwl, mk_of]
    have hlen : ws.length = wl.length := by rw [← hwl, List.length_map]
    have h4 : ∀ w ∈ ws, w.length ≤ 1048576 := by
      intro w hw
      rw [← hwl] at hw
      obtain ⟨x, hx, rfl⟩ := List.mem_map.1 hw
      have := z x hx
      simpa using this
    have hsum := lens_le 1048576 ws h4
    have hpl := printL_len ws
    have hsum2 : ws.length * 1048576 ≤ 514 * 1048576 := Nat.mul_le_mul_right _ (by omega)
    have hpr := print_all ws h4 (by omega) (by omega) k (by omega)
    have hs2 : (mkW (printL ws)).size = (printL ws).length := by simp [mkW, ByteArray.size]
    have hP : cmd_Print.f k op dst src words st = some (mkW (printL ws), 0) := by
      unfold cmd_Print.f
      rw [hw, Option.bind_some]
      show (if (0 : Int) = 0 then ((lex_Print.f k wl).bind fun t => some (t, 0)) else _) = _
      rw [if_pos rfl, ← hmk, hpr]
      rfl
    have hL : ¬ ((mkW (printL ws)).size : Int) > 65536 → cmd_Line.f k (mkW (printL ws)) = some (op, dst, src, words, st, 0) := by
      intro hbig
      have hsm : (printL ws).length ≤ 65536 := by rw [hs2] at hbig; omega
      have e2 : wordsA (mkW (printL ws)) = (ws.map mkW, 0) := by
        unfold wordsA
        rw [hs2, if_neg (by omega)]
        have : (mkW (printL ws)).data.toList = printL ws := by simp [mkW]
        rw [this, wordsN_print ws _ (Nat.le_refl _)]
        rfl
      unfold cmd_Line.f
      rw [words_all _ _ (by omega), Option.bind_some, e2, hmk]
      show (if (0 : Int) = 0 then ((cmd_Parse.f k wl).bind fun t => some (t.1, t.2.1, t.2.2.1, t.2.2.2.1, t.2.2.2.2.1, t.2.2.2.2.2)) else _) = _
      rw [if_pos rfl, hp]
      rfl
    rw [kind_check h k (by omega), Option.bind_some, if_pos rfl, hw, Option.bind_some, hP, Option.bind_some, if_pos ⟨rfl, rfl, hp, same_refl k op dst src words st n2 n3 (by omega), hL⟩]
end Go.Proofs.YtpiafpkpdbknfaaGreatDoor.Pure
