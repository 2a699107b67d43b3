/- The plain law under CmdSides: which commands write, and which read nothing, hangs on their operation alone. Conditions: none beyond the statement's own. -/
import Derived.Test.YtpiafpkpdbknfaaGreatDoorPCmdSidesx6
import Derived.Test.YtpiafpkpdbknfaaGreatDoorSName
namespace Go.Proofs.YtpiafpkpdbknfaaGreatDoor.Pure
open Go.RowKit Go.Proofs.YtpiafpkpdbknfaaGreatDoor.PCmdSides Go.Proofs.YtpiafpkpdbknfaaGreatDoorW.PrintWords Go.Proofs.YtpiafpkpdbknfaaGreatDoorW.PrintLast Go.Proofs.YtpiafpkpdbknfaaGreatDoor.Sup
set_option linter.unusedVariables false
set_option linter.unusedSimpArgs false

theorem rd_at (l : List ByteArray) (i : Nat) (h : i < l.length) : rdOf ByteArray.empty l (i : Int) = l[i] := by
  simp [rdOf, h]
theorem w64p {x : Int} (h0 : 0 ≤ x) (h : x ≤ 4611686018427387904) : wrap64 x = x := by unfold wrap64; omega
theorem w64i (i : Nat) (h : i ≤ 4611686018427387000) : wrap64 ((i : Int) + 1) = ((i + 1 : Nat) : Int) := by rw [w64p (by omega) (by omega)]; rfl
theorem btn (s : ByteArray) (i : Nat) (h : i < s.size) : bt s (i : Int) = ((s.data.toList[i]'(by simpa using h)).toNat : Int) := by simp [bt, h]; rfl
/-- Is a text a name? -/
def nameB (s : ByteArray) : Bool := s.data.toList.all nameC && (decide (0 < s.size) && decide (s.size ≤ 64))
theorem letter_all : ∀ n : Nat, n < 256 → names_letter.f (n : Int) = some (nameN (n : Int)) := by decide +kernel
theorem letter_of (c : UInt8) : names_letter.f (c.toNat : Int) = some (nameC c) := letter_all c.toNat (UInt8.toNat_lt c)
theorem drop_all {l : List UInt8} {i : Nat} (h : i < l.length) : (l.drop i).all nameC = (nameC l[i] && (l.drop (i + 1)).all nameC) := by
  rw [List.drop_eq_getElem_cons h, List.all_cons]
theorem check_loop (s : ByteArray) (hs : s.size ≤ 4294967296) : ∀ (n k i : Nat), s.size - i ≤ n → i ≤ s.size → n < k → names_Check.l0 k s (s.size : Int) (i : Int) = some (if (s.data.toList.drop i).all nameC then 0 else 3) := by
  intro n
  induction n with
  | zero =>
    intro k i hn hi hk
    obtain ⟨k, rfl⟩ : ∃ m, k = m + 1 := ⟨k - 1, by omega⟩
    simp only [names_Check.l0]
    rw [if_neg (by omega), List.drop_of_length_le (by simp; omega)]
    rfl
  | succ n ih =>
    intro k i hn hi hk
    obtain ⟨k, rfl⟩ : ∃ m, k = m + 1 := ⟨k - 1, by omega⟩
    simp only [names_Check.l0]
    by_cases hlt : i < s.size
    · have hl : i < s.data.toList.length := by simpa using hlt
      have h1 : (i : Int) < (s.size : Int) := by omega
      have h0 : (0 : Int) ≤ (i : Int) := by omega
      rw [if_pos h1, if_pos h0, if_pos h1, btn s i hlt, letter_of, Option.bind_some, drop_all hl]
      cases hc : nameC s.data.toList[i] with
      | true => rw [if_pos rfl, w64i i (by omega), ih k (i + 1) (by omega) (by omega) (by omega), Bool.true_and]
      | false => rfl
    · rw [if_neg (by omega), List.drop_of_length_le (by simp; omega)]
      rfl
theorem check_of (s : ByteArray) (k : Nat) (hk : 80 < k) : names_Check.f k s = some (if nameB s then 0 else 3) := by
  obtain ⟨k, rfl⟩ : ∃ m, k = m + 1 := ⟨k - 1, by omega⟩
  unfold names_Check.f nameB
  by_cases h0 : (s.size : Int) = 0
  · rw [if_pos h0]
    simp only [names_Check.j0]
    rw [if_pos trivial, decide_eq_false (show ¬ 0 < s.size by omega), Bool.false_and, Bool.and_false]
    rfl
  · rw [if_neg h0, decide_eq_true (show 0 < s.size by omega), Bool.true_and]
    simp only [names_Check.j0]
    by_cases h6 : s.size ≤ 64
    · have hl := check_loop s (by omega) 64 k 0 (by omega) (by omega) (by omega)
      rw [if_neg (by simp; omega), show names_Check.l0 k s (s.size : Int) 0 = _ from hl, decide_eq_true h6, Bool.and_true]
      rfl
    · rw [if_pos (by simp; omega), decide_eq_false h6, Bool.and_false]
      rfl
theorem files_loop (l : List ByteArray) (hl : l.length ≤ 4294967296) : ∀ (n k i : Nat), l.length - i ≤ n → i ≤ l.length → n + 90 < k → cmd_files.l0 k l (l.length : Int) (i : Int) = some (if (l.drop i).all nameB then 0 else 3) := by
  intro n
  induction n with
  | zero =>
    intro k i hn hi hk
    obtain ⟨k, rfl⟩ : ∃ m, k = m + 1 := ⟨k - 1, by omega⟩
    simp only [cmd_files.l0]
    rw [if_neg (by omega), List.drop_of_length_le (by omega)]
    rfl
  | succ n ih =>
    intro k i hn hi hk
    obtain ⟨k, rfl⟩ : ∃ m, k = m + 1 := ⟨k - 1, by omega⟩
    simp only [cmd_files.l0]
    by_cases hlt : i < l.length
    · have h1 : (i : Int) < (l.length : Int) := by omega
      have h0 : (0 : Int) ≤ (i : Int) := by omega
      rw [if_pos h1, if_pos h0, if_pos h1, rd_at l i hlt, check_of _ k (by omega), Option.bind_some, List.drop_eq_getElem_cons hlt, List.all_cons]
      cases hc : nameB l[i] with
      | true => rw [if_pos rfl, if_pos rfl, w64i i (by omega), ih k (i + 1) (by omega) (by omega) (by omega), Bool.true_and]
      | false => rfl
    · rw [if_neg (by omega), List.drop_of_length_le (by omega)]
      rfl
theorem files_of (l : List ByteArray) (k : Nat) (hl : l.length ≤ 4294967296) (hk : l.length + 90 < k) : cmd_files.f k l = some (if l.all nameB then 0 else 3) :=
  files_loop l hl l.length k 0 (by omega) (by omega) hk
theorem toList_ne {a b : ByteArray} (h : a ≠ b) : ¬ a.toList = b.toList := by
  intro e
  rw [ByteArray.toList_eq, ByteArray.toList_eq] at e
  exact h (ByteArray.ext (Array.ext' e))
/-- The digits of a small number. -/
def dl (v : Nat) : List UInt8 := if v < 10 then [UInt8.ofNat (48 + v)] else if v < 100 then [UInt8.ofNat (48 + v / 10), UInt8.ofNat (48 + v % 10)] else [UInt8.ofNat (48 + v / 100), UInt8.ofNat (48 + v / 10 % 10), UInt8.ofNat (48 + v % 10)]
theorem itoa_dl (v : Nat) (h : v < 1000) : Lib.itoa (v : Int) = dl v := by
  rw [Lib.itoa_nonneg]
  unfold dl
  split
  · rename_i h1; exact Lib.decDigits_one h1
  · rename_i h1
    split
    · rename_i h2; exact Lib.decDigits_two h1 h2
    · rename_i h2
      rw [Lib.decDigits, dif_neg h1, Lib.decDigits_two (by omega) (by omega)]
      rw [Nat.div_div_eq_div_mul]
      rfl
set_option maxRecDepth 100000 in
theorem atoi_dl : ∀ v : Nat, v < 256 → 1 ≤ v → (match Lib.atoiAll (dl v) with | .ok u => u == (v : Int) | _ => false) = true := by decide +kernel
theorem atoi_dl' (v : Nat) (h : v < 256) (h1 : 1 ≤ v) : Lib.atoiAll (dl v) = .ok (v : Int) := by
  have := atoi_dl v h h1
  revert this
  cases Lib.atoiAll (dl v) with
  | ok u => intro e; rw [beq_iff_eq.1 e]
  | _ => intro e; cases e
theorem failN_dl (v : Nat) (h : v < 256) (h1 : 1 ≤ v) : failN ⟨(dl v).toArray⟩ = (v : Int) := by
  rw [failN_ok (v := (v : Int)) (by simpa using atoi_dl' v h h1), itoa_dl v (by omega), if_pos ⟨rfl, by omega, by omega⟩]
theorem fail_stat (s : ByteArray) (h : failN s ≠ 0) : ∃ v : Nat, v < 256 ∧ 1 ≤ v ∧ s = ⟨(dl v).toArray⟩ := by
  unfold failN at h
  split at h
  · rename_i v hv
    split at h
    · rename_i hq
      obtain ⟨n, rfl⟩ : ∃ n : Nat, v = (n : Int) := ⟨v.toNat, by omega⟩
      exact ⟨n, by omega, by omega, by rw [← hq.1, itoa_dl n (by omega)]⟩
    · exact absurd rfl h
  · exact absurd rfl h
set_option maxRecDepth 100000 in
theorem idx_word (k : Nat) (x : ByteArray) : ∃ i : Int, slices_Index_string_string.f (k + 20) headsL x = some i ∧ (i = -1 ∨ ∃ n : Nat, n < 8 ∧ i = (n : Int) ∧ headsL[n]? = some x) := by
  by_cases h0 : (⟨#[99, 111, 112, 121]⟩ : ByteArray) = x
  · subst h0; exact ⟨0, by kernel_rfl, .inr ⟨0, by decide, rfl, rfl⟩⟩
  by_cases h1 : (⟨#[99, 111, 110, 99, 97, 116]⟩ : ByteArray) = x
  · subst h1; exact ⟨1, by kernel_rfl, .inr ⟨1, by decide, rfl, rfl⟩⟩
  by_cases h2 : (⟨#[101, 99, 104, 111, 45, 116, 111]⟩ : ByteArray) = x
  · subst h2; exact ⟨2, by kernel_rfl, .inr ⟨2, by decide, rfl, rfl⟩⟩
  by_cases h3 : (⟨#[116, 111, 117, 99, 104]⟩ : ByteArray) = x
  · subst h3; exact ⟨3, by kernel_rfl, .inr ⟨3, by decide, rfl, rfl⟩⟩
  by_cases h4 : (⟨#[114, 101, 109, 111, 118, 101]⟩ : ByteArray) = x
  · subst h4; exact ⟨4, by kernel_rfl, .inr ⟨4, by decide, rfl, rfl⟩⟩
  by_cases h5 : (⟨#[116, 101, 115, 116, 45, 101, 120, 105, 115, 116, 115]⟩ : ByteArray) = x
  · subst h5; exact ⟨5, by kernel_rfl, .inr ⟨5, by decide, rfl, rfl⟩⟩
  by_cases h6 : (⟨#[102, 97, 105, 108]⟩ : ByteArray) = x
  · subst h6; exact ⟨6, by kernel_rfl, .inr ⟨6, by decide, rfl, rfl⟩⟩
  by_cases h7 : (⟨#[115, 97, 121]⟩ : ByteArray) = x
  · subst h7; exact ⟨7, by kernel_rfl, .inr ⟨7, by decide, rfl, rfl⟩⟩
  refine ⟨-1, ?_, .inl rfl⟩
  have st : ∀ (n i : Nat) (y : ByteArray), i < 8 → headsL[i]? = some y → ¬ y = x → slices_Index_string_string.l0 (n + 1) headsL x 8 (i : Int) = slices_Index_string_string.l0 n headsL x 8 ((i + 1 : Nat) : Int) := by
    intro n i y hi hy hne
    have hlen : i < headsL.length := hi
    have hg : headsL[i] = y := by rw [List.getElem?_eq_getElem hlen] at hy; exact Option.some.inj hy
    have h8 : (headsL.length : Int) = 8 := rfl
    simp only [slices_Index_string_string.l0]
    rw [if_pos (by omega), if_pos (by omega), if_pos (by omega), rd_at headsL i hlen, hg, if_neg (fun e => toList_ne hne e.symm), w64i i (by omega)]
  show slices_Index_string_string.l0 (k + 20) headsL x 8 ((0 : Nat) : Int) = _
  rw [st (k + 19) 0 _ (by decide) rfl h0, st (k + 18) 1 _ (by decide) rfl h1, st (k + 17) 2 _ (by decide) rfl h2, st (k + 16) 3 _ (by decide) rfl h3, st (k + 15) 4 _ (by decide) rfl h4, st (k + 14) 5 _ (by decide) rfl h5, st (k + 13) 6 _ (by decide) rfl h6, st (k + 12) 7 _ (by decide) rfl h7]
  rfl
theorem first_two (k : Nat) : cmd_first.f (k + 5) [0, 0] = some 0 := by kernel_rfl
/-- Whether a command is right, and its words: by its kind. -/
theorem files1 (k : Nat) (d : ByteArray) (hd : nameB d = true) (hk : 200 ≤ k) : cmd_files.f k [d] = some 0 := by
  rw [files_of [d] k (by simp) (by simp; omega)]
  simp [hd]
theorem check_1 (k : Nat) (a d : ByteArray) (ha : nameB a = true) (hd : nameB d = true) (hk : 2000 ≤ k) : cmd_Check.f k 1 d [a] [] 0 = some 0 := by
  unfold cmd_Check.f
  rw [if_pos ⟨by simp, by simp⟩, show cmd_Check.shape 1 d [a] [] 0 = 1 from rfl]
  show cmd_copying_right.f k a d = _
  unfold cmd_copying_right.f
  rw [files_of [d, a] k (by simp) (by simp; omega)]
  simp [ha, hd]
theorem check_2 (k : Nat) (d : ByteArray) (ws : List ByteArray) (hd : nameB d = true) (hw : ws.all nameB = true) (h1 : 1 ≤ ws.length) (h2 : ws.length ≤ 64) (hk : 2000 ≤ k) : cmd_Check.f k 2 d ws [] 0 = some 0 := by
  unfold cmd_Check.f
  rw [if_pos ⟨by omega, by simp⟩, show cmd_Check.shape 2 d ws [] 0 = 2 by unfold cmd_Check.shape; rw [if_neg (fun h => absurd h.1 (by decide)), if_pos ⟨rfl, rfl, rfl, by omega⟩]]
  show cmd_joining_right.f k d ws = _
  obtain ⟨k, rfl⟩ : ∃ m, k = m + 6 := ⟨k - 6, by omega⟩
  unfold cmd_joining_right.f
  rw [if_neg (by omega)]
  simp only [cmd_joining_right.j0]
  rw [if_neg (by simp; omega), files1 (k + 5) d hd (by omega), Option.bind_some, files_of ws (k + 5) (by omega) (by omega), if_pos hw, Option.bind_some, first_two]
  rfl
theorem few_of (ws : List ByteArray) (h : ws.length ≤ 512) : cmd_few.f ws = some 0 := by
  unfold cmd_few.f
  rw [if_neg (by omega)]
theorem check_3 (k : Nat) (d : ByteArray) (ws : List ByteArray) (hd : nameB d = true) (h2 : ws.length ≤ 512) (hk : 2000 ≤ k) : cmd_Check.f k 3 d [] ws 0 = some 0 := by
  unfold cmd_Check.f
  rw [if_pos ⟨by simp, by omega⟩, show cmd_Check.shape 3 d [] ws 0 = 3 by unfold cmd_Check.shape; rw [if_neg (fun h => absurd h.1 (by decide)), if_neg (fun h => absurd h.1 (by decide)), if_pos ⟨rfl, rfl, rfl, by omega⟩]]
  show cmd_echoing_right.f k d ws = _
  obtain ⟨k, rfl⟩ : ∃ m, k = m + 5 := ⟨k - 5, by omega⟩
  unfold cmd_echoing_right.f
  rw [few_of ws h2, Option.bind_some, files1 (k + 5) d hd (by omega), Option.bind_some, first_two]
  rfl
theorem check_4 (k : Nat) (d : ByteArray) (hd : nameB d = true) (hk : 2000 ≤ k) : cmd_Check.f k 4 d [] [] 0 = some 0 := by
  unfold cmd_Check.f
  rw [if_pos ⟨by simp, by simp⟩, show cmd_Check.shape 4 d [] [] 0 = 4 from rfl]
  show cmd_touching_right.f k d = _
  unfold cmd_touching_right.f
  rw [files1 k d hd (by omega)]
  rfl
theorem check_5 (k : Nat) (d : ByteArray) (hd : nameB d = true) (hk : 2000 ≤ k) : cmd_Check.f k 5 d [] [] 0 = some 0 := by
  unfold cmd_Check.f
  rw [if_pos ⟨by simp, by simp⟩, show cmd_Check.shape 5 d [] [] 0 = 5 from rfl]
  show cmd_removing_right.f k d = _
  unfold cmd_removing_right.f
  rw [files1 k d hd (by omega)]
  rfl
theorem check_6 (k : Nat) (d : ByteArray) (hd : nameB d = true) (hk : 2000 ≤ k) : cmd_Check.f k 6 ByteArray.empty [d] [] 0 = some 0 := by
  unfold cmd_Check.f
  rw [if_pos ⟨by simp, by simp⟩, show cmd_Check.shape 6 ByteArray.empty [d] [] 0 = 6 from rfl]
  show cmd_testing_right.f k d = _
  unfold cmd_testing_right.f
  rw [files1 k d hd (by omega)]
  rfl
theorem check_7 (k : Nat) (st : Int) (h1 : 1 ≤ st) (h2 : st ≤ 255) : cmd_Check.f k 7 ByteArray.empty [] [] st = some 0 := by
  unfold cmd_Check.f
  rw [if_pos ⟨by simp, by simp⟩, show cmd_Check.shape 7 ByteArray.empty [] [] st = 7 by unfold cmd_Check.shape; rw [if_neg (fun h => absurd h.1 (by decide)), if_neg (fun h => absurd h.1 (by decide)), if_neg (fun h => absurd h.1 (by decide)), if_neg (fun h => absurd h.1 (by decide)), if_neg (fun h => absurd h.1 (by decide)), if_neg (fun h => absurd h.1 (by decide)), if_pos ⟨rfl, rfl, rfl, rfl⟩]]
  show cmd_failing_right.f st = _
  unfold cmd_failing_right.f
  rw [if_neg (by omega), if_neg (by omega)]
theorem check_8 (k : Nat) (ws : List ByteArray) (h2 : ws.length ≤ 512) : cmd_Check.f k 8 ByteArray.empty [] ws 0 = some 0 := by
  unfold cmd_Check.f
  rw [if_pos ⟨by simp, by omega⟩, show cmd_Check.shape 8 ByteArray.empty [] ws 0 = 8 by unfold cmd_Check.shape; rw [if_neg (fun h => absurd h.1 (by decide)), if_neg (fun h => absurd h.1 (by decide)), if_neg (fun h => absurd h.1 (by decide)), if_neg (fun h => absurd h.1 (by decide)), if_neg (fun h => absurd h.1 (by decide)), if_neg (fun h => absurd h.1 (by decide)), if_neg (fun h => absurd h.1 (by decide)), if_pos ⟨rfl, rfl, rfl, rfl, by omega⟩]]
  show cmd_saying_right.f ws = _
  unfold cmd_saying_right.f
  rw [few_of ws h2]
  rfl
/-- A command's kind: its fields are those of a right command, and its words are these. -/
inductive Kind : Int → ByteArray → List ByteArray → List ByteArray → Int → List ByteArray → Prop
  | copy (a d) (ha : nameB a = true) (hd : nameB d = true) : Kind 1 d [a] [] 0 [⟨#[99, 111, 112, 121]⟩, a, d]
  | concat (d ws) (hd : nameB d = true) (hw : ws.all nameB = true) (h1 : 1 ≤ ws.length) (h2 : ws.length ≤ 64) : Kind 2 d ws [] 0 (⟨#[99, 111, 110, 99, 97, 116]⟩ :: d :: ws)
  | echo (d ws) (hd : nameB d = true) (h2 : ws.length ≤ 512) : Kind 3 d [] ws 0 (⟨#[101, 99, 104, 111, 45, 116, 111]⟩ :: d :: ws)
  | touch (d) (hd : nameB d = true) : Kind 4 d [] [] 0 [⟨#[116, 111, 117, 99, 104]⟩, d]
  | remove (d) (hd : nameB d = true) : Kind 5 d [] [] 0 [⟨#[114, 101, 109, 111, 118, 101]⟩, d]
  | test (d) (hd : nameB d = true) : Kind 6 ByteArray.empty [d] [] 0 [⟨#[116, 101, 115, 116, 45, 101, 120, 105, 115, 116, 115]⟩, d]
  | fail1 : Kind 7 ByteArray.empty [] [] 1 [⟨#[102, 97, 105, 108]⟩]
  | fail (n : Nat) (h1 : 2 ≤ n) (h2 : n ≤ 255) : Kind 7 ByteArray.empty [] [] (n : Int) [⟨#[102, 97, 105, 108]⟩, ⟨(dl n).toArray⟩]
  | say (ws) (h2 : ws.length ≤ 512) : Kind 8 ByteArray.empty [] ws 0 (⟨#[115, 97, 121]⟩ :: ws)
theorem kind_check {o : Int} {d : ByteArray} {l ws : List ByteArray} {st : Int} {wl : List ByteArray} (h : Kind o d l ws st wl) (k : Nat) (hk : 2000 ≤ k) : cmd_Check.f k o d l ws st = some 0 := by
  cases h with
  | copy a d ha hd => exact check_1 k a d ha hd hk
  | concat d ws hd hw h1 h2 => exact check_2 k d l hd hw h1 h2 hk
  | echo d ws hd h2 => exact check_3 k d ws hd h2 hk
  | touch d hd => exact check_4 k d hd hk
  | remove d hd => exact check_5 k d hd hk
  | test d hd => exact check_6 k d hd hk
  | fail1 => exact check_7 k 1 (by decide) (by decide)
  | fail n h1 h2 => exact check_7 k n (by omega) (by omega)
  | say ws h2 => exact check_8 k ws h2
theorem files_c (l : List ByteArray) (k : Nat) (hl : l.length ≤ 64) (hk : 2000 ≤ k) : (cmd_files.f k l = some 0 ∧ l.all nameB = true) ∨ cmd_files.f k l = some 3 := by
  rw [files_of l k (by omega) (by omega)]
  cases h : l.all nameB
  · exact .inr rfl
  · exact .inl ⟨rfl, rfl⟩
theorem first_03 (k : Nat) : cmd_first.f (k + 5) [0, 3] = some 3 := by kernel_rfl
theorem first_30 (k : Nat) : cmd_first.f (k + 5) [3, 0] = some 3 := by kernel_rfl
theorem first_33 (k : Nat) : cmd_first.f (k + 5) [3, 3] = some 3 := by kernel_rfl
theorem first_w0 (k : Nat) : cmd_first.f (k + 5) [160, 0] = some 160 := by kernel_rfl
theorem first_w3 (k : Nat) : cmd_first.f (k + 5) [160, 3] = some 160 := by kernel_rfl
/-- What the object answers that is asked for its check. -/
def chkOf (k j : Nat) (d : ByteArray) (l ws : List ByteArray) (st : Int) : Option Int := match j with
  | 1 => cmd_copying_right.f k (l.headD ByteArray.empty) d
  | 2 => cmd_joining_right.f k d l
  | 3 => cmd_echoing_right.f k d ws
  | 4 => cmd_touching_right.f k d
  | 5 => cmd_removing_right.f k d
  | 6 => cmd_testing_right.f k (l.headD ByteArray.empty)
  | 7 => cmd_failing_right.f st
  | 8 => cmd_saying_right.f ws
  | _ => some 160
/-- A command that is wrong is told with an error; else it has a kind. -/
theorem check_kind (k : Nat) (hk : 2100 ≤ k) (o : Int) (d : ByteArray) (l ws : List ByteArray) (st : Int) (hl : l.length ≤ 8796093022200) (hws : ws.length ≤ 8796093022200) :
    (∃ er, er ≠ 0 ∧ cmd_Check.f k o d l ws st = some er) ∨ ∃ wl, Kind o d l ws st wl := by
  obtain ⟨k, rfl⟩ : ∃ m, k = m + 6 := ⟨k - 6, by omega⟩
  unfold cmd_Check.f
  rw [if_pos ⟨hl, hws⟩]
  show (∃ er, er ≠ 0 ∧ chkOf (k + 6) (cmd_Check.shape o d l ws st) d l ws st = some er) ∨ ∃ wl, Kind o d l ws st wl
  refine cmd_Check.cases_ o d l ws st (P := fun o d l ws st j => (∃ er, er ≠ 0 ∧ chkOf (k + 6) j d l ws st = some er) ∨ ∃ wl, Kind o d l ws st wl) ?_ ?_ ?_ ?_ ?_ ?_ ?_ ?_ ?_
  · intro s
    show (∃ er, er ≠ 0 ∧ cmd_copying_right.f (k + 6) s d = some er) ∨ _
    unfold cmd_copying_right.f
    rcases files_c [d, s] (k + 6) (by simp) (by omega) with ⟨h, ha⟩ | h
    · have hd : nameB d = true ∧ nameB s = true := by simpa using ha
      exact .inr ⟨_, .copy s d hd.2 hd.1⟩
    · exact .inl ⟨3, by decide, by rw [h]; rfl⟩
  · intro _
    show (∃ er, er ≠ 0 ∧ cmd_joining_right.f (k + 6) d l = some er) ∨ _
    unfold cmd_joining_right.f
    by_cases h1 : (l.length : Int) < 1
    · exact .inl ⟨160, by decide, by rw [if_pos h1]; simp only [cmd_joining_right.j0]; rw [if_pos trivial]⟩
    rw [if_neg h1]
    by_cases h64 : (l.length : Int) > 64
    · exact .inl ⟨160, by decide, by rw [decide_eq_true h64]; simp only [cmd_joining_right.j0]; rw [if_pos trivial]⟩
    rw [decide_eq_false h64]
    simp only [cmd_joining_right.j0]
    rw [if_neg (by decide)]
    rcases files_c [d] (k + 5) (by simp) (by omega) with ⟨h, ha⟩ | h
    · have hd : nameB d = true := by simpa using ha
      rcases files_c l (k + 5) (by omega) (by omega) with ⟨g, hb⟩ | g
      · exact .inr ⟨_, .concat d l hd hb (by omega) (by omega)⟩
      · exact .inl ⟨3, by decide, by rw [h, Option.bind_some, g, Option.bind_some, first_03]; rfl⟩
    · rcases files_c l (k + 5) (by omega) (by omega) with ⟨g, hb⟩ | g
      · exact .inl ⟨3, by decide, by rw [h, Option.bind_some, g, Option.bind_some, first_30]; rfl⟩
      · exact .inl ⟨3, by decide, by rw [h, Option.bind_some, g, Option.bind_some, first_33]; rfl⟩
  · intro _
    show (∃ er, er ≠ 0 ∧ cmd_echoing_right.f (k + 6) d ws = some er) ∨ _
    unfold cmd_echoing_right.f
    by_cases h1 : (ws.length : Int) > 512
    · have hf : cmd_few.f ws = some 160 := by unfold cmd_few.f; rw [if_pos h1]
      rcases files_c [d] (k + 6) (by simp) (by omega) with ⟨h, ha⟩ | h
      · exact .inl ⟨160, by decide, by rw [hf, Option.bind_some, h, Option.bind_some, first_w0]; rfl⟩
      · exact .inl ⟨160, by decide, by rw [hf, Option.bind_some, h, Option.bind_some, first_w3]; rfl⟩
    · rcases files_c [d] (k + 6) (by simp) (by omega) with ⟨h, ha⟩ | h
      · have hd : nameB d = true := by simpa using ha
        exact .inr ⟨_, .echo d ws hd (by omega)⟩
      · exact .inl ⟨3, by decide, by rw [few_of ws (by omega), Option.bind_some, h, Option.bind_some, first_03]; rfl⟩
  · show (∃ er, er ≠ 0 ∧ cmd_touching_right.f (k + 6) d = some er) ∨ _
    unfold cmd_touching_right.f
    rcases files_c [d] (k + 6) (by simp) (by omega) with ⟨h, ha⟩ | h
    · exact .inr ⟨_, .touch d (by simpa using ha)⟩
    · exact .inl ⟨3, by decide, by rw [h]; rfl⟩
  · show (∃ er, er ≠ 0 ∧ cmd_removing_right.f (k + 6) d = some er) ∨ _
    unfold cmd_removing_right.f
    rcases files_c [d] (k + 6) (by simp) (by omega) with ⟨h, ha⟩ | h
    · exact .inr ⟨_, .remove d (by simpa using ha)⟩
    · exact .inl ⟨3, by decide, by rw [h]; rfl⟩
  · intro s
    show (∃ er, er ≠ 0 ∧ cmd_testing_right.f (k + 6) s = some er) ∨ _
    unfold cmd_testing_right.f
    rcases files_c [s] (k + 6) (by simp) (by omega) with ⟨h, ha⟩ | h
    · exact .inr ⟨_, .test s (by simpa using ha)⟩
    · exact .inl ⟨3, by decide, by rw [h]; rfl⟩
  · show (∃ er, er ≠ 0 ∧ cmd_failing_right.f st = some er) ∨ _
    unfold cmd_failing_right.f
    by_cases h1 : st < 1
    · exact .inl ⟨160, by decide, by rw [if_pos h1]⟩
    by_cases h2 : st > 255
    · exact .inl ⟨160, by decide, by rw [if_neg h1, if_pos h2]⟩
    obtain ⟨n, rfl⟩ : ∃ n : Nat, st = (n : Int) := ⟨st.toNat, by omega⟩
    by_cases h3 : n = 1
    · subst h3; exact .inr ⟨_, .fail1⟩
    · exact .inr ⟨_, .fail n (by omega) (by omega)⟩
  · intro _
    show (∃ er, er ≠ 0 ∧ cmd_saying_right.f ws = some er) ∨ _
    unfold cmd_saying_right.f
    by_cases h1 : (ws.length : Int) > 512
    · exact .inl ⟨160, by decide, by unfold cmd_few.f; rw [if_pos h1]; rfl⟩
    · exact .inr ⟨_, .say ws (by omega)⟩
  · intro _
    exact .inl ⟨160, by decide, rfl⟩
theorem idx_loop (l : List ByteArray) (x : ByteArray) (hl : l.length ≤ 4294967296) : ∀ (n k i : Nat), l.length - i ≤ n → i ≤ l.length → n < k → ∃ r, slices_Index_string_string.l0 k l x (l.length : Int) (i : Int) = some r := by
  intro n
  induction n with
  | zero =>
    intro k i hn hi hk
    obtain ⟨k, rfl⟩ : ∃ m, k = m + 1 := ⟨k - 1, by omega⟩
    simp only [slices_Index_string_string.l0]
    rw [if_neg (by omega)]
    exact ⟨_, rfl⟩
  | succ n ih =>
    intro k i hn hi hk
    obtain ⟨k, rfl⟩ : ∃ m, k = m + 1 := ⟨k - 1, by omega⟩
    simp only [slices_Index_string_string.l0]
    by_cases hi' : i < l.length
    · rw [if_pos (by omega), if_pos (by omega), if_pos (by omega)]
      split
      · exact ⟨_, rfl⟩
      · rw [w64i i (by omega)]
        exact ih k (i + 1) (by omega) (by omega) (by omega)
    · rw [if_neg (by omega)]
      exact ⟨_, rfl⟩
theorem has_some (l : List ByteArray) (x : ByteArray) (k : Nat) (hl : l.length ≤ 4294967296) (hk : l.length < k) : ∃ b, slices_Contains_string_string.f k l x = some b := by
  unfold slices_Contains_string_string.f slices_Index_string_string.f
  obtain ⟨r, h⟩ := idx_loop l x hl l.length k 0 (by omega) (by omega) hk
  have h' : slices_Index_string_string.l0 k l x (l.length : Int) 0 = some r := h
  rw [h', Option.bind_some]
  exact ⟨_, rfl⟩
theorem has_nil (x : ByteArray) (k : Nat) : slices_Contains_string_string.f (k + 1) [] x = some false := by
  unfold slices_Contains_string_string.f slices_Index_string_string.f
  simp only [slices_Index_string_string.l0]
  rw [if_neg (by simp)]
  rfl
theorem uniq_loop (l : List ByteArray) (hl : l.length ≤ 64) : ∀ (n k i : Nat) (acc : List ByteArray), l.length - i ≤ n → i ≤ l.length → acc.length ≤ i → n + 70 < k → ∃ r, names_Unique.l0 k acc l (l.length : Int) (i : Int) = some r ∧ (0 < acc.length ∨ i < l.length → 0 < r.length) := by
  intro n
  induction n with
  | zero =>
    intro k i acc hn hi ha hk
    obtain ⟨k, rfl⟩ : ∃ m, k = m + 1 := ⟨k - 1, by omega⟩
    simp only [names_Unique.l0]
    rw [if_neg (by omega)]
    exact ⟨_, rfl, fun h => h.resolve_right (by omega)⟩
  | succ n ih =>
    intro k i acc hn hi ha hk
    obtain ⟨k, rfl⟩ : ∃ m, k = m + 1 := ⟨k - 1, by omega⟩
    simp only [names_Unique.l0]
    by_cases hi' : i < l.length
    · rw [if_pos (by omega), if_pos (by omega), if_pos (by omega), w64i i (by omega)]
      obtain ⟨b, hb⟩ := has_some acc (rdOf ByteArray.empty l (i : Int)) k (by omega) (by omega)
      rw [hb, Option.bind_some]
      cases b with
      | true =>
        rw [if_pos rfl]
        obtain ⟨r, hr, hp⟩ := ih k (i + 1) acc (by omega) (by omega) (by omega) (by omega)
        refine ⟨r, hr, fun _ => hp (.inl ?_)⟩
        rcases acc with _ | ⟨y, acc⟩
        · obtain ⟨k, rfl⟩ : ∃ m, k = m + 1 := ⟨k - 1, by omega⟩
          rw [has_nil] at hb
          cases hb
        · simp
      | false =>
        rw [if_neg (by decide), if_pos (by omega)]
        obtain ⟨r, hr, hp⟩ := ih k (i + 1) (acc ++ [rdOf ByteArray.empty l (i : Int)]) (by omega) (by omega) (by simp; omega) (by omega)
        exact ⟨r, hr, fun _ => hp (.inl (by simp))⟩
    · rw [if_neg (by omega)]
      exact ⟨_, rfl, fun h => h.resolve_right (by omega)⟩
theorem uniq_some (l : List ByteArray) (k : Nat) (h1 : 1 ≤ l.length) (hl : l.length ≤ 64) (hk : 200 ≤ k) : ∃ r, names_Unique.f k l = some r ∧ 0 < r.length := by
  obtain ⟨r, hr, hp⟩ := uniq_loop l hl l.length k 0 [] (by omega) (by omega) (by simp) (by omega)
  exact ⟨r, hr, hp (.inr (by omega))⟩
theorem kind_op {o : Int} {d : ByteArray} {l ws : List ByteArray} {st : Int} {wl : List ByteArray} (h : Kind o d l ws st wl) : 1 ≤ o ∧ o ≤ 8 := by
  cases h <;> exact ⟨by decide, by decide⟩
theorem kind_reads {o : Int} {d : ByteArray} {l ws : List ByteArray} {st : Int} {wl : List ByteArray} (h : Kind o d l ws st wl) (k : Nat) (hk : 2000 ≤ k) : ∃ r, cmd_Reads.f k o d l ws st = some (r, 0) ∧ decide ((r.length : Int) > 0) = readsB o := by
  have hc := kind_check h k hk
  unfold cmd_Reads.f
  rw [hc, Option.bind_some, if_pos rfl]
  cases h with
  | copy a d ha hd => exact ⟨_, rfl, rfl⟩
  | concat d ws hd hw h1 h2 =>
    rw [show cmd_Check.shape 2 d l [] 0 = 2 by unfold cmd_Check.shape; rw [if_neg (fun h => absurd h.1 (by decide)), if_pos ⟨rfl, rfl, rfl, by omega⟩]]
    obtain ⟨r, hr, hp⟩ := uniq_some l k h1 h2 (by omega)
    refine ⟨r, ?_, ?_⟩
    · show (cmd_joining_reads.f k d l).bind _ = _
      unfold cmd_joining_reads.f
      rw [hr]
      rfl
    · exact decide_eq_true (by omega)
  | echo d ws hd h2 =>
    rw [show cmd_Check.shape 3 d [] ws 0 = 3 by unfold cmd_Check.shape; rw [if_neg (fun h => absurd h.1 (by decide)), if_neg (fun h => absurd h.1 (by decide)), if_pos ⟨rfl, rfl, rfl, by omega⟩]]
    exact ⟨_, rfl, rfl⟩
  | touch d hd => exact ⟨_, rfl, rfl⟩
  | remove d hd => exact ⟨_, rfl, rfl⟩
  | test d hd => exact ⟨_, rfl, rfl⟩
  | fail1 => exact ⟨_, rfl, rfl⟩
  | fail n h1 h2 => exact ⟨_, rfl, rfl⟩
  | say ws h2 =>
    rw [show cmd_Check.shape 8 ByteArray.empty [] ws 0 = 8 by unfold cmd_Check.shape; rw [if_neg (fun h => absurd h.1 (by decide)), if_neg (fun h => absurd h.1 (by decide)), if_neg (fun h => absurd h.1 (by decide)), if_neg (fun h => absurd h.1 (by decide)), if_neg (fun h => absurd h.1 (by decide)), if_neg (fun h => absurd h.1 (by decide)), if_neg (fun h => absurd h.1 (by decide)), if_pos ⟨rfl, rfl, rfl, rfl, by omega⟩]]
    exact ⟨_, rfl, rfl⟩
theorem kind_writes {o : Int} {d : ByteArray} {l ws : List ByteArray} {st : Int} {wl : List ByteArray} (h : Kind o d l ws st wl) (k : Nat) (hk : 2000 ≤ k) : ∃ x, cmd_Writes.f k o d l ws st = some (x, writesB o, 0) := by
  have hc := kind_check h k hk
  unfold cmd_Writes.f
  rw [hc, Option.bind_some, if_pos rfl]
  cases h with
  | copy a d ha hd => exact ⟨_, rfl⟩
  | concat d ws hd hw h1 h2 =>
    rw [show cmd_Check.shape 2 d l [] 0 = 2 by unfold cmd_Check.shape; rw [if_neg (fun h => absurd h.1 (by decide)), if_pos ⟨rfl, rfl, rfl, by omega⟩]]
    exact ⟨_, rfl⟩
  | echo d ws hd h2 =>
    rw [show cmd_Check.shape 3 d [] ws 0 = 3 by unfold cmd_Check.shape; rw [if_neg (fun h => absurd h.1 (by decide)), if_neg (fun h => absurd h.1 (by decide)), if_pos ⟨rfl, rfl, rfl, by omega⟩]]
    exact ⟨_, rfl⟩
  | touch d hd => exact ⟨_, rfl⟩
  | remove d hd => exact ⟨_, rfl⟩
  | test d hd => exact ⟨_, rfl⟩
  | fail1 => exact ⟨_, rfl⟩
  | fail n h1 h2 => exact ⟨_, rfl⟩
  | say ws h2 =>
    rw [show cmd_Check.shape 8 ByteArray.empty [] ws 0 = 8 by unfold cmd_Check.shape; rw [if_neg (fun h => absurd h.1 (by decide)), if_neg (fun h => absurd h.1 (by decide)), if_neg (fun h => absurd h.1 (by decide)), if_neg (fun h => absurd h.1 (by decide)), if_neg (fun h => absurd h.1 (by decide)), if_neg (fun h => absurd h.1 (by decide)), if_neg (fun h => absurd h.1 (by decide)), if_pos ⟨rfl, rfl, rfl, rfl, by omega⟩]]
    exact ⟨_, rfl⟩
theorem CmdSides (op : Int) (dst : ByteArray) (src words : List ByteArray) (st : Int) (hl : src.length ≤ 8796093022200) (hws : words.length ≤ 8796093022200) : smithylaw16_CmdSides.f 4000 op dst src words st = some true := by
  unfold smithylaw16_CmdSides.f
  rcases check_kind 4000 (by decide) op dst src words st hl hws with ⟨er, he, h⟩ | ⟨wl, h⟩
  · rw [h, Option.bind_some, if_neg he]
  · obtain ⟨r, hr, hm⟩ := kind_reads h 4000 (by decide)
    obtain ⟨x, hx⟩ := kind_writes h 4000 (by decide)
    rw [kind_check h 4000 (by decide), Option.bind_some, if_pos rfl, hr, Option.bind_some, hx, Option.bind_some, if_pos ⟨rfl, rfl, kind_op h, hm, rfl⟩]
end Go.Proofs.YtpiafpkpdbknfaaGreatDoor.Pure
