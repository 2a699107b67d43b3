/- Written by programs of this session: laws and contracts that the law's proof stands on, merged into one text. Conditions: none beyond those in each statement. -/
import Derived.Test.YtepdiooaoegpfaaGreatDoorPkFx1
section
/- Lists of names, files: over trees. Conditions: those in each statement. -/
namespace Go.Proofs.YtepdiooaoegpfaaGreatDoor.Fx
open Go Go.Proofs Go.Ev Go.RowKit
set_option maxRecDepth 100000
set_option maxHeartbeats 1600000
set_option linter.unusedSimpArgs false
set_option linter.unusedVariables false
theorem c_ref03_Has {l : List ByteArray} {s : ByteArray} (hl : l.length ≤ 1000000000) : XPure Tryz.prog 16 [eS l, .v (.string s)] (.v (.bool (hasS l s))) false := by
  refine XPure.body ⟨_, Tryz.func16, rfl, by kernel_rfl⟩ Tryz.func16 rfl (Nat.le_of_ble_eq_true (by rfl)) (pf_of1 rfl) fun env => ?_
  repeat' ((conv => whnf); (fail_if_success refine zC ?_); first | refine zS ?_ | refine zB (fun h hs => ?_) (fun h hs => ?_) <;> try exact hs.elim | exact zE | refine zZ ?_ | fail)
  refine XW.count l.length (fun i => [(9, i64 i)]) (fun i => hasS l s = (l.drop i).any fun x => beqS x s) Weak.go rfl ?_
  intro i hi hA
  refine codeA_sound _ _ _ ?_
  repeat' ((conv => whnf); (fail_if_success refine zC ?_); first | refine zS ?_ | refine zB (fun h hs => ?_) (fun h hs => ?_) <;> try exact hs.elim | exact zE | refine zZ ?_ | rw [getD_mapI (ByteArray.empty) (by omega)] | rw [getD_map (ByteArray.empty) (by omega)] | fail)
  all_goals first | rw [hA, any_yes .empty ‹_› h] | rw [hA, any_yes .empty ‹_› hs] | exact hA.trans (any_no .empty ‹_› h) | exact hA.trans (any_no .empty ‹_› hs) | rw [hA, any_end hs] | skip
theorem findN_eq {l : List ByteArray} {s : ByteArray} {i : Nat} (h : i < l.length) : findN (l.drop i) s i = if beqS s (l.getD i .empty) then (i : Int) else findN (l.drop (i + 1)) s (i + 1) := by
  rw [drop_getD .empty h]; rfl
theorem findN_end {l : List ByteArray} {s : ByteArray} {i : Nat} (h : ¬ i < l.length) : findN (l.drop i) s i = -1 := by
  rw [List.drop_eq_nil_of_le (by omega)]; rfl
theorem c_Index {l : List ByteArray} {s : ByteArray} (hl : l.length ≤ 1000000000) : XPure Tryz.prog 68 [eS l, .v (.string s)] (i64 (findN l s 0)) false := by
  refine XPure.body ⟨_, Tryz.func68, rfl, by kernel_rfl⟩ Tryz.func68 rfl (Nat.le_of_ble_eq_true (by rfl)) (pf_of1 rfl) fun env => ?_
  repeat' ((conv => whnf); (fail_if_success refine zC ?_); first | refine zS ?_ | refine zB (fun h hs => ?_) (fun h hs => ?_) <;> try exact hs.elim | exact zE | refine zZ ?_ | fail)
  refine XW.count l.length (fun i => [(8, i64 i)]) (fun i => findN l s 0 = findN (l.drop i) s i) Weak.go rfl ?_
  intro i hi hA
  refine codeA_sound _ _ _ ?_
  repeat' ((conv => whnf); (fail_if_success refine zC ?_); first | refine zS ?_ | refine zB (fun h hs => ?_) (fun h hs => ?_) <;> try exact hs.elim | exact zE | refine zZ ?_ | rw [getD_mapI (ByteArray.empty) (by omega)] | rw [getD_map (ByteArray.empty) (by omega)] | fail)
  · rw [hA, findN_eq ‹_›, if_pos (by rw [hs]; exact beqS_self)]
  · rw [hA, findN_eq ‹_›, if_neg (by simpa using h)]
  · rw [hA, findN_end hs]
theorem findN_has {l : List ByteArray} {s : ByteArray} : ∀ i : Nat, decide (findN l s i ≥ 0) = hasS l s := by
  induction l with
  | nil => intro i; rfl
  | cons x r ih =>
    intro i
    show decide ((if beqS s x then (i : Int) else findN r s (i + 1)) ≥ 0) = (beqS x s || hasS r s)
    rw [beqS_comm x s]
    cases beqS s x with
    | true => simp
    | false => simpa using ih (i + 1)
theorem c_Contains {l : List ByteArray} {s : ByteArray} (hl : l.length ≤ 1000000000) : XPure Tryz.prog 46 [eS l, .v (.string s)] (bln (hasS l s)) false := by
  refine XPure.body ⟨_, Tryz.func46, rfl, by kernel_rfl⟩ Tryz.func46 rfl (Nat.le_of_ble_eq_true (by rfl)) (pf_of1 rfl) fun env => ?_
  repeat' ((conv => whnf); (fail_if_success refine zC ?_); first | refine zS ?_ | refine zB (fun h hs => ?_) (fun h hs => ?_) <;> try exact hs.elim | refine .inl ⟨_, _, c_Index hl, ?_⟩ | exact zE | refine zZ ?_ | fail)
  rw [findN_has]
theorem c_right_1 {s : ByteArray} : XPure Tryz.prog 82 [str s] (bln (decide ((s.size : Int) > 65536))) false := by
  refine XPure.body ⟨_, Tryz.func82, rfl, by kernel_rfl⟩ Tryz.func82 rfl (Nat.le_of_ble_eq_true (by rfl)) (pf_of1 rfl) fun env => ?_
  repeat' ((conv => whnf); (fail_if_success refine zC ?_); first | refine zS ?_ | refine zB (fun h hs => ?_) (fun h hs => ?_) <;> try exact hs.elim | exact zE | refine zZ ?_ | fail)
theorem c_place_1 {f : File} {s : ByteArray} : XPure Tryz.prog 97 [eF f, str s] (i64 (if ltS f.name s then -1 else if ltS s f.name then 1 else 0)) false := by
  refine XPure.body ⟨_, Tryz.func97, rfl, by kernel_rfl⟩ Tryz.func97 rfl (Nat.le_of_ble_eq_true (by rfl)) (pf_of1 rfl) fun env => ?_
  repeat' ((conv => whnf); (fail_if_success refine zC ?_); first | refine zS ?_ | refine zB (fun h hs => ?_) (fun h hs => ?_) <;> try exact hs.elim | refine .inl ⟨_, _, c_Compare, ?_⟩ | exact zE | refine zZ ?_ | fail)
  rw [cmp_ltS]
end Go.Proofs.YtepdiooaoegpfaaGreatDoor.Fx
end
section
/- Disks: what is right, where a file stands. Conditions: those in each statement. -/
namespace Go.Proofs.YtepdiooaoegpfaaGreatDoor.Fx
open Go Go.Proofs Go.Ev Go.RowKit
set_option maxRecDepth 100000
set_option maxHeartbeats 1600000
set_option linter.unusedSimpArgs false
set_option linter.unusedVariables false
def fileOk (clock : Int) (f : File) : Bool := isName f.name && decide (f.text.size ≤ 4096) && decide (0 ≤ f.stamp) && decide (f.stamp ≤ clock)
def lastF (l : List File) : Nat → File
  | 0 => File.none
  | i + 1 => l.getD i File.none
def before (l : List File) (i : Nat) : Option ByteArray := match i with
  | 0 => none
  | i + 1 => some (l.getD i File.none).name
def chkF (clock : Int) (prev : Option ByteArray) : List File → Bool
  | [] => true
  | f :: r => fileOk clock f && (match prev with | none => true | some p => ltS p f.name) && chkF clock (some f.name) r
def okD (clock : Int) (l : List File) : Bool := decide (0 ≤ clock) && decide (clock ≤ 1099511627776) && decide (l.length ≤ 256) && chkF clock none l
def errIf (b : Bool) (e : Int) : Int := bif b then 0 else e
theorem chkF_step {clock : Int} {l : List File} {i : Nat} (h : i < l.length) : chkF clock (before l i) (l.drop i) = (fileOk clock (l.getD i File.none) && (match before l i with | none => true | some p => ltS p (l.getD i File.none).name) && chkF clock (before l (i + 1)) (l.drop (i + 1))) := by
  rw [drop_getD File.none h]; rfl
theorem chkF_end {clock : Int} {l : List File} {i : Nat} (h : ¬ i < l.length) {p : Option ByteArray} : chkF clock p (l.drop i) = true := by
  rw [List.drop_eq_nil_of_le (by omega)]; rfl
theorem okD_bad {clock : Int} {l : List File} (h : clock < 0 ∨ 1099511627776 < clock ∨ 256 < l.length) : okD clock l = false := by
  simp only [okD, Bool.and_eq_false_iff, decide_eq_false_iff_not]; omega
theorem okD_good {clock : Int} {l : List File} (h : 0 ≤ clock ∧ clock ≤ 1099511627776 ∧ l.length ≤ 256) : okD clock l = chkF clock none l := by
  have : decide (0 ≤ clock) = true ∧ decide (clock ≤ 1099511627776) = true ∧ decide (l.length ≤ 256) = true := ⟨decide_eq_true h.1, decide_eq_true h.2.1, decide_eq_true h.2.2⟩
  simp [okD, this]
theorem fileOk_iff {clock : Int} {f : File} : fileOk clock f = true ↔ isName f.name = true ∧ f.text.size ≤ 4096 ∧ 0 ≤ f.stamp ∧ f.stamp ≤ clock := by
  simp [fileOk, and_assoc]
theorem fileOk_no {clock : Int} {f : File} : fileOk clock f = false ↔ isName f.name = false ∨ 4096 < f.text.size ∨ f.stamp < 0 ∨ clock < f.stamp := by
  rw [← Bool.not_eq_true, fileOk_iff]
  cases isName f.name <;> simp <;> omega
theorem ltS_not {a b : ByteArray} : ltS a b = false ↔ ltS b a = true ∨ b = a := by
  constructor
  · intro h
    cases h' : ltS b a with
    | true => exact .inl rfl
    | false => exact .inr (ltS_total h' h)
  · rintro (h | rfl)
    · exact ltS_asymm h
    · exact ltS_irrefl _
theorem chk_bad {clock : Int} {l : List File} {i : Nat} (hi : i < l.length) (h : isName (l.getD i File.none).name = false ∨ 4096 < (l.getD i File.none).text.size ∨ (l.getD i File.none).stamp < 0 ∨ clock < (l.getD i File.none).stamp ∨ (0 < i ∧ ltS (lastF l i).name (l.getD i File.none).name = false)) : chkF clock (before l i) (l.drop i) = false := by
  rw [chkF_step hi]
  have : fileOk clock (l.getD i File.none) = false ∨ (0 < i ∧ ltS (lastF l i).name (l.getD i File.none).name = false) := by
    rw [fileOk_no]
    rcases h with h | h | h | h | h
    · exact .inl (.inl h)
    · exact .inl (.inr (.inl h))
    · exact .inl (.inr (.inr (.inl h)))
    · exact .inl (.inr (.inr (.inr h)))
    · exact .inr h
  rcases this with h | ⟨h0, h⟩
  · rw [h]; rfl
  · cases i with
    | zero => omega
    | succ i => simp only [before, lastF] at h ⊢; rw [h, Bool.and_false]; rfl
theorem chk_ok {clock : Int} {l : List File} {i : Nat} (hi : i < l.length) (h1 : isName (l.getD i File.none).name = true) (h2 : (l.getD i File.none).text.size ≤ 4096) (h3 : 0 ≤ (l.getD i File.none).stamp) (h4 : (l.getD i File.none).stamp ≤ clock) (h : i = 0 ∨ ltS (lastF l i).name (l.getD i File.none).name = true) : chkF clock (before l i) (l.drop i) = chkF clock (before l (i + 1)) (l.drop (i + 1)) := by
  rw [chkF_step hi, fileOk_iff.2 ⟨h1, h2, h3, h4⟩]
  cases i with
  | zero => rfl
  | succ i =>
    rcases h with h | h
    · omega
    · simp only [before, lastF] at h ⊢; rw [h]; rfl
theorem c_disk_Check {clock : Int} {l : List File} : XPure Tryz.prog 26 [eD clock l] (i64 (errIf (okD clock l) 4)) false := by
  refine XPure.body ⟨_, Tryz.func26, rfl, by kernel_rfl⟩ Tryz.func26 rfl (Nat.le_of_ble_eq_true (by rfl)) (pf_of1 rfl) fun env => ?_
  repeat' ((conv => whnf); (fail_if_success refine zC ?_); first | refine zS ?_ | refine zB (fun h hs => ?_) (fun h hs => ?_) <;> try exact hs.elim | exact zE | refine zZ ?_ | fail)
  rotate_left
  · refine XW.countL l.length [1, 3, 22, 23] (fun i => [(24, i64 i)]) (fun _ => []) (fun i => [.cells [i64 clock, eFs l] [], .cells (eF (lastF l i)).leaves []]) (fun i => okD clock l = chkF clock (before l i) (l.drop i)) Weak.go (okD_good (by omega)) ?_
    intro i hi hA
    refine codeS ?_
    repeat' ((conv => whnf); (fail_if_success refine zC ?_); first | refine zS ?_ | refine zB (fun h hs => ?_) (fun h hs => ?_) <;> try exact hs.elim | refine .inl ⟨_, _, c_disk_named, ?_⟩ | exact zE | refine zZ ?_ | rw [getD_mapI (File.none) (by omega)] | rw [getD_map (File.none) (by omega)] | fail)
    all_goals try (have hi' : i < l.length := by assumption)
    all_goals try simp only [cs, reduceCtorEq, Int.reduceEq, Int.reduceNe, Int.reduceLT, Int.reduceLE, Int.reduceBEq, Int.reduceBNe, Bool.or_false, Bool.and_true, true_and, or_false, and_true, not_and, not_or, reduceCtorEq] at *
    all_goals first | (rw [hA, chk_bad hi' (by rw [ltS_not]; grind)]; rfl) | (rw [hA, chk_ok hi' (by grind) (by grind) (by grind) (by grind) (by rw [← Bool.not_eq_false, ltS_not]; grind)]) | (rw [hA, chkF_end (by omega)]; rfl) | skip
  all_goals rw [okD_bad (by omega)]; rfl
theorem c_ref02_Name {s : ByteArray} (hz : s.size ≤ 140737488355328) : XPure Tryz.prog 34 [.v (.string s)] (.v (.bool (isName s))) false := by
  refine XPure.body ⟨_, Tryz.func34, rfl, by kernel_rfl⟩ Tryz.func34 rfl (Nat.le_of_ble_eq_true (by rfl)) (pf_of1 rfl) fun env => ?_
  repeat' ((conv => whnf); (fail_if_success refine zC ?_); first | refine zS ?_ | refine zB (fun h hs => ?_) (fun h hs => ?_) <;> try exact hs.elim | exact zE | refine zZ ?_ | fail)
  refine XW.countL s.size [0] (fun i => [(3, i64 i)]) (fun _ => []) (fun _ => []) (fun i => (s.data.toList.all fun c => isLetter c.toNat) = (s.data.toList.drop i).all fun c => isLetter c.toNat) Weak.go rfl ?_
  intro i hi hA
  refine codeS ?_
  repeat' ((conv => whnf); (fail_if_success refine zC ?_); first | refine zS ?_ | refine zB (fun h hs => ?_) (fun h hs => ?_) <;> try exact hs.elim | exact zE | refine zZ ?_ | fail)
  · have h1 : isLetter (byteAt s i).toNat = false := by simp only [isLetter, cs, reduceCtorEq, Int.reduceEq, Int.reduceNe, Int.reduceLT, Int.reduceLE, Int.reduceBEq, Int.reduceBNe]; omega
    have : isName s = false := by unfold isName; rw [hA, all_no ‹_› h1, Bool.and_false]
    rw [this]
  · exact hA.trans (all_yes ‹_› (by simp only [isLetter, cs, reduceCtorEq, Int.reduceEq, Int.reduceNe, Int.reduceLT, Int.reduceLE, Int.reduceBEq, Int.reduceBNe]; omega))
  · have : isName s = (decide (0 < s.size) && decide (s.size ≤ 64)) := by unfold isName; rw [hA, all_end hs, Bool.and_true]
    rw [this]
    exact congrArg (fun b => AV.v (Value.bool b)) (by rw [show (decide ((s.size : Int) > 0)) = decide (0 < s.size) from decide_eq_decide.2 (by omega), show (decide ((s.size : Int) ≤ 64)) = decide (s.size ≤ 64) from decide_eq_decide.2 (by omega)]; cases decide (0 < s.size) <;> rfl)
theorem lastF_sub {l : List File} {i : Nat} (h : 0 < i) : l.getD ((i : Int) - 1).toNat File.none = lastF l i := by
  cases i with
  | zero => omega
  | succ i => rw [show (((i + 1 : Nat) : Int) - 1).toNat = i from by omega]; rfl
theorem c_ref02_Check {clock : Int} {l : List File} (hl : l.length ≤ 1000000000) (hz : ∀ i, i < l.length → (l.getD i File.none).name.size ≤ 140737488355328) : XPure Tryz.prog 14 [eD clock l] (i64 (errIf (okD clock l) 4)) false := by
  refine XPure.body ⟨_, Tryz.func14, rfl, by kernel_rfl⟩ Tryz.func14 rfl (Nat.le_of_ble_eq_true (by rfl)) (pf_of1 rfl) fun env => ?_
  repeat' ((conv => whnf); (fail_if_success refine zC ?_); first | refine zS ?_ | refine zB (fun h hs => ?_) (fun h hs => ?_) <;> try exact hs.elim | exact zE | refine zZ ?_ | fail)
  rotate_left
  · refine XW.countL l.length [1] (fun i => [(3, i64 i)]) (fun _ => []) (fun i => [.cells [i64 clock, eFs l] []]) (fun i => okD clock l = chkF clock (before l i) (l.drop i)) Weak.go (okD_good (by omega)) ?_
    intro i hi hA
    refine codeS ?_
    repeat' ((conv => whnf); (fail_if_success refine zC ?_); first | refine zS ?_ | refine zB (fun h hs => ?_) (fun h hs => ?_) <;> try exact hs.elim | refine .inl ⟨_, _, c_ref02_Name (hz i (by omega)), ?_⟩ | refine XW.dr (m := 14) ?_ | refine ⟨_, _, c_ref02_Name (hz i (by omega)), ?_⟩ | exact zE | refine zZ ?_ | rw [getD_mapI (File.none) (by omega)] | rw [getD_map (File.none) (by omega)] | fail)
    all_goals try (have hi' : i < l.length := by assumption)
    all_goals try rw [lastF_sub (by omega)] at *
    all_goals try simp only [cs, reduceCtorEq, Int.reduceEq, Int.reduceNe, Int.reduceLT, Int.reduceLE, Int.reduceBEq, Int.reduceBNe, Bool.or_false, Bool.and_true, true_and, or_false, and_true, not_and, not_or, reduceCtorEq] at *
    all_goals first | (rw [hA, chk_bad hi' (by grind)]; rfl) | (rw [hA, chk_ok hi' (by grind) (by grind) (by grind) (by grind) (by grind)]) | (rw [hA, chkF_end (by omega)]; rfl) | skip
  all_goals rw [okD_bad (by omega)]; rfl
end Go.Proofs.YtepdiooaoegpfaaGreatDoor.Fx
end
section
/- Where files stand; scripted failures. Conditions: those in each statement. -/
namespace Go.Proofs.YtepdiooaoegpfaaGreatDoor.Fx
open Go Go.Proofs Go.Ev Go.RowKit
set_option maxRecDepth 100000
set_option maxHeartbeats 1600000
set_option linter.unusedSimpArgs false
set_option linter.unusedVariables false
def findF (l : List File) (s : ByteArray) : Option File := match l with
  | [] => none
  | f :: r => if beqS f.name s then some f else findF r s
theorem findF_step {l : List File} {s : ByteArray} {i : Nat} (h : i < l.length) : findF (l.drop i) s = if beqS (l.getD i File.none).name s then some (l.getD i File.none) else findF (l.drop (i + 1)) s := by
  rw [drop_getD File.none h]; rfl
theorem findF_end {l : List File} {s : ByteArray} {i : Nat} (h : ¬ i < l.length) : findF (l.drop i) s = none := by
  rw [List.drop_eq_nil_of_le (by omega)]; rfl
abbrev eOF (o : Option File) : AV := .tup [eF (o.getD File.none), bln o.isSome]
theorem c_ref13_File {clock : Int} {l : List File} {s : ByteArray} (hl : l.length ≤ 1000000000) : XPure Tryz.prog 15 [eD clock l, str s] (eOF (findF l s)) false := by
  refine XPure.body ⟨_, Tryz.func15, rfl, by kernel_rfl⟩ Tryz.func15 rfl (Nat.le_of_ble_eq_true (by rfl)) (pf_of1 rfl) fun env => ?_
  repeat' ((conv => whnf); (fail_if_success refine zC ?_); first | refine zS ?_ | refine zB (fun h hs => ?_) (fun h hs => ?_) <;> try exact hs.elim | exact zE | refine zZ ?_ | fail)
  refine XW.countL l.length [1, 4, 9, 10] (fun i => [(11, i64 i)]) (fun _ => []) (fun i => [.cells [i64 clock, eFs l] [], .cells (eF File.none).leaves []]) (fun i => findF l s = findF (l.drop i) s) Weak.go rfl ?_
  intro i hi hA
  refine codeS ?_
  repeat' ((conv => whnf); (fail_if_success refine zC ?_); first | refine zS ?_ | refine zB (fun h hs => ?_) (fun h hs => ?_) <;> try exact hs.elim | exact zE | refine zZ ?_ | rw [getD_mapI (File.none) (by omega)] | rw [getD_map (File.none) (by omega)] | fail)
  · rw [hA, findF_step ‹_›, if_pos (beqS_iff.2 hs)]; rfl
  · rw [hA, findF_step ‹_›, if_neg (by simpa using h)]
  · rw [hA, findF_end hs]; rfl
def posF (l : List File) (s : ByteArray) : Nat := match l with
  | [] => 0
  | f :: r => if ltS f.name s then posF r s + 1 else 0
def thereF (l : List File) (s : ByteArray) : Bool := match l[posF l s]? with
  | some f => beqS f.name s
  | none => false
theorem posF_eq : ∀ {l : List File} {s : ByteArray} {i : Nat}, i ≤ l.length → (∀ k, k < i → ltS (l.getD k File.none).name s = true) → (i < l.length → ltS (l.getD i File.none).name s = false) → posF l s = i
  | [], _, i, h, _, _ => by simp at h; simp [posF, h]
  | f :: r, s, 0, _, _, h2 => by
    have := h2 (by simp)
    simp at this
    simp [posF, this]
  | f :: r, s, i + 1, h, h1, h2 => by
    have := h1 0 (by omega)
    simp at this
    simp only [posF, this, if_true]
    rw [posF_eq (i := i) (by simpa using h) (fun k hk => by simpa using h1 (k + 1) (by omega)) (fun hk => by simpa using h2 (by simpa using hk))]
theorem sorted_of {clock : Int} : ∀ {l : List File} {p : Option ByteArray}, chkF clock p l = true → (∀ q, p = some q → ∀ f ∈ l, ltS q f.name = true) ∧ l.Pairwise fun a b => ltS a.name b.name = true
  | [], _, _ => ⟨fun _ _ _ h => by simp at h, .nil⟩
  | f :: r, p, h => by
    simp only [chkF, Bool.and_eq_true] at h
    obtain ⟨ih1, ih2⟩ := sorted_of h.2
    refine ⟨?_, List.pairwise_cons.2 ⟨fun b hb => ih1 _ rfl b hb, ih2⟩⟩
    rintro q rfl g hg
    have h0 : ltS q f.name = true := h.1.2
    rcases List.mem_cons.1 hg with rfl | hg
    · exact h0
    · exact ltS_trans h0 (ih1 _ rfl g hg)
theorem okD_sorted {clock : Int} {l : List File} (h : okD clock l = true) : l.length ≤ 256 ∧ l.Pairwise fun a b => ltS a.name b.name = true := by
  simp only [okD, Bool.and_eq_true, decide_eq_true_eq] at h
  exact ⟨h.1.2, (sorted_of h.2).2⟩
theorem halfW {i j : Nat} (h : i + j < 4611686018427387904) : IntKind.i64.wrap ((IntKind.u64.wrap ((i : Int) + (j : Int))).fdiv (2 ^ Int.toNat 1)) = (((i + j) / 2 : Nat) : Int) := by
  have e : IntKind.u64.wrap ((i : Int) + (j : Int)) = ((i + j : Nat) : Int) := by
    simp only [IntKind.wrap, IntKind.bits, IntKind.signed]; simp; omega
  rw [e]
  have e2 : ((i + j : Nat) : Int).fdiv (2 ^ Int.toNat 1) = (((i + j) / 2 : Nat) : Int) := by
    show ((i + j : Nat) : Int).fdiv ((2 : Nat) : Int) = _
    rw [Int.ofNat_fdiv]
  rw [e2, wrapId (by omega) (by omega)]
theorem halfW2 {i j : Nat} (h : i + j < 4611686018427387904) : IntKind.i64.wrap ((IntKind.u64.wrap (IntKind.i64.wrap ((i : Int) + (j : Int)))).fdiv (2 ^ Int.toNat 1)) = (((i + j) / 2 : Nat) : Int) := by
  rw [show IntKind.i64.wrap ((i : Int) + (j : Int)) = (i : Int) + (j : Int) from wrapId (by omega) (by omega)]; exact halfW h
theorem cmp3_lt {a b : Bool} : decide ((if a = true then (-1 : Int) else if b = true then 1 else 0) < 0) = a := by cases a <;> cases b <;> rfl
theorem pw_at {l : List File} (hp : l.Pairwise fun a b => ltS a.name b.name = true) {a b : Nat} (h : a < b) (hb : b < l.length) : ltS (l.getD a File.none).name (l.getD b File.none).name = true := by
  have := List.pairwise_iff_getElem.1 hp a b (by omega) hb h
  simpa [List.getD_eq_getElem?_getD, hb, (by omega : a < l.length)] using this
theorem thereF_eq {l : List File} {s : ByteArray} {i : Nat} (h : posF l s = i) (hi : i < l.length) : thereF l s = beqS (l.getD i File.none).name s := by
  unfold thereF; rw [h, List.getElem?_eq_getElem hi]; simp [List.getD_eq_getElem?_getD, hi]
theorem thereF_end {l : List File} {s : ByteArray} {i : Nat} (h : posF l s = i) (hi : ¬ i < l.length) : thereF l s = false := by
  unfold thereF; rw [h, List.getElem?_eq_none (by omega)]
theorem cmp3_eq {a s : ByteArray} : ((if ltS a s = true then (-1 : Int) else if ltS s a = true then 1 else 0) == 0) = beqS a s := by
  cases h : ltS a s with
  | true =>
    have : beqS a s = false := beqS_no.2 fun e => by subst e; rw [ltS_irrefl] at h; cases h
    rw [this]; rfl
  | false =>
    cases k : ltS s a with
    | true =>
      have : beqS a s = false := beqS_no.2 fun e => by subst e; rw [ltS_irrefl] at k; cases k
      rw [this]; rfl
    | false => rw [beqS_iff.2 (ltS_total h k)]; rfl
theorem c_BinarySearch {l : List File} {s : ByteArray} (hl : l.length ≤ 256) (hp : l.Pairwise fun a b => ltS a.name b.name = true) : XPure Tryz.prog 96 [eFs l, str s, .fn (.func 97) [] []] (.tup [i64 (posF l s), bln (thereF l s)]) false := by
  refine XPure.body ⟨_, Tryz.func96, rfl, by kernel_rfl⟩ Tryz.func96 rfl (Nat.le_of_ble_eq_true (by rfl)) (pf_of1 rfl) fun env => ?_
  repeat' ((conv => whnf); (fail_if_success refine zC ?_); first | refine zS ?_ | refine zB (fun h hs => ?_) (fun h hs => ?_) <;> try exact hs.elim | exact zE | refine zZ ?_ | fail)
  refine XW.overL [0, 1, 2, 6, 7, 8] (fun (p : Nat × Nat) => [(9, i64 p.1), (10, i64 p.2)]) (fun _ => []) (fun _ => []) (fun p => p.1 ≤ p.2 ∧ p.2 ≤ l.length ∧ (∀ k, k < p.1 → ltS (l.getD k File.none).name s = true) ∧ (∀ k, p.2 ≤ k → k < l.length → ltS (l.getD k File.none).name s = false)) (fun p => p.2 - p.1) (0, l.length) Weak.go ⟨Nat.zero_le _, Nat.le_refl _, fun k hk => by omega, fun k h1 h2 => by omega⟩ ?_
  rintro ⟨i, j⟩ ⟨h1, h2, h3, h4⟩
  dsimp only at h1 h2 h3 h4 ⊢
  refine codeS ?_
  repeat' ((conv => whnf); (fail_if_success refine zC ?_); first | refine zS ?_ | refine zB (fun h hs => ?_) (fun h hs => ?_) <;> try exact hs.elim | refine .inl ⟨_, _, c_place_1, ?_⟩ | (first | rw [halfW (by omega)] | rw [halfW2 (by omega)]) | exact zE | refine zZ ?_ | rw [getD_mapI (File.none) (by omega)] | rw [getD_map (File.none) (by omega)] | fail)
  · have hlt : ltS (l.getD ((i + j) / 2) File.none).name s = true := cmp3_lt.symm.trans h
    refine ⟨((i + j) / 2 + 1, j), by dsimp only; omega, ⟨by dsimp only; omega, h2, fun k hk => ?_, h4⟩, Weak.go⟩
    rcases Nat.lt_or_ge k ((i + j) / 2) with q | q
    · exact ltS_trans (pw_at hp q (by omega)) hlt
    · obtain rfl : k = (i + j) / 2 := by dsimp only at hk; omega
      exact hlt
  · have hge : ltS (l.getD ((i + j) / 2) File.none).name s = false := cmp3_lt.symm.trans h
    conv => whnf
    refine ⟨(i, (i + j) / 2), by dsimp only; omega, ⟨by dsimp only; omega, by dsimp only; omega, h3, fun k hk hkl => ?_⟩, Weak.go⟩
    rcases Nat.lt_or_ge ((i + j) / 2) k with q | q
    · cases hc : ltS (l.getD k File.none).name s with
      | false => rfl
      | true => rw [ltS_trans (pw_at hp q hkl) hc] at hge; cases hge
    · obtain rfl : k = (i + j) / 2 := by dsimp only at hk; omega
      exact hge
  · have hp' := posF_eq (l := l) (s := s) (i := i) (by omega) h3 (fun _ => h4 i (by omega) (by omega))
    rw [hp', thereF_eq hp' hs]
    have e : ∀ b : Bool, (bif decide ((i : Int) < ((l.map eF).length : Int)) then b else false) = b := fun b => by rw [h]; rfl
    exact congrArg (fun b => AV.tup [i64 i, bln b]) ((e _).trans cmp3_eq)
  · have hp' := posF_eq (l := l) (s := s) (i := i) (by omega) h3 (fun _ => h4 i (by omega) (by omega))
    rw [hp', thereF_end hp' hs]; rfl
theorem c_disk_place {clock : Int} {l : List File} {s : ByteArray} (hl : l.length ≤ 256) (hp : l.Pairwise fun a b => ltS a.name b.name = true) : XPure Tryz.prog 73 [eD clock l, str s] (.tup [i64 (posF l s), bln (thereF l s)]) false := by
  refine XPure.body ⟨_, Tryz.func73, rfl, by kernel_rfl⟩ Tryz.func73 rfl (Nat.le_of_ble_eq_true (by rfl)) (pf_of1 rfl) fun env => ?_
  repeat' ((conv => whnf); (fail_if_success refine zC ?_); first | refine zS ?_ | refine zB (fun h hs => ?_) (fun h hs => ?_) <;> try exact hs.elim | refine .inl ⟨_, _, c_BinarySearch hl hp, ?_⟩ | exact zE | refine zZ ?_ | fail)
theorem c_disk_asked {clock : Int} {l : List File} {s : ByteArray} : XPure Tryz.prog 71 [eD clock l, str s] (i64 (bif okD clock l then errIf (isName s) 3 else 4)) false := by
  refine XPure.body ⟨_, Tryz.func71, rfl, by kernel_rfl⟩ Tryz.func71 rfl (Nat.le_of_ble_eq_true (by rfl)) (pf_of1 rfl) fun env => ?_
  repeat' ((conv => whnf); (fail_if_success refine zC ?_); first | refine zS ?_ | refine zB (fun h hs => ?_) (fun h hs => ?_) <;> try exact hs.elim | refine .inl ⟨_, _, c_disk_Check, ?_⟩ | refine .inl ⟨_, _, c_disk_named, ?_⟩ | exact zE | refine zZ ?_ | fail)
  all_goals cases h1 : okD clock l <;> cases h2 : isName s <;> simp_all [errIf]
theorem asked0 {clock : Int} {l : List File} {s : ByteArray} (h : (bif okD clock l then errIf (isName s) 3 else 4) = 0) : okD clock l = true ∧ isName s = true := by
  cases h1 : okD clock l <;> cases h2 : isName s <;> simp_all [errIf]
theorem posF_le : ∀ {l : List File} {s : ByteArray}, posF l s ≤ l.length
  | [], _ => Nat.le_refl _
  | f :: r, s => by
    simp only [posF, List.length_cons]
    split
    · have := @posF_le r s; omega
    · omega
theorem posF_lt {l : List File} {s : ByteArray} (h : thereF l s = true) : posF l s < l.length := by
  unfold thereF at h
  split at h
  · rename_i f hf; exact (List.getElem?_eq_some_iff.1 hf).1
  · cases h
theorem findF_sorted : ∀ {l : List File} {s : ByteArray}, (l.Pairwise fun a b => ltS a.name b.name = true) → findF l s = if thereF l s then some (l.getD (posF l s) File.none) else none
  | [], _, _ => rfl
  | f :: r, s, hp => by
    obtain ⟨h1, h2⟩ := List.pairwise_cons.1 hp
    simp only [findF]
    cases hlt : ltS f.name s with
    | true =>
      have : beqS f.name s = false := beqS_no.2 fun e => by rw [e, ltS_irrefl] at hlt; cases hlt
      have e1 : posF (f :: r) s = posF r s + 1 := by simp [posF, hlt]
      have e2 : thereF (f :: r) s = thereF r s := by unfold thereF; rw [e1]; rfl
      rw [this, if_neg (by simp), findF_sorted h2, e2, e1]; rfl
    | false =>
      have e1 : posF (f :: r) s = 0 := by simp [posF, hlt]
      have e2 : thereF (f :: r) s = beqS f.name s := by unfold thereF; rw [e1]; rfl
      rw [e2, e1]
      cases hb : beqS f.name s with
      | true => rfl
      | false =>
        simp only [Bool.false_eq_true, if_false]
        have hgt : ltS s f.name = true := by
          cases h : ltS s f.name with
          | true => rfl
          | false => rw [beqS_iff.2 (ltS_total hlt h)] at hb; cases hb
        have : ∀ (q : List File), (∀ g ∈ q, ltS f.name g.name = true) → findF q s = none := by
          intro q
          induction q with
          | nil => intro _; rfl
          | cons g q ih =>
            intro hq
            have hg := ltS_trans hgt (hq g (by simp))
            have : beqS g.name s = false := beqS_no.2 fun e => by rw [e, ltS_irrefl] at hg; cases hg
            simp only [findF, this, Bool.false_eq_true, if_false]
            exact ih fun x hx => hq x (by simp [hx])
        exact this r h1
/-- A file that is asked for, or what is wrong. -/
def findD (clock : Int) (l : List File) (s : ByteArray) : Option File := bif okD clock l && isName s then findF l s else none
def findE (clock : Int) (l : List File) (s : ByteArray) : Int := bif okD clock l then bif isName s then errIf (findF l s).isSome 21 else 3 else 4
theorem find_ok {clock : Int} {l : List File} {s : ByteArray} (h : (bif okD clock l then errIf (isName s) 3 else 4) = 0) : findD clock l s = (if thereF l s then some (l.getD (posF l s) File.none) else none) ∧ findE clock l s = errIf (thereF l s) 21 := by
  obtain ⟨h1, h2⟩ := asked0 h
  unfold findD findE
  rw [h1, h2, findF_sorted (okD_sorted h1).2]
  cases thereF l s <;> exact ⟨rfl, rfl⟩
theorem find_bad {clock : Int} {l : List File} {s : ByteArray} (h : ¬ (bif okD clock l then errIf (isName s) 3 else 4) = 0) : findD clock l s = none ∧ findE clock l s = bif okD clock l then errIf (isName s) 3 else 4 := by
  unfold findD findE
  cases h1 : okD clock l <;> cases h2 : isName s <;> simp_all [errIf]
theorem c_disk_Find {clock : Int} {l : List File} {s : ByteArray} : XPure Tryz.prog 52 [eD clock l, str s] (.tup [eF ((findD clock l s).getD File.none), i64 (findE clock l s)]) false := by
  refine XPure.body ⟨_, Tryz.func52, rfl, by kernel_rfl⟩ Tryz.func52 rfl (Nat.le_of_ble_eq_true (by rfl)) (pf_of1 rfl) fun env => ?_
  repeat' ((conv => whnf); (fail_if_success refine zC ?_); first | refine zS ?_ | refine zB (fun h hs => ?_) (fun h hs => ?_) <;> try exact hs.elim | refine .inl ⟨_, _, c_disk_asked, ?_⟩ | refine .inl ⟨_, _, c_disk_place (okD_sorted (asked0 (by assumption)).1).1 (okD_sorted (asked0 (by assumption)).1).2, ?_⟩ | (rw [getD_mapI File.none (posF_lt (by assumption))]) | exact zEs | refine zZs ?_ | (refine ⟨?_, ?_, ?_⟩; (first | omega | (have := posF_lt (by assumption); simp only [List.length_map]; omega)); (first | omega | (have := posF_lt (by assumption); simp only [List.length_map]; omega))) | (refine ⟨?_, ?_⟩; (first | omega | (have := posF_lt (by assumption); simp only [List.length_map]; omega))) | fail)
  · obtain ⟨e1, e2⟩ := find_bad hs
    rw [e1, e2]; rfl
  · obtain ⟨e1, e2⟩ := find_ok (by assumption)
    rw [e1, e2, hs]; rfl
  · obtain ⟨e1, e2⟩ := find_ok (by assumption)
    rw [e1, e2, hs]; rfl
def Fail.none : Fail := ⟨.empty, 0, 0⟩
end Go.Proofs.YtepdiooaoegpfaaGreatDoor.Fx
end
