/- Written by programs of this session: laws and contracts that the law's proof stands on, merged into one text. Conditions: none beyond those in each statement. -/
import Derived.Test.YtepdiooaoegpfaaGreatDoorPkFx17
import Derived.Test.YtepdiooaoegpfaaGreatDoorPkFx15
import Derived.Test.YtepdiooaoegpfaaGreatDoorPkEv22
section
/- The document's answer for a command that is done. Conditions: those in each statement. -/
namespace Go.Proofs.YtepdiooaoegpfaaGreatDoor.Fx
open Go Go.Proofs Go.Ev Go.RowKit
set_option maxRecDepth 100000
set_option maxHeartbeats 6400000
set_option linter.unusedSimpArgs false
set_option linter.unusedVariables false
theorem bytesExt {a b : ByteArray} (h : a.data.toList = b.data.toList) : a = b := ByteArray.ext (Array.ext' h)
theorem join_snoc {x : List UInt8} {sep : List UInt8} : ∀ {r : List (List UInt8)}, r ≠ [] → Lib.join (r ++ [x]) sep = Lib.join r sep ++ (sep ++ x)
  | [], h => absurd rfl h
  | y :: r, _ => by rw [List.cons_append, Lib.join_cons, Lib.join_cons]; simp [Lib.joinTail]
theorem joinB_snoc {l : List ByteArray} {i : Nat} (h : i < l.length) (h0 : 0 < i) : joinB (l.take (i + 1)) blankS = joinB (l.take i) blankS ++ blankS ++ l.getD i .empty := by
  refine bytesExt ?_
  have e : l.take (i + 1) = l.take i ++ [l.getD i .empty] := by rw [List.take_succ_eq_append_getElem h]; simp [List.getD_eq_getElem?_getD, h]
  have hne : (l.take i).map (·.data.toList) ≠ [] := by
    intro q
    have := congrArg List.length q
    simp only [List.length_map, List.length_take, List.length_nil] at this
    omega
  show Lib.join ((l.take (i + 1)).map (·.data.toList)) blankS.data.toList = (joinB (l.take i) blankS ++ blankS ++ l.getD i .empty).data.toList
  rw [e, List.map_append, List.map_cons, List.map_nil, join_snoc hne]
  simp [joinB]
theorem joinB_one {l : List ByteArray} (h : 0 < l.length) : joinB (l.take 1) blankS = l.getD 0 .empty := by
  cases l with
  | nil => cases h
  | cons x r => refine bytesExt ?_; show Lib.join [x.data.toList] blankS.data.toList = _; rw [Lib.join_one]; rfl
theorem getD_memB {l : List ByteArray} {i : Nat} (h : i < l.length) : l.getD i .empty ∈ l := by
  rw [List.getD_eq_getElem?_getD, List.getElem?_eq_getElem h]; exact List.getElem_mem h
theorem c_ref03_Join {l : List ByteArray} (hn : l.length ≤ 512) (hw : ∀ x ∈ l, x.size ≤ 65536) : XPure Tryz.prog 77 [eS l] (str (joinB l blankS)) false := by
  refine XPure.body ⟨_, Tryz.func77, rfl, by kernel_rfl⟩ Tryz.func77 rfl (Nat.le_of_ble_eq_true (by rfl)) (pf_of1 rfl) fun env => ?_
  repeat' ((conv => whnf); (fail_if_success refine zC ?_); first | refine zS ?_ | refine zB (fun h hs => ?_) (fun h hs => ?_) <;> try exact hs.elim | exact zE | refine zZ ?_ | fail)
  refine XW.overL [2, 6, 7] (fun (p : Nat × ByteArray) => [(3, str p.2), (8, i64 p.1)]) (fun _ => []) (fun _ => []) (fun p => p.1 ≤ l.length ∧ p.2 = joinB (l.take p.1) blankS) (fun p => l.length - p.1) (0, ⟨#[]⟩) Weak.go ⟨Nat.zero_le _, rfl⟩ ?_
  rintro ⟨i, acc⟩ ⟨hi, hA⟩
  dsimp only at hi hA ⊢
  refine codeS ?_
  have hz : acc.size ≤ 33554944 := hA ▸ joinB_size (by simp only [List.length_take]; omega) (fun x hx => hw x (List.mem_of_mem_take hx))
  have hs1 : (acc ++ (⟨#[32]⟩ : ByteArray)).size = acc.size + 1 := by rw [ByteArray.size_append]; rfl
  have hx1 : i < l.length → (l.getD i .empty).size ≤ 65536 := fun h => hw _ (getD_memB h)
  repeat' ((conv => whnf); (fail_if_success refine zC ?_); first | refine zS ?_ | refine zB (fun h hs => ?_) (fun h hs => ?_) <;> try exact hs.elim | exact zEs | refine zZs ?_ | (refine ⟨?_, ?_, ?_⟩; (first | omega | (simp only [List.length_map]; omega) | (rw [hs1]; have := hx1 (by assumption); omega) | (have := hx1 (by assumption); omega) | (show acc.size + 1 ≤ 140737488355328; omega)); (first | omega | (simp only [List.length_map]; omega) | (rw [hs1]; have := hx1 (by assumption); omega) | (have := hx1 (by assumption); omega) | (show acc.size + 1 ≤ 140737488355328; omega))) | (refine ⟨?_, ?_⟩; (first | omega | (simp only [List.length_map]; omega) | (rw [hs1]; have := hx1 (by assumption); omega) | (have := hx1 (by assumption); omega) | (show acc.size + 1 ≤ 140737488355328; omega))) | rw [getD_mapI (ByteArray.empty) (by omega)] | rw [getD_map (ByteArray.empty) (by omega)] | fail)
  · refine ⟨(i + 1, acc ++ ⟨#[32]⟩ ++ l.getD i .empty), by dsimp only; omega, ⟨by dsimp only; omega, ?_⟩, Weak.go⟩
    dsimp only
    rw [joinB_snoc (by assumption) (by omega), hA]
  · obtain rfl : i = 0 := by omega
    refine ⟨(0 + 1, acc ++ l.getD 0 .empty), by dsimp only; omega, ⟨by dsimp only; omega, ?_⟩, Weak.go⟩
    dsimp only
    rw [Nat.zero_add, joinB_one (by assumption), hA]
    refine bytesExt ?_
    rw [show joinB (l.take 0) blankS = ByteArray.empty from rfl]; simp
  · rw [hA, List.take_of_length_le (by omega)]
theorem c_ref17_joined {l : List ByteArray} (hn : l.length ≤ 512) (hw : ∀ x ∈ l, x.size ≤ 65536) : XPure Tryz.prog 59 [eS l] (str (joinB l blankS)) false := by
  refine XPure.body ⟨_, Tryz.func59, rfl, by kernel_rfl⟩ Tryz.func59 rfl (Nat.le_of_ble_eq_true (by rfl)) (pf_of1 rfl) fun env => ?_
  repeat' ((conv => whnf); (fail_if_success refine zC ?_); first | refine zS ?_ | refine zB (fun h hs => ?_) (fun h hs => ?_) <;> try exact hs.elim | refine .inl ⟨_, _, c_ref03_Join hn hw, ?_⟩ | exact zE | refine zZ ?_ | fail)
def refGo (l : List File) : List ByteArray → ByteArray → Option ByteArray
  | [], s => some s
  | x :: r, s => match findF l x with
    | none => none
    | some f => refGo l r (if s.size ≤ 4096 then s ++ f.text else s)
theorem refGo_none {l : List File} {src : List ByteArray} {i : Nat} {s : ByteArray} (h : i < src.length) (hf : findF l (src.getD i .empty) = none) : refGo l (src.drop i) s = none := by
  rw [drop_getD .empty h]; simp only [refGo, hf]
theorem refGo_some {l : List File} {src : List ByteArray} {i : Nat} {s : ByteArray} {f : File} (h : i < src.length) (hf : findF l (src.getD i .empty) = some f) : refGo l (src.drop i) s = refGo l (src.drop (i + 1)) (if s.size ≤ 4096 then s ++ f.text else s) := by
  rw [drop_getD .empty h]; simp only [refGo, hf]
theorem c_ref17_textR {op st clock : Int} {dst : ByteArray} {src words : List ByteArray} {l : List File} (ho : (op == 3) = false) (hd : okD clock l = true) (hn : src.length ≤ 1000000000) :
    XPure Tryz.prog 56 [eC op dst src words st, eD clock l] (.tup [str ((refGo l src ⟨#[]⟩).getD ⟨#[]⟩), i64 (if (refGo l src ⟨#[]⟩).isSome = true then 0 else 21)]) false := by
  obtain ⟨_, _, hl, hok, _⟩ := okD_iff.1 hd
  generalize hR : refGo l src ⟨#[]⟩ = R
  refine XPure.body ⟨_, Tryz.func56, rfl, by kernel_rfl⟩ Tryz.func56 rfl (Nat.le_of_ble_eq_true (by rfl)) (pf_of1 rfl) fun env => ?_
  repeat' ((conv => whnf); (fail_if_success refine zC ?_); first | refine zS ?_ | refine zB (fun h hs => ?_) (fun h hs => ?_) <;> try exact hs.elim | exact zE | refine zZ ?_ | fail)
  refine XW.overL [3, 19, 20] (fun (p : Nat × ByteArray) => [(6, str p.2), (21, i64 p.1)]) (fun _ => []) (fun _ => [.cells (eC op dst src words st).leaves [], .cells (eD clock l).leaves []]) (fun p => p.1 ≤ src.length ∧ p.2.size ≤ 8192 ∧ refGo l (src.drop p.1) p.2 = R) (fun p => src.length - p.1) (0, ⟨#[]⟩) Weak.go ⟨Nat.zero_le _, Nat.zero_le _, hR⟩ ?_
  rintro ⟨i, s⟩ ⟨hi, hs0, hA⟩
  dsimp only at hi hs0 hA ⊢
  refine codeS ?_
  rcases Nat.lt_or_ge i src.length with hlt | hge
  · have hi' : decide ((i : Int) < ((src.map eStr).length : Int)) = true := by rw [List.length_map]; exact decide_eq_true (by omega)
    obtain ⟨o, ho'⟩ : ∃ o, findF l (src.getD i .empty) = o := ⟨_, rfl⟩
    have hFile := c_ref13_File (clock := clock) (s := src.getD i .empty) (show l.length ≤ 1000000000 by omega)
    rw [ho'] at hFile
    cases o with
    | none =>
      change XPure _ _ _ (.tup [eF File.none, bln false]) false at hFile
      rw [refGo_none hlt ho'] at hA
      subst hA
      repeat' ((conv => whnf); (fail_if_success refine zC ?_); first | refine zSd ?_ | refine zB (fun h hs => ?_) (fun h hs => ?_) <;> try exact hs.elim | refine .inl ⟨_, _, hFile, ?_⟩ | exact zE | refine zZ ?_ | rw [getD_mapI (ByteArray.empty) (by omega)] | rw [getD_map (ByteArray.empty) (by omega)] | fail)
    | some f =>
      change XPure _ _ _ (.tup [eF f, bln true]) false at hFile
      rw [refGo_some hlt ho'] at hA
      have hf := (fileOk_iff.1 (hok f ((findF_mem _ _ _ ho')))).2.1
      have hsz : (s ++ f.text).size = s.size + f.text.size := ByteArray.size_append
      repeat' ((conv => whnf); (fail_if_success refine zC ?_); first | refine zSd ?_ | refine zB (fun h hs => ?_) (fun h hs => ?_) <;> try exact hs.elim | refine .inl ⟨_, _, hFile, ?_⟩ | exact zE | refine zZ ?_ | rw [getD_mapI (ByteArray.empty) (by omega)] | rw [getD_map (ByteArray.empty) (by omega)] | fail)
      · conv => whnf
        rw [if_pos (by omega)] at hA
        exact ⟨(i + 1, s ++ f.text), by dsimp only; omega, ⟨by dsimp only; omega, by dsimp only; omega, hA⟩, Weak.go⟩
      · conv => whnf
        rw [if_neg (by omega)] at hA
        exact ⟨(i + 1, s), by dsimp only; omega, ⟨by dsimp only; omega, by dsimp only; omega, hA⟩, Weak.go⟩
  · have hi' : decide ((i : Int) < ((src.map eStr).length : Int)) = false := by rw [List.length_map]; exact decide_eq_false (by omega)
    rw [List.drop_eq_nil_of_le hge] at hA
    subst hA
    repeat' ((conv => whnf); (fail_if_success refine zC ?_); first | refine zS ?_ | refine zB (fun h hs => ?_) (fun h hs => ?_) <;> try exact hs.elim | exact zE | refine zZ ?_ | rw [getD_mapI (ByteArray.empty) (by omega)] | rw [getD_map (ByteArray.empty) (by omega)] | fail)
/-- What is written, as the program reads it, and as the document does. -/
theorem read_ref {clock : Int} {l : List File} (hd : okD clock l = true) : ∀ (src : List ByteArray), src.all isName = true → ∀ (acc : List UInt8) (s : ByteArray), (s.data.toList = acc ∨ 4096 < s.size ∧ 4096 < acc.length) →
    (refGo l src s = none ∧ ∃ full, readGo clock l src acc = (21, full)) ∨ ∃ t full, refGo l src s = some t ∧ readGo clock l src acc = (0, full) ∧ (t.data.toList = full ∨ 4096 < t.size ∧ 4096 < full.length)
  | [], _, acc, s, h => .inr ⟨s, acc, rfl, rfl, h⟩
  | x :: r, hn, acc, s, h => by
    simp only [List.all_cons, Bool.and_eq_true] at hn
    have hE : findE clock l x = errIf (findF l x).isSome 21 := by unfold findE; rw [hd, hn.1]; rfl
    have hDD : findD clock l x = findF l x := by unfold findD; rw [hd, hn.1]; rfl
    simp only [refGo, readGo]
    cases hf : findF l x with
    | none =>
      rw [hE, hf]
      exact .inl ⟨rfl, [], rfl⟩
    | some f =>
      rw [hE, hf, show errIf (some f).isSome 21 = 0 from rfl, if_pos rfl, hDD, hf]
      refine read_ref hd r hn.2 _ _ ?_
      show (if s.size ≤ 4096 then s ++ f.text else s).data.toList = acc ++ f.text.data.toList ∨ 4096 < (if s.size ≤ 4096 then s ++ f.text else s).size ∧ 4096 < (acc ++ f.text.data.toList).length
      rcases h with h | ⟨h1, h2⟩
      · split
        · exact .inl (by rw [← h]; simp)
        · refine .inr ⟨by omega, ?_⟩
          rw [← h, List.length_append]
          have : s.data.toList.length = s.size := by simp
          omega
      · rw [if_neg (by omega)]
        exact .inr ⟨h1, by rw [List.length_append]; omega⟩
end Go.Proofs.YtepdiooaoegpfaaGreatDoor.Fx
end
section
/- Disks as the document's answer touches them, and takes files away. Conditions: those in each statement. -/
namespace Go.Proofs.YtepdiooaoegpfaaGreatDoor.Fx
open Go Go.Proofs Go.Ev Go.RowKit
set_option maxRecDepth 100000
set_option maxHeartbeats 6400000
set_option linter.unusedSimpArgs false
set_option linter.unusedVariables false
theorem c_OwnDisk {c : Int} {l : List File} (hl : l.length ≤ 1000000000) : XPure Tryz.prog 8 [eD c l] (eD c l) false := by
  refine XPure.body ⟨_, Tryz.func8, rfl, by kernel_rfl⟩ Tryz.func8 rfl (Nat.le_of_ble_eq_true (by rfl)) (pf_of1 rfl) fun env => ?_
  repeat' ((conv => whnf); (fail_if_success refine zC ?_); first | refine zS ?_ | refine zB (fun h hs => ?_) (fun h hs => ?_) <;> try exact hs.elim | (refine XW.drawP (m := 6) (by kernel_rfl) (by kernel_rfl) (by rfl) ?_) | exact zE | refine zZ ?_ | fail)
theorem c_ref02_Touch {clock : Int} {l : List File} {name : ByteArray} (hz : SzF l) (hns : name.size ≤ 140737488355328) : XPure Tryz.prog 57 [eD clock l, str name] (.tup [eD (tcC clock l name) (tcL clock l name), i64 (tcE clock l name)]) false := by
  have yes : ∀ t, okD clock l = true → isName name = true → textF l name = t → tcE clock l name = writE clock l ⟨name, t, clock + 1⟩ := fun t h1 h2 h3 => by unfold tcE; rw [if_pos h1, if_pos h2, h3]
  cases hf : thereF l name with
  | true =>
    refine XPure.bodyN ⟨_, Tryz.func57, rfl, by kernel_rfl⟩ Tryz.func57 rfl (Nat.le_of_ble_eq_true (by rfl)) (pf_of1 rfl) fun env => ?_
    repeat' ((conv => whnf); (fail_if_success refine zC ?_); first | refine zS ?_ | refine zB (fun h hs => ?_) (fun h hs => ?_) <;> try exact hs.elim | refine .inl ⟨_, _, c_ref02_fit hz hns, ?_⟩ | refine .inl ⟨_, _, c_place_yes (okD_sorted (asked0 (by assumption)).1).1 (okD_sorted (asked0 (by assumption)).1).2 hf, ?_⟩ | refine .inl ⟨_, _, c_ref02_written (okD_clock (asked0 (by assumption)).1) (okD_sorted (asked0 (by assumption)).1).1 (okD_sorted (asked0 (by assumption)).1).2, ?_⟩ | refine XW.dr (m := 5) ?_ | refine ⟨_, _, c_ref02_fit hz hns, ?_⟩ | refine ⟨_, _, c_place_yes (okD_sorted (asked0 (by assumption)).1).1 (okD_sorted (asked0 (by assumption)).1).2 hf, ?_⟩ | refine ⟨_, _, c_ref02_written (okD_clock (asked0 (by assumption)).1) (okD_sorted (asked0 (by assumption)).1).1 (okD_sorted (asked0 (by assumption)).1).2, ?_⟩ | (rw [getD_mapI File.none (posF_lt hf)]) | exact zElws | refine zZlws ?_ | (refine ⟨?_, ?_, ?_⟩; (first | omega | (have := posF_lt hf; simp only [List.length_map]; omega)); (first | omega | (have := posF_lt hf; simp only [List.length_map]; omega))) | (refine ⟨?_, ?_⟩; (first | omega | (have := posF_lt hf; simp only [List.length_map]; omega))) | fail)
    · have e : tcE clock l name = bif okD clock l then errIf (isName name) 3 else 4 := by
        unfold tcE
        cases h1 : okD clock l <;> cases h2 : isName name <;> simp_all [errIf]
      have e0 : ¬ tcE clock l name = 0 := by rw [e]; exact hs
      exact leq_disk (by unfold tcC; rw [if_neg e0]) e.symm (by unfold tcL; rw [if_neg e0])
    · obtain ⟨q1, q2⟩ := asked0 (by assumption)
      have e3 : textF l name = (l.getD (posF l name) File.none).text := by unfold textF; rw [if_pos hf]
      have e := yes _ q1 q2 e3
      exact leq_disk2 (by unfold tcC writC; rw [e]) e.symm (by unfold tcL writL; rw [e, e3])
    · exfalso; omega
  | false =>
    refine XPure.bodyN ⟨_, Tryz.func57, rfl, by kernel_rfl⟩ Tryz.func57 rfl (Nat.le_of_ble_eq_true (by rfl)) (pf_of1 rfl) fun env => ?_
    repeat' ((conv => whnf); (fail_if_success refine zC ?_); first | refine zSd ?_ | refine zB (fun h hs => ?_) (fun h hs => ?_) <;> try exact hs.elim | refine .inl ⟨_, _, c_ref02_fit hz hns, ?_⟩ | refine .inl ⟨_, _, c_place_no (okD_sorted (asked0 (by assumption)).1).1 (okD_sorted (asked0 (by assumption)).1).2 hf, ?_⟩ | refine .inl ⟨_, _, c_ref02_written (okD_clock (asked0 (by assumption)).1) (okD_sorted (asked0 (by assumption)).1).1 (okD_sorted (asked0 (by assumption)).1).2, ?_⟩ | exact zElw | refine zZlw ?_ | fail)
    · have e : tcE clock l name = bif okD clock l then errIf (isName name) 3 else 4 := by
        unfold tcE
        cases h1 : okD clock l <;> cases h2 : isName name <;> simp_all [errIf]
      have e0 : ¬ tcE clock l name = 0 := by rw [e]; exact hs
      exact leq_disk (by unfold tcC; rw [if_neg e0]) e.symm (by unfold tcL; rw [if_neg e0])
    · obtain ⟨q1, q2⟩ := asked0 (by assumption)
      have e3 : textF l name = .empty := by unfold textF; rw [if_neg (by rw [hf]; simp)]
      have e := yes _ q1 q2 e3
      exact leq_disk2 (by unfold tcC writC; rw [e]; rfl) e.symm (by unfold tcL writL; rw [e, e3]; rfl)
theorem filter_all {s : ByteArray} {A : List File} (h : ∀ a ∈ A, a.name ≠ s) : A.filter (fun x => !beqS x.name s) = A :=
  List.filter_eq_self.2 fun a ha => by rw [beqS_no.2 (h a ha)]; rfl
theorem filter_cut {l : List File} {s : ByteArray} (hs : Sorted l) (h : thereF l s = true) : l.filter (fun x => !beqS x.name s) = cutL l s := by
  obtain ⟨A, B, hA, hB, hp, ⟨_, g, hg, rfl⟩ | ⟨h', _⟩⟩ := parts (s := s) hs
  · unfold cutL
    rw [hp, List.filter_append, List.filter_cons, filter_all fun a ha => lt_ne (hA a ha), if_neg (by rw [beqS_iff.2 hg]; simp), filter_all fun a ha => (lt_ne (hB a ha)).symm, List.take_left]
    congr 1
    rw [show A.length + 1 = (A ++ [g]).length by simp, show A ++ g :: B = (A ++ [g]) ++ B by simp, List.drop_left]
  · rw [h] at h'; cases h'
theorem c_ref02_Remove {clock : Int} {l : List File} {name : ByteArray} (hz : SzF l) (hns : name.size ≤ 140737488355328) : XPure Tryz.prog 58 [eD clock l, str name] (.tup [eD (rmC clock l name) (rmL clock l name), i64 (rmE clock l name)]) false := by
  cases hf : thereF l name with
  | false =>
    refine XPure.bodyN ⟨_, Tryz.func58, rfl, by kernel_rfl⟩ Tryz.func58 rfl (Nat.le_of_ble_eq_true (by rfl)) (pf_of1 rfl) fun env => ?_
    repeat' ((conv => whnf); (fail_if_success refine zC ?_); first | refine zSd ?_ | refine zB (fun h hs => ?_) (fun h hs => ?_) <;> try exact hs.elim | refine .inl ⟨_, _, c_ref02_fit hz hns, ?_⟩ | refine .inl ⟨_, _, c_place_no (okD_sorted (asked0 (by assumption)).1).1 (okD_sorted (asked0 (by assumption)).1).2 hf, ?_⟩ | exact zElw | refine zZlw ?_ | fail)
    · have e : rmE clock l name = bif okD clock l then errIf (isName name) 3 else 4 := by
        unfold rmE
        cases h1 : okD clock l <;> cases h2 : isName name <;> simp_all [errIf]
      have e0 : ¬ rmE clock l name = 0 := by rw [e]; exact hs
      exact leq_disk (by unfold rmC; rw [if_neg e0]) e.symm (by unfold rmL; rw [if_neg e0])
    · obtain ⟨q1, q2⟩ := asked0 (by assumption)
      have e : rmE clock l name = 21 := by unfold rmE; rw [if_pos q1, if_pos q2, if_neg (by rw [hf]; simp)]
      exact leq_disk (by unfold rmC; rw [e]; rfl) e.symm (by unfold rmL; rw [e]; rfl)
  | true =>
    refine XPure.bodyN ⟨_, Tryz.func58, rfl, by kernel_rfl⟩ Tryz.func58 rfl (Nat.le_of_ble_eq_true (by rfl)) (pf_of1 rfl) fun env => ?_
    repeat' ((conv => whnf); (fail_if_success refine zC ?_); first | refine zS ?_ | refine zB (fun h hs => ?_) (fun h hs => ?_) <;> try exact hs.elim | refine .inl ⟨_, _, c_ref02_fit hz hns, ?_⟩ | refine .inl ⟨_, _, c_place_yes (okD_sorted (asked0 (by assumption)).1).1 (okD_sorted (asked0 (by assumption)).1).2 hf, ?_⟩ | exact zElw | refine zZlw ?_ | fail)
    · have e : rmE clock l name = bif okD clock l then errIf (isName name) 3 else 4 := by
        unfold rmE
        cases h1 : okD clock l <;> cases h2 : isName name <;> simp_all [errIf]
      have e0 : ¬ rmE clock l name = 0 := by rw [e]; exact hs
      exact leq_disk (by unfold rmC; rw [if_neg e0]) e.symm (by unfold rmL; rw [if_neg e0])
    · exfalso; omega
    · obtain ⟨q1, q2⟩ := asked0 (by assumption)
      have e : rmE clock l name = 0 := by unfold rmE; rw [if_pos q1, if_pos q2, if_pos hf]
      have hl := (okD_sorted q1).1
      repeat' ((conv => whnf); (fail_if_success refine zC ?_); first | refine zS ?_ | refine zB (fun h hs => ?_) (fun h hs => ?_) <;> try exact hs.elim | exact zE | refine zZ ?_ | fail)
      refine XW.overL [1, 2, 4, 5, 7] (fun (p : Nat × List File) => [(8, i64 p.1)]) (fun _ => []) (fun p => [.cells [i64 clock, eFs l] [], .cells [i64 0, nilv] [], .cells [i64 clock, eFs p.2] [1]]) (fun p => p.1 ≤ l.length ∧ p.2.length ≤ p.1 ∧ p.2 ++ (l.drop p.1).filter (fun x => !beqS x.name name) = l.filter fun x => !beqS x.name name) (fun p => l.length - p.1) (0, []) Weak.go ⟨Nat.zero_le _, Nat.zero_le _, rfl⟩ ?_
      rintro ⟨i, acc⟩ ⟨hi, ha, hA⟩
      dsimp only at hi ha hA ⊢
      refine codeS ?_
      have hM := map_snoc eF acc (l.getD i File.none)
      repeat' ((conv => whnf); (fail_if_success refine zC ?_); first | refine zS ?_ | refine zB (fun h hs => ?_) (fun h hs => ?_) <;> try exact hs.elim | (first | refine XW.drawL (m := 8) (i := 2) (off := 1) (t := 40) (by kernel_rfl) (by kernel_rfl) (by rfl) ?_ | ((with_reducible show ∀ _ : Value, _); intro y)) | exact zEw | refine zZw ?_ | rw [getD_mapI (File.none) (by omega)] | rw [getD_map (File.none) (by omega)] | fail)
      · conv => whnf
        refine ⟨(i + 1, acc ++ [l.getD i File.none]), by dsimp only; omega, ⟨by dsimp only; omega, by simp only [List.length_append, List.length_cons, List.length_nil]; omega, ?_⟩, Weak.go⟩
        dsimp only
        rw [← hA, drop_getD File.none ‹i < l.length›, List.filter_cons, if_pos h, List.append_assoc]; rfl
      · conv => whnf
        refine ⟨(i + 1, acc), by dsimp only; omega, ⟨by dsimp only; omega, by dsimp only; omega, ?_⟩, Weak.go⟩
        dsimp only
        rw [← hA, drop_getD File.none ‹i < l.length›, List.filter_cons, if_neg (by rw [h]; simp)]
      · rw [List.drop_eq_nil_of_le (by omega), List.filter_nil, List.append_nil, filter_cut (okD_sorted q1).2 hf] at hA
        exact leq_disk2 (by unfold rmC; rw [e]; rfl) e.symm (by unfold rmL; rw [hA, if_pos e])
end Go.Proofs.YtepdiooaoegpfaaGreatDoor.Fx
end
section
/- The document's Do. Conditions: those in each statement. -/
namespace Go.Proofs.YtepdiooaoegpfaaGreatDoor.Fx
open Go Go.Proofs Go.Ev Go.RowKit
set_option maxRecDepth 100000
set_option maxHeartbeats 6400000
set_option linter.unusedSimpArgs false
set_option linter.unusedVariables false
attribute [local irreducible] readE readT findE
theorem c_St {e : Int} : XPure Tryz.prog 22 [i64 e] (i64 (statusOf e)) false := by unfold statusOf; exact c_ref17_Status
theorem c_ref17_text3 {st clock : Int} {dst : ByteArray} {src words : List ByteArray} {l : List File} (hn : words.length ≤ 512) (hw : ∀ x ∈ words, x.size ≤ 65536) : XPure Tryz.prog 56 [eC 3 dst src words st, eD clock l] (.tup [str (spokenB words), i64 0]) false := by
  have hz := joinB_size hn hw
  refine XPure.body ⟨_, Tryz.func56, rfl, by kernel_rfl⟩ Tryz.func56 rfl (Nat.le_of_ble_eq_true (by rfl)) (pf_of1 rfl) fun env => ?_
  repeat' ((conv => whnf); (fail_if_success refine zC ?_); first | refine zS ?_ | refine zB (fun h hs => ?_) (fun h hs => ?_) <;> try exact hs.elim | refine .inl ⟨_, _, c_ref17_joined hn hw, ?_⟩ | exact zEs | refine zZs ?_ | (refine ⟨?_, ?_, ?_⟩; (first | omega | (show (joinB words blankS).size + 1 ≤ 140737488355328; omega)); (first | omega | (show (joinB words blankS).size + 1 ≤ 140737488355328; omega))) | (refine ⟨?_, ?_⟩; (first | omega | (show (joinB words blankS).size + 1 ≤ 140737488355328; omega))) | fail)
theorem dn_eq {x y : Done} (h : x = y) : eDone x = eDone y := by rw [h]
section
variable {n : Node} {t : ByteArray} {clock : Int} {l : List File}
theorem ref_fail {fail : Int} (hf : 0 < fail) : XPure Tryz.prog 32 [eN n, str t, eD clock l, i64 fail] (eDone ⟨clock, l, .empty, false, fail, 171⟩) false := by
  have hf' : (fail != 0) = true := by simp; omega
  refine XPure.body ⟨_, Tryz.func32, rfl, by kernel_rfl⟩ Tryz.func32 rfl (Nat.le_of_ble_eq_true (by rfl)) (pf_of1 rfl) fun env => ?_
  repeat' ((conv => whnf); (fail_if_success refine zC ?_); first | refine zSd ?_ | refine zB (fun h hs => ?_) (fun h hs => ?_) <;> try exact hs.elim | refine .inl ⟨_, _, c_ref17_failed, ?_⟩ | exact zEwf | refine zZwf ?_ | fail)
  exact Eq.trans (b := eDone ⟨clock, l, .empty, false, fail, 171⟩) (by kernel_rfl) rfl
theorem ref_may {c : Cm} {m : Int} (hM : XPure Tryz.prog 37 [eN n, str t] (.tup [c.av, i64 m]) false) (hm : (m != 0) = true) : XPure Tryz.prog 32 [eN n, str t, eD clock l, i64 0] (eDone ⟨clock, l, .empty, false, statusOf m, m⟩) false := by
  refine XPure.body ⟨_, Tryz.func32, rfl, by kernel_rfl⟩ Tryz.func32 rfl (Nat.le_of_ble_eq_true (by rfl)) (pf_of1 rfl) fun env => ?_
  repeat' ((conv => whnf); (fail_if_success refine zC ?_); first | refine zSd ?_ | refine zB (fun h hs => ?_) (fun h hs => ?_) <;> try exact hs.elim | refine .inl ⟨_, _, hM, ?_⟩ | refine .inl ⟨_, _, c_ref17_failed, ?_⟩ | refine .inl ⟨_, _, c_St, ?_⟩ | refine ⟨_, _, hM, ?_⟩ | refine ⟨_, _, c_ref17_failed, ?_⟩ | refine ⟨_, _, c_St, ?_⟩ | (first | refine XW.draw (id := 5) (m := 4) (by kernel_rfl) (by kernel_rfl) (by rfl) ?_ | refine XW.draw (id := 28) (m := 4) (by kernel_rfl) (by kernel_rfl) (by rfl) ?_ | refine XW.draw (id := 8) (m := 4) (by kernel_rfl) (by kernel_rfl) (by rfl) ?_) | exact zEwf | refine zZwf ?_ | fail)
  exact Eq.trans (b := eDone ⟨clock, l, .empty, false, statusOf m, m⟩) (by kernel_rfl) rfl
theorem ref_text {op st e we wc : Int} {dst s : ByteArray} {src words : List ByteArray} {wl : List File} (ho : op = 1 ∨ op = 2 ∨ op = 3) (hM : XPure Tryz.prog 37 [eN n, str t] (.tup [eC op dst src words st, i64 0]) false)
    (hT : XPure Tryz.prog 56 [eC op dst src words st, eD clock l] (.tup [str s, i64 e]) false) (hW : e = 0 → XPure Tryz.prog 18 [eD clock l, str dst, str s] (.tup [eD wc wl, i64 we]) false) :
    XPure Tryz.prog 32 [eN n, str t, eD clock l, i64 0] (eDone (if e = 0 then if we = 0 then ⟨wc, wl, .empty, true, 0, 0⟩ else ⟨clock, l, .empty, false, statusOf we, we⟩ else ⟨clock, l, .empty, false, statusOf e, e⟩)) false := by
  rcases ho with rfl | rfl | rfl
  all_goals
    refine XPure.body ⟨_, Tryz.func32, rfl, by kernel_rfl⟩ Tryz.func32 rfl (Nat.le_of_ble_eq_true (by rfl)) (pf_of1 rfl) fun env => ?_
    repeat' ((conv => whnf); (fail_if_success refine zC ?_); first | refine zSd ?_ | refine zB (fun h hs => ?_) (fun h hs => ?_) <;> try exact hs.elim | refine .inl ⟨_, _, hM, ?_⟩ | refine .inl ⟨_, _, hT, ?_⟩ | refine .inl ⟨_, _, hW (by assumption), ?_⟩ | refine .inl ⟨_, _, c_ref17_failed, ?_⟩ | refine .inl ⟨_, _, c_St, ?_⟩ | refine ⟨_, _, hM, ?_⟩ | refine ⟨_, _, hT, ?_⟩ | refine ⟨_, _, hW (by assumption), ?_⟩ | refine ⟨_, _, c_ref17_failed, ?_⟩ | refine ⟨_, _, c_St, ?_⟩ | (first | refine XW.draw (id := 5) (m := 4) (by kernel_rfl) (by kernel_rfl) (by rfl) ?_ | refine XW.draw (id := 28) (m := 4) (by kernel_rfl) (by kernel_rfl) (by rfl) ?_ | refine XW.draw (id := 8) (m := 4) (by kernel_rfl) (by kernel_rfl) (by rfl) ?_) | exact zEwf | refine zZwf ?_ | fail)
  all_goals first
    | (exact Eq.trans (b := eDone ⟨clock, l, .empty, false, statusOf we, we⟩) (by kernel_rfl) (dn_eq (by rw [if_pos (by assumption), if_neg hs])))
    | (exact Eq.trans (b := eDone ⟨wc, wl, .empty, true, 0, 0⟩) (by kernel_rfl) (dn_eq (by rw [if_pos (by assumption), if_pos hs])))
    | (exact Eq.trans (b := eDone ⟨clock, l, .empty, false, statusOf e, e⟩) (by kernel_rfl) (dn_eq (by rw [if_neg hs])))
    | (exfalso; omega)
theorem ref_touch {we wc st : Int} {dst : ByteArray} {src words : List ByteArray} {wl : List File} (hM : XPure Tryz.prog 37 [eN n, str t] (.tup [eC 4 dst src words st, i64 0]) false) (hW : XPure Tryz.prog 57 [eD clock l, str dst] (.tup [eD wc wl, i64 we]) false) :
    XPure Tryz.prog 32 [eN n, str t, eD clock l, i64 0] (eDone (if we = 0 then ⟨wc, wl, .empty, true, 0, 0⟩ else ⟨clock, l, .empty, false, statusOf we, we⟩)) false := by
  refine XPure.body ⟨_, Tryz.func32, rfl, by kernel_rfl⟩ Tryz.func32 rfl (Nat.le_of_ble_eq_true (by rfl)) (pf_of1 rfl) fun env => ?_
  repeat' ((conv => whnf); (fail_if_success refine zC ?_); first | refine zSd ?_ | refine zB (fun h hs => ?_) (fun h hs => ?_) <;> try exact hs.elim | refine .inl ⟨_, _, hM, ?_⟩ | refine .inl ⟨_, _, hW, ?_⟩ | refine .inl ⟨_, _, c_ref17_failed, ?_⟩ | refine .inl ⟨_, _, c_St, ?_⟩ | refine ⟨_, _, hM, ?_⟩ | refine ⟨_, _, hW, ?_⟩ | refine ⟨_, _, c_ref17_failed, ?_⟩ | refine ⟨_, _, c_St, ?_⟩ | (first | refine XW.draw (id := 5) (m := 4) (by kernel_rfl) (by kernel_rfl) (by rfl) ?_ | refine XW.draw (id := 28) (m := 4) (by kernel_rfl) (by kernel_rfl) (by rfl) ?_ | refine XW.draw (id := 8) (m := 4) (by kernel_rfl) (by kernel_rfl) (by rfl) ?_) | exact zEwf | refine zZwf ?_ | fail)
  · exact Eq.trans (b := eDone ⟨clock, l, .empty, false, statusOf we, we⟩) (by kernel_rfl) (dn_eq (by rw [if_neg hs]))
  · exact Eq.trans (b := eDone ⟨wc, wl, .empty, true, 0, 0⟩) (by kernel_rfl) (dn_eq (by rw [if_pos hs]))
theorem ref_remove {we wc st : Int} {dst : ByteArray} {src words : List ByteArray} {wl : List File} (hM : XPure Tryz.prog 37 [eN n, str t] (.tup [eC 5 dst src words st, i64 0]) false) (hW : XPure Tryz.prog 58 [eD clock l, str dst] (.tup [eD wc wl, i64 we]) false) :
    XPure Tryz.prog 32 [eN n, str t, eD clock l, i64 0] (eDone (if we = 0 then ⟨wc, wl, .empty, true, 0, 0⟩ else ⟨clock, l, .empty, false, statusOf we, we⟩)) false := by
  refine XPure.body ⟨_, Tryz.func32, rfl, by kernel_rfl⟩ Tryz.func32 rfl (Nat.le_of_ble_eq_true (by rfl)) (pf_of1 rfl) fun env => ?_
  repeat' ((conv => whnf); (fail_if_success refine zC ?_); first | refine zSd ?_ | refine zB (fun h hs => ?_) (fun h hs => ?_) <;> try exact hs.elim | refine .inl ⟨_, _, hM, ?_⟩ | refine .inl ⟨_, _, hW, ?_⟩ | refine .inl ⟨_, _, c_ref17_failed, ?_⟩ | refine .inl ⟨_, _, c_St, ?_⟩ | refine ⟨_, _, hM, ?_⟩ | refine ⟨_, _, hW, ?_⟩ | refine ⟨_, _, c_ref17_failed, ?_⟩ | refine ⟨_, _, c_St, ?_⟩ | (first | refine XW.draw (id := 5) (m := 4) (by kernel_rfl) (by kernel_rfl) (by rfl) ?_ | refine XW.draw (id := 28) (m := 4) (by kernel_rfl) (by kernel_rfl) (by rfl) ?_ | refine XW.draw (id := 8) (m := 4) (by kernel_rfl) (by kernel_rfl) (by rfl) ?_) | exact zEwf | refine zZwf ?_ | fail)
  · exact Eq.trans (b := eDone ⟨clock, l, .empty, false, statusOf we, we⟩) (by kernel_rfl) (dn_eq (by rw [if_neg hs]))
  · exact Eq.trans (b := eDone ⟨wc, wl, .empty, true, 0, 0⟩) (by kernel_rfl) (dn_eq (by rw [if_pos hs]))
theorem ref_test {st : Int} {dst s : ByteArray} {words : List ByteArray} {f : File} {there : Bool} (hM : XPure Tryz.prog 37 [eN n, str t] (.tup [eC 6 dst [s] words st, i64 0]) false) (hF : XPure Tryz.prog 15 [eD clock l, str s] (.tup [eF f, bln there]) false) :
    XPure Tryz.prog 32 [eN n, str t, eD clock l, i64 0] (eDone (if there = true then ⟨clock, l, .empty, false, 0, 0⟩ else ⟨clock, l, .empty, false, 1, 171⟩)) false := by
  refine XPure.body ⟨_, Tryz.func32, rfl, by kernel_rfl⟩ Tryz.func32 rfl (Nat.le_of_ble_eq_true (by rfl)) (pf_of1 rfl) fun env => ?_
  repeat' ((conv => whnf); (fail_if_success refine zC ?_); first | refine zSd ?_ | refine zB (fun h hs => ?_) (fun h hs => ?_) <;> try exact hs.elim | refine .inl ⟨_, _, hM, ?_⟩ | refine .inl ⟨_, _, hF, ?_⟩ | refine .inl ⟨_, _, c_ref17_failed, ?_⟩ | refine ⟨_, _, hM, ?_⟩ | refine ⟨_, _, hF, ?_⟩ | refine ⟨_, _, c_ref17_failed, ?_⟩ | (first | (refine XW.drawW (id := 21) (M := 11) (p := 4) (W := [9, 10]) (by kernel_rfl) (by kernel_rfl) ?_) | ((with_reducible show _ ∧ allW _ _); refine ⟨?_, ?_⟩) | exact trivial) | exact zEwf | refine zZwf ?_ | fail)
  · exact Eq.trans (b := eDone ⟨clock, l, .empty, false, 1, 171⟩) (by kernel_rfl) (dn_eq (by rw [if_neg (by rw [hs]; simp)]))
  · exact Eq.trans (b := eDone ⟨clock, l, .empty, false, 0, 0⟩) (by kernel_rfl) (dn_eq (by rw [if_pos hs]))
theorem ref_bad {st : Int} {dst : ByteArray} {src words : List ByteArray} (hM : XPure Tryz.prog 37 [eN n, str t] (.tup [eC 7 dst src words st, i64 0]) false) : XPure Tryz.prog 32 [eN n, str t, eD clock l, i64 0] (eDone ⟨clock, l, .empty, false, st, 171⟩) false := by
  refine XPure.body ⟨_, Tryz.func32, rfl, by kernel_rfl⟩ Tryz.func32 rfl (Nat.le_of_ble_eq_true (by rfl)) (pf_of1 rfl) fun env => ?_
  repeat' ((conv => whnf); (fail_if_success refine zC ?_); first | refine zSd ?_ | refine zB (fun h hs => ?_) (fun h hs => ?_) <;> try exact hs.elim | refine .inl ⟨_, _, hM, ?_⟩ | refine .inl ⟨_, _, c_ref17_failed, ?_⟩ | exact zEwf | refine zZwf ?_ | fail)
  exact Eq.trans (b := eDone ⟨clock, l, .empty, false, st, 171⟩) (by kernel_rfl) rfl
theorem ref_say {st : Int} {dst : ByteArray} {src words : List ByteArray} (hn : words.length ≤ 512) (hw : ∀ x ∈ words, x.size ≤ 65536) (hM : XPure Tryz.prog 37 [eN n, str t] (.tup [eC 8 dst src words st, i64 0]) false) : XPure Tryz.prog 32 [eN n, str t, eD clock l, i64 0] (eDone ⟨clock, l, joinB words blankS, false, 0, 0⟩) false := by
  refine XPure.body ⟨_, Tryz.func32, rfl, by kernel_rfl⟩ Tryz.func32 rfl (Nat.le_of_ble_eq_true (by rfl)) (pf_of1 rfl) fun env => ?_
  repeat' ((conv => whnf); (fail_if_success refine zC ?_); first | refine zSd ?_ | refine zB (fun h hs => ?_) (fun h hs => ?_) <;> try exact hs.elim | refine .inl ⟨_, _, hM, ?_⟩ | refine .inl ⟨_, _, c_ref17_joined hn hw, ?_⟩ | refine ⟨_, _, hM, ?_⟩ | refine ⟨_, _, c_ref17_joined hn hw, ?_⟩ | (first | refine XW.draw (id := 5) (m := 4) (by kernel_rfl) (by kernel_rfl) (by rfl) ?_ | refine XW.draw (id := 28) (m := 4) (by kernel_rfl) (by kernel_rfl) (by rfl) ?_ | refine XW.draw (id := 8) (m := 4) (by kernel_rfl) (by kernel_rfl) (by rfl) ?_) | exact zEwf | refine zZwf ?_ | fail)
  exact Eq.trans (b := eDone ⟨clock, l, joinB words blankS, false, 0, 0⟩) (by kernel_rfl) rfl
end
end Go.Proofs.YtepdiooaoegpfaaGreatDoor.Fx
end
