/- Written by programs of this session: laws and contracts that the law's proof stands on, merged into one text. Conditions: none beyond those in each statement. -/
import Derived.Test.YtepdiooaoegpfaaGreatDoorPkFx18
import Derived.Test.YtepdiooaoegpfaaGreatDoorPkFx15
import Derived.Test.YtepdiooaoegpfaaGreatDoorPkFx14
import Derived.Test.YtepdiooaoegpfaaGreatDoorPkFx17
import Derived.Test.YtepdiooaoegpfaaGreatDoorPkFx16
import Derived.Test.YtepdiooaoegpfaaGreatDoorPkEv23
section
/- The document's Done and Do. Conditions: those in each statement. -/
namespace Go.Proofs.YtepdiooaoegpfaaGreatDoor.Fx
open Go Go.Proofs Go.Ev Go.RowKit
set_option maxRecDepth 100000
set_option maxHeartbeats 6400000
set_option linter.unusedSimpArgs false
set_option linter.unusedVariables false
attribute [local irreducible] readE readT findE
theorem wr_big {clock : Int} {l : List File} {name a b : ByteArray} (h : a = b ∨ 4096 < a.size ∧ 4096 < b.size) (hn : isName name = true) (hd : okD clock l = true) : wrE clock l name a = wrE clock l name b ∧ (wrE clock l name a = 0 → a = b) := by
  rcases h with rfl | ⟨h1, h2⟩
  · exact ⟨rfl, fun _ => rfl⟩
  · have e : ∀ x : ByteArray, 4096 < x.size → wrE clock l name x = 20 := fun x hx => by unfold wrE; rw [if_pos hd, if_pos hn, if_pos hx]
    rw [e a h1, e b h2]
    exact ⟨rfl, fun h => by cases h⟩
section
variable {n : Node} {t : ByteArray} {clock : Int} {l : List File}
theorem ref_read {op : Int} {dst : ByteArray} {src words : List ByteArray} (ho : op = 1 ∨ op = 2) (hd : okD clock l = true) (hzl : SzF l) (hdst : isName dst = true) (hsrc : src.all isName = true) (hn : src.length ≤ 1000000000)
    (hM : XPure Tryz.prog 37 [eN n, str t] (.tup [eC op dst src words 0, i64 0]) false) : XPure Tryz.prog 32 [eN n, str t, eD clock l, i64 0] (eDone (doneD ⟨op, dst, src, words, 0⟩ (doneOf ⟨op, dst, src, words, 0⟩ clock l) clock l)) false := by
  have ho3 : (op == 3) = false := by rcases ho with rfl | rfl <;> rfl
  have hT := c_ref17_textR (op := op) (st := 0) (dst := dst) (words := words) ho3 hd hn
  have hW (s : ByteArray) := c_ref02_Write (clock := clock) (l := l) (name := dst) (text := s) hzl (by have := name_size hdst; omega)
  have hdo : doneOf ⟨op, dst, src, words, 0⟩ clock l = if readE clock l src = 0 then ⟨wrC clock l dst (readT clock l src), wrL' clock l dst (readT clock l src), .empty, 0, wrE clock l dst (readT clock l src)⟩ else ⟨clock, l, .empty, 0, readE clock l src⟩ := by
    unfold doneOf; rw [if_pos ho]
  have hwr : wrOf ⟨op, dst, src, words, 0⟩ = true := by rcases ho with rfl | rfl <;> rfl
  rw [hdo]
  rcases read_ref hd src hsrc [] ⟨#[]⟩ (.inl rfl) with ⟨e1, full, e2⟩ | ⟨s, full, e1, e2, e3⟩
  · have eE : readE clock l src = 21 := by unfold readE; rw [e2]
    rw [e1] at hT
    have := ref_text (e := 21) (we := 0) (wc := 0) (wl := []) (s := ⟨#[]⟩) (by rcases ho with h | h; exact .inl h; exact .inr (.inl h)) hM hT (fun h => by cases h)
    rw [if_neg (by decide)] at this
    rw [eE, if_neg (by decide)]
    exact this
  · have eE : readE clock l src = 0 := by unfold readE; rw [e2]
    have eT : (readT clock l src).data.toList = full := by unfold readT; rw [e2]
    have hb : s = readT clock l src ∨ 4096 < s.size ∧ 4096 < (readT clock l src).size := by
      rcases e3 with e3 | ⟨e3, e4⟩
      · exact .inl (bytesExt (e3.trans eT.symm))
      · refine .inr ⟨e3, ?_⟩
        have : (readT clock l src).data.toList.length = (readT clock l src).size := by simp
        rw [eT] at this; omega
    obtain ⟨w1, w2⟩ := wr_big hb hdst hd
    rw [e1] at hT
    have := ref_text (e := 0) (s := s) (by rcases ho with h | h; exact .inl h; exact .inr (.inl h)) hM hT (fun _ => hW s)
    rw [if_pos rfl] at this
    rw [eE, if_pos rfl]
    unfold doneD
    dsimp only
    rw [hwr, ← w1]
    by_cases hw : wrE clock l dst s = 0
    · rw [if_pos hw] at this ⊢
      rw [← w2 hw]
      exact this
    · rw [if_neg hw] at this ⊢
      exact this
theorem c_ref17_Done {fail : Int} (hz : SzN n) (hd : okD clock l = true) (h0 : 0 ≤ fail) : XPure Tryz.prog 32 [eN n, str t, eD clock l, i64 fail] (eDone (doIt n t clock l fail)) false := by
  obtain ⟨_, _, hl, hok, hsrt⟩ := okD_iff.1 hd
  have hzl : SzF l := ⟨by omega, fun f hf => by have := name_size (fileOk_iff.1 (hok f hf)).1; omega⟩
  have hM := c_ref17_may (t := t) (n := n) hz.needs.1
  have hk : mayX n t = 0 → Kind (lineC t) := fun h => line_kind (by
    unfold mayX mayOf at h
    by_cases he : lineE t = 0
    · exact he
    · rw [if_neg he] at h; exact absurd h he)
  have hw := line_words (t := t)
  unfold doIt
  by_cases hf : 0 < fail
  · rw [if_pos hf]
    have := ref_fail (n := n) (t := t) (clock := clock) (l := l) hf
    unfold failD
    rw [if_neg (by omega)]
    exact this
  · rw [if_neg hf]
    obtain rfl : fail = 0 := by omega
    by_cases hm : mayX n t = 0
    · rw [if_pos hm]
      rw [hm] at hM
      have hkk := hk hm
      revert hkk hw hM
      generalize lineC t = c
      intro hM hw hkk
      cases hkk
      all_goals dsimp only [Cm.av] at hM hw
      · exact ref_read (.inl rfl) hd hzl (by assumption) (by simp; assumption) (Nat.le_of_ble_eq_true rfl) hM
      · exact ref_read (.inr rfl) hd hzl (by assumption) (by assumption) (by omega) hM
      · have := ref_text (.inr (.inr rfl)) hM (c_ref17_text3 (by assumption) hw) (fun _ => c_ref02_Write (clock := clock) (l := l) hzl (by have := name_size ‹_›; omega))
        rw [if_pos rfl] at this
        show XPure _ _ _ (eDone (if wrE clock l _ _ = 0 then _ else _)) _
        exact this
      · have := ref_touch hM (c_ref02_Touch (clock := clock) (l := l) hzl (by have := name_size ‹_›; omega))
        show XPure _ _ _ (eDone (if tcE clock l _ = 0 then _ else _)) _
        exact this
      · have := ref_remove hM (c_ref02_Remove (clock := clock) (l := l) hzl (by have := name_size ‹_›; omega))
        show XPure _ _ _ (eDone (if rmE clock l _ = 0 then _ else _)) _
        exact this
      · have := ref_test hM (c_ref13_File (clock := clock) (s := _) hzl.1)
        rename_i s hs0
        have hE : findE clock l s = errIf (findF l s).isSome 21 := by unfold findE; rw [hd, hs0]; rfl
        show XPure _ _ _ (eDone (doneD _ (if findE clock l s = 0 then _ else _) clock l)) _
        rw [hE]
        revert this
        generalize findF l s = o
        intro this
        cases o with
        | none => exact this
        | some f => exact this
      · have := ref_bad (clock := clock) (l := l) hM
        rename_i q q1 q2
        show XPure _ _ _ (eDone (failD clock l 171 q)) _
        unfold failD
        rw [if_neg (show ¬ q = 0 by omega)]
        exact this
      · exact ref_say (by assumption) hw hM
    · rw [if_neg hm]
      have := ref_may (clock := clock) (l := l) hM (by simpa using hm)
      exact this
theorem c_ref17_Do {k : Int} (hz : SzN n) (hzl : SzF l) : XPure Tryz.prog 10 [eN n, str t, eD clock l, i64 k] (.tup [eDone (doD n t clock l k), i64 (doE n t clock l k)]) false := by
  have hN := c_ref12_Node hz
  have hC := c_ref02_Check (clock := clock) (l := l) hzl.1 hzl.at
  by_cases hE : doE n t clock l k = 0
  · have hD : doD n t clock l k = doIt n t clock l k := by unfold doD; rw [if_pos hE]
    rw [hD, hE]
    unfold doE at hE
    split at hE
    · cases hE
    split at hE
    · cases hE
    split at hE
    · cases hE
    split at hE
    · cases hE
    have hb : nodeOk n = true := by simpa using ‹¬ nodeOk n = false›
    have hd : okD clock l = true := by simpa using ‹¬ okD clock l = false›
    have hX := c_ref17_Done (t := t) (fail := k) hz hd (by omega)
    rw [hb, show errIf true 7 = 0 from rfl] at hN
    rw [hd, show errIf true 4 = 0 from rfl] at hC
    refine XPure.body ⟨_, Tryz.func10, rfl, by kernel_rfl⟩ Tryz.func10 rfl (Nat.le_of_ble_eq_true (by rfl)) (pf_of1 rfl) fun env => ?_
    repeat' ((conv => whnf); (fail_if_success refine zC ?_); first | refine zSd ?_ | refine zB (fun h hs => ?_) (fun h hs => ?_) <;> try exact hs.elim | refine .inl ⟨_, _, hN, ?_⟩ | refine .inl ⟨_, _, hC, ?_⟩ | refine .inl ⟨_, _, hX, ?_⟩ | exact zEwf | refine zZwf ?_ | fail)
    all_goals try (exfalso; omega)
    all_goals exact Eq.trans (b := AV.tup [eDone (doIt n t clock l k), i64 0]) (by kernel_rfl) rfl
  · have hD : doD n t clock l k = noD := by unfold doD; rw [if_neg hE]
    rw [hD]
    cases hb : nodeOk n with
    | false =>
      rw [hb, show errIf false 7 = 7 from rfl] at hN
      refine XPure.bodyN ⟨_, Tryz.func10, rfl, by kernel_rfl⟩ Tryz.func10 rfl (Nat.le_of_ble_eq_true (by rfl)) (pf_of1 rfl) fun env => ?_
      repeat' ((conv => whnf); (fail_if_success refine zC ?_); first | refine zSd ?_ | refine zB (fun h hs => ?_) (fun h hs => ?_) <;> try exact hs.elim | refine .inl ⟨_, _, hN, ?_⟩ | refine .inl ⟨_, _, hC, ?_⟩ | exact zElw | refine zZlw ?_ | fail)
      all_goals conv => whnf
      all_goals exact do_bad (e := 7) (by unfold doE; rw [if_pos hb])
    | true =>
      rw [hb, show errIf true 7 = 0 from rfl] at hN
      cases hd : okD clock l with
      | false =>
        rw [hd, show errIf false 4 = 4 from rfl] at hC
        refine XPure.bodyN ⟨_, Tryz.func10, rfl, by kernel_rfl⟩ Tryz.func10 rfl (Nat.le_of_ble_eq_true (by rfl)) (pf_of1 rfl) fun env => ?_
        repeat' ((conv => whnf); (fail_if_success refine zC ?_); first | refine zSd ?_ | refine zB (fun h hs => ?_) (fun h hs => ?_) <;> try exact hs.elim | refine .inl ⟨_, _, hN, ?_⟩ | refine .inl ⟨_, _, hC, ?_⟩ | exact zElw | refine zZlw ?_ | fail)
        all_goals conv => whnf
        · exact do_bad (e := 2) (by unfold doE; rw [if_neg (by rw [hb]; simp), if_pos (by omega)])
        · exact do_bad (e := 4) (by unfold doE; rw [if_neg (by rw [hb]; simp), if_neg (by omega), if_pos hd])
      | true =>
        rw [hd, show errIf true 4 = 0 from rfl] at hC
        refine XPure.bodyN ⟨_, Tryz.func10, rfl, by kernel_rfl⟩ Tryz.func10 rfl (Nat.le_of_ble_eq_true (by rfl)) (pf_of1 rfl) fun env => ?_
        repeat' ((conv => whnf); (fail_if_success refine zC ?_); first | refine zSd ?_ | refine zB (fun h hs => ?_) (fun h hs => ?_) <;> try exact hs.elim | refine .inl ⟨_, _, hN, ?_⟩ | refine .inl ⟨_, _, hC, ?_⟩ | exact zElw | refine zZlw ?_ | fail)
        all_goals try conv => whnf
        · exact do_bad (e := 2) (by unfold doE; rw [if_neg (by rw [hb]; simp), if_pos (by omega)])
        · exact do_bad (e := 1) (by unfold doE; rw [if_neg (by rw [hb]; simp), if_neg (by omega), if_neg (by rw [hd]; simp), if_pos (by omega)])
        · exact absurd (by unfold doE; rw [if_neg (by rw [hb]; simp), if_neg (by omega), if_neg (by rw [hd]; simp), if_neg (by omega)]) hE
end
end Go.Proofs.YtepdiooaoegpfaaGreatDoor.Fx
end
section
/- The little program of the laws of commands that are done. Conditions: none. -/
namespace Go.Proofs.YtepdiooaoegpfaaGreatDoor.Fx
open Go Go.Proofs Go.Ev Go.RowKit
set_option maxRecDepth 100000
set_option maxHeartbeats 6400000
set_option linter.unusedSimpArgs false
set_option linter.unusedVariables false
abbrev aW : ByteArray := ⟨#[97]⟩
abbrev bW : ByteArray := ⟨#[98]⟩
abbrev tW : ByteArray := ⟨#[116]⟩
abbrev xW : ByteArray := ⟨#[120]⟩
abbrev line1 : ByteArray := ⟨#[99, 111, 112, 121, 32, 97, 32, 116]⟩
abbrev line2 : ByteArray := ⟨#[99, 111, 112, 121, 32, 98, 32, 116]⟩
abbrev fs0 : List File := [⟨aW, xW, 2⟩, ⟨bW, .empty, 1⟩]
abbrev n0 : Node := { target := tW, needs := [aW], recipe := [], has := false, source := .empty, stem := .empty, phony := false, precious := false, ignore := false, silent := false }
theorem v1 : wordsV line1 = [copyW, aW, tW] := by kernel_rfl
theorem v2 : wordsV line2 = [copyW, bW, tW] := by kernel_rfl
theorem e1 : wordsE line1 = 0 := by kernel_rfl
theorem e2 : wordsE line2 = 0 := by kernel_rfl
theorem na : isName aW = true := by kernel_rfl
theorem nb : isName bW = true := by kernel_rfl
theorem nt : isName tW = true := by kernel_rfl
theorem ok0 : okD 4 fs0 = true := by kernel_rfl
theorem alone0 : aloneOk n0 = true := by kernel_rfl
theorem do1 : doCopy n0 4 fs0 aW tW = ⟨5, [⟨aW, xW, 2⟩, ⟨bW, .empty, 1⟩, ⟨tW, xW, 5⟩], .empty, true, 0, 0⟩ := by kernel_rfl
theorem do2 : doCopy n0 4 fs0 bW tW = ⟨4, fs0, .empty, false, 3, 170⟩ := by kernel_rfl
theorem sz0 : SzN n0 := ⟨Nat.le_of_ble_eq_true rfl, ⟨Nat.le_of_ble_eq_true rfl, by intro x hx; rw [List.mem_singleton] at hx; subst hx; exact Nat.le_of_ble_eq_true rfl⟩, ⟨Nat.zero_le _, by intro x hx; cases hx⟩⟩
abbrev vN0 : AV := .agg [str tW, eS [aW], nilv, bln false, str .empty, str .empty, bln false, bln false, bln false, bln false]
theorem leqN0 {t : ByteArray} : LeqDL [vN0, str t, eD 4 fs0, i64 0] [eN n0, str t, eD 4 fs0, i64 0] := by
  refine LeqDL.cons (LeqD.agg ?_) (LeqDL.refl _)
  repeat' (first | exact LeqD.nil (by decide) | exact LeqD.refl _ | exact LeqDL.refl _ | refine LeqDL.cons ?_ ?_)
theorem c_Do1' : XPure Tryz.prog 9 [vN0, str line1, eD 4 fs0, i64 0] (.tup [eDone ⟨5, [⟨aW, xW, 2⟩, ⟨bW, .empty, 1⟩, ⟨tW, xW, 5⟩], .empty, true, 0, 0⟩, i64 0]) false := by
  have h := (c_Do_copy (t := line1) sz0 alone0 (Nat.le_of_ble_eq_true rfl) ok0 (Nat.le_of_ble_eq_true rfl) v1 e1 na nt).nils leqN0
  rwa [do1] at h
theorem c_Do2' : XPure Tryz.prog 9 [vN0, str line2, eD 4 fs0, i64 0] (.tup [eDone ⟨4, fs0, .empty, false, 3, 170⟩, i64 0]) false := by
  have h := (c_Do_copy (t := line2) sz0 alone0 (Nat.le_of_ble_eq_true rfl) ok0 (Nat.le_of_ble_eq_true rfl) v2 e2 nb nt).nils leqN0
  rwa [do2] at h
end Go.Proofs.YtepdiooaoegpfaaGreatDoor.Fx
end
section
/- The little program of the laws of commands that are done. Conditions: none. -/
namespace Go.Proofs.YtepdiooaoegpfaaGreatDoor.Fx
open Go Go.Proofs Go.Ev Go.RowKit
set_option maxRecDepth 100000
set_option maxHeartbeats 6400000
set_option linter.unusedSimpArgs false
set_option linter.unusedVariables false
theorem absF {b : Bool} (h1 : b = false) (h2 : b = true) : False := by rw [h2] at h1; cases h1
theorem xargs {P : Program} {f : FuncId} {args args' : List AV} {r : AV} {ow : Bool} (h : args = args') (hx : XPure P f args' r ow) : XPure P f args r ow := h ▸ hx
theorem c_small : XPure Tryz.prog 13 [] (bln true) false := by
  refine XPure.body ⟨_, Tryz.func13, rfl, by kernel_rfl⟩ Tryz.func13 rfl (Nat.le_of_ble_eq_true (by rfl)) (pf_of1 rfl) fun env => ?_
  repeat' ((conv => whnf); (fail_if_success refine zC ?_); first | refine zS ?_ | refine zB (fun h hs => ?_) (fun h hs => ?_) <;> try exact hs.elim | exact zEwf | refine zZwf ?_ | fail)
  refine .inl ⟨_, _, xargs (args' := [vN0, str line1, eD 4 fs0, i64 0]) (by kernel_rfl) c_Do1', ?_⟩
  iterate 10 any_goals try ((conv => whnf); (fail_if_success refine zC ?_); first | refine zS ?_ | refine zB (fun h hs => ?_) (fun h hs => ?_) <;> try exact hs.elim | exact zEwf | refine zZwf ?_ | fail)
  refine .inl ⟨_, _, xargs (args' := [vN0, str line2, eD 4 fs0, i64 0]) (by kernel_rfl) c_Do2', ?_⟩
  repeat' ((conv => whnf); (fail_if_success refine zC ?_); first | refine zSdi ?_ | refine zB (fun h hs => ?_) (fun h hs => ?_) <;> try exact hs.elim | exact zEwf | refine zZwf ?_ | fail)
  all_goals try exact (absF h (by kernel_rfl)).elim
  · conv => whnf
    refine .inl ⟨_, _, xargs (args' := [eD 4 fs0, eD 4 fs0]) (by kernel_rfl) (c_plain_Disk (l := fs0) (m := fs0) (Nat.le_of_ble_eq_true rfl) (Nat.le_of_ble_eq_true rfl)), ?_⟩
    repeat' ((conv => whnf); (fail_if_success refine zC ?_); first | refine zSdi ?_ | refine zB (fun h hs => ?_) (fun h hs => ?_) <;> try exact hs.elim | exact zEwf | refine zZwf ?_ | fail)
    all_goals kernel_rfl
end Go.Proofs.YtepdiooaoegpfaaGreatDoor.Fx
end
section
/- The law ExecMays as a function: always true. Conditions: the sizes that a row tells. -/
namespace Go.Proofs.YtepdiooaoegpfaaGreatDoor.Fx
open Go Go.Proofs Go.Ev Go.RowKit
set_option maxRecDepth 100000
set_option maxHeartbeats 6400000
set_option linter.unusedSimpArgs false
set_option linter.unusedVariables false
abbrev eCase (n : Node) (t : ByteArray) (c : Int) (l : List File) (k : Int) : AV := .agg [str n.target, eS n.needs, eS n.recipe, bln n.has, str n.source, str n.stem, bln n.phony, bln n.precious, bln n.ignore, bln n.silent, str t, i64 c, eFs l, i64 k]
end Go.Proofs.YtepdiooaoegpfaaGreatDoor.Fx
end
section
/- The law ExecKeeps as a function: always true. Conditions: the sizes that a row tells. -/
namespace Go.Proofs.YtepdiooaoegpfaaGreatDoor.Fx
open Go Go.Proofs Go.Ev Go.RowKit
set_option maxRecDepth 100000
set_option maxHeartbeats 6400000
set_option linter.unusedSimpArgs false
set_option linter.unusedVariables false
theorem sameGo_refl : ∀ l : List File, sameGo l l = true
  | [] => rfl
  | f :: r => by
    have h : sameF f f = true := by simp [sameF, beqS_self]
    unfold sameGo; rw [h, sameGo_refl r]; rfl
theorem sameFs_refl (l : List File) : sameFs l l = true := by unfold sameFs; rw [sameGo_refl]; simp
theorem c_Disk_self {clock : Int} {l : List File} (hl : l.length ≤ 1000000000) : XPure Tryz.prog 12 [eD clock l, eD clock l] (bln true) false := by
  have h := c_plain_Disk (a := clock) (b := clock) hl hl
  rwa [sameFs_refl, show ((clock == clock) && true) = true from by simp] at h
end Go.Proofs.YtepdiooaoegpfaaGreatDoor.Fx
end
section
/- exec.Do hands on new memory, always. Conditions: the sizes that a row tells. -/
namespace Go.Proofs.YtepdiooaoegpfaaGreatDoor.Fx
open Go Go.Proofs Go.Ev Go.RowKit
set_option maxRecDepth 100000
set_option maxHeartbeats 6400000
set_option linter.unusedSimpArgs false
set_option linter.unusedVariables false
theorem freshI_bad {own : List Bx} {n : Node} {t : ByteArray} {clock k e : Int} {l : List File} (h : doE n t clock l k = e) : FreshI own (VI noD.clock) [.string noD.said, .bool noD.wrote, VI noD.status, VI noD.code] [VI (doE n t clock l k)] 3 (noD.files.map eF) (DF noD e nilv) := by
  rw [h]; exact freshI_dn rfl rfl
theorem c_DoD {n : Node} {t : ByteArray} {clock k : Int} {l : List File} (hz : SzN n) : NewDone 9 [eN n, str t, eD clock l, i64 k] (doD n t clock l k) (doE n t clock l k) := by
  by_cases hE : doE n t clock l k = 0
  · have hD : doD n t clock l k = doIt n t clock l k := by unfold doD; rw [if_pos hE]
    rw [hD, hE]
    unfold doE at hE
    split at hE
    · cases hE
    split at hE
    · cases hE
    split at hE
    · cases hE
    split at hE
    · cases hE
    have hk : mayX n t = 0 → Kind (lineC t) := fun h => line_kind (by
      unfold mayX mayOf at h
      by_cases he : lineE t = 0
      · exact he
      · rw [if_neg he] at h; exact absurd h he)
    exact c_Do_genD hz (by simpa using ‹¬ nodeOk n = false›) (by omega) (by simpa using ‹¬ okD clock l = false›) (by omega) (by omega) (c_exec_may hz.needs.1) hk line_words
      (fun h => by unfold doIt; rw [if_pos h]) (fun h h' => by unfold doIt; rw [if_neg h, if_neg h']) (fun h h' => by unfold doIt; rw [if_neg h, if_pos h'])
  · have hD : doD n t clock l k = noD := by unfold doD; rw [if_neg hE]
    rw [hD]
    have hA := c_alone hz
    rw [aloneOk_eq] at hA
    refine XDisk.body ⟨_, Tryz.func9, rfl, by kernel_rfl⟩ Tryz.func9 rfl (Nat.le_of_ble_eq_true (by rfl)) (els_F _).pf ?_
    iterate 16 any_goals try ((conv => whnf); (fail_if_success refine zC ?_); first | refine zSd ?_ | refine zB (fun h hs => ?_) (fun h hs => ?_) <;> try exact hs.elim | refine .inl ⟨_, _, hA, ?_⟩ | refine .inl ⟨_, _, c_disk_Check, ?_⟩ | ((with_reducible show (_ ∨ _) ∧ _ ∧ retB _ _ _ _ _); refine ⟨by first | exact .inr rfl | exact .inl rfl, rfl, ?_⟩) | exact zElw | refine zZlw ?_ | fail)
    all_goals try conv => whnf
    · obtain ⟨h1, h2⟩ := errIf_not hs
      exact freshI_bad (n := n) (t := t) (clock := clock) (k := k) (l := l) (e := errIf (nodeOk n) 7) (by unfold doE; rw [if_pos h1, h2])
    all_goals have hb : nodeOk n = true := errIf_yes (k := 7) (by decide) (by assumption)
    · exact freshI_bad (n := n) (t := t) (clock := clock) (k := k) (l := l) (e := 2) (by unfold doE; rw [if_neg (by rw [hb]; simp), if_pos (by omega)])
    · obtain ⟨h1, h2⟩ := errIf_not hs
      exact freshI_bad (n := n) (t := t) (clock := clock) (k := k) (l := l) (e := 4) (by unfold doE; rw [if_neg (by rw [hb]; simp), if_neg (by omega), if_pos h1])
    all_goals have hd : okD clock l = true := errIf_yes (k := 4) (by decide) (by assumption)
    · exact freshI_bad (n := n) (t := t) (clock := clock) (k := k) (l := l) (e := 1) (by unfold doE; rw [if_neg (by rw [hb]; simp), if_neg (by omega), if_neg (by rw [hd]; simp), if_pos hs])
    · exact absurd (show doE n t clock l k = 0 by unfold doE; rw [if_neg (by rw [hb]; simp), if_neg (by omega), if_neg (by rw [hd]; simp), if_neg (by omega)]) hE
theorem callG_newDone {c : Cfg} {args : List AV} {f : FuncId} {dst : Option Tmp} {K : Cfg → Prop} {x : Done} {e : Int} (h : NewDone f args x e) (ha : args.map (AV.up c.base) = args) (hp : pfL args = true)
    (h0 : x.files = [] → ∀ c0, K (c.after dst (DF x e (.v (.slice none 0 c0))) false))
    (h1 : ∀ B off cp, pfL B = true → off + x.files.length * 3 ≤ B.length → (B.drop off).take (x.files.length * 3) = (x.files.map eF).flatMap AV.leaves → K (({ c with own := c.own ++ [.cells B []] } : Cfg).after dst (DF x e (.bs c.own.length off 3 x.files.length cp)) false)) : callG Tryz.prog c args f dst K := by
  refine callG_disk h (vL_F _) (by rw [ha]; exact shutL_pf _ _ _ hp) (fun h => h0 (by simpa using h)) ?_
  rw [List.length_map]
  exact h1
theorem shutDone {M : List Bx} {x y : Done} {X X' : AV} {b : Nat} (hX : ArgD M x.files X') (h : AV.up b X = X') (hl : x.files.length ≤ 1000000000) : ShutL M 0 ([.agg [i64 x.clock, X, str x.said, bln x.wrote, i64 x.status, i64 x.code], eDone y].map (AV.up b)) [eDone x, eDone y] := by
  have h2 : ShutL M 0 [eDone y] [eDone y] := shutL_pf M 0 _ rfl
  show ShutL M 0 ([AV.up b (.agg [i64 x.clock, X, str x.said, bln x.wrote, i64 x.status, i64 x.code])] ++ [eDone y]) ([eDone x] ++ [eDone y])
  refine ShutL.app ?_ h2
  simp only [AV.up, upL, h, ShutL, Go.Ev.Shut]
  exact ⟨_, _, rfl, ⟨_, rfl, _, _, rfl, .inl rfl, _, _, rfl, hX.shut hl, _, _, rfl, .inl rfl, _, _, rfl, .inl rfl, _, _, rfl, .inl rfl, _, _, rfl, .inl rfl, rfl⟩, rfl⟩
theorem same_refl (x : Done) : x.same x = true := by simp [Done.same, beqS_self, sameFs_refl]
end Go.Proofs.YtepdiooaoegpfaaGreatDoor.Fx
end
section
/- The law ExecDoes as a function: always true. Conditions: the sizes that a row tells. -/
namespace Go.Proofs.YtepdiooaoegpfaaGreatDoor.Fx
open Go Go.Proofs Go.Ev Go.RowKit
set_option maxRecDepth 100000
set_option maxHeartbeats 6400000
set_option linter.unusedSimpArgs false
set_option linter.unusedVariables false
theorem cl1_of {base m : Nat} {x : AV} (h : x.cl base m) : cl1 base m x := by cases x <;> simp only [AV.cl, cl1] at * <;> exact h
theorem leqL1_pf {base m : Nat} : ∀ {l : List AV}, pfL l = true → LeqL1 base m l l
  | [], _ => trivial
  | x :: l, h => by
    simp only [pfL, Bool.and_eq_true] at h
    exact ⟨.inr (.inl rfl), cl1_of (cl_pf x h.1), leqL1_pf h.2⟩
theorem ownP {base m : Nat} {a b : List Bx} (h : OwnLeq1 base m a b := by
    repeat' (first | exact leqL1_pf (by assumption) | ((with_reducible show LeqL1 _ _ _ _); first | exact trivial | refine ⟨.inr (.inl rfl), ?_, ?_⟩) | ((with_reducible show cl1 _ _ _); first | exact trivial | exact Nat.le_of_ble_eq_true rfl | (refine ⟨?_, ?_⟩)) | ((with_reducible show clL _ _ _); first | exact trivial | refine ⟨?_, ?_⟩) | ((with_reducible show OwnLeq1 _ _ _ _); first | exact trivial | refine ⟨?_, ?_, ?_⟩) | exact (fun j hj => absurd hj List.not_mem_nil) | fail)) : OwnLeq1 base m a b := h
theorem callG_plainDone {c : Cfg} {dst : Option Tmp} {K : Cfg → Prop} {x : Done} {X : AV} (hx : x.files.length ≤ 1000000000) (hP : XPure Tryz.prog 11 [eDone x, eDone x] (bln true) false)
    (hX : (x.files = [] ∧ ∃ c0, X = .v (.slice none 0 c0)) ∨ ∃ j off cp B, X = .bs j off 3 x.files.length cp ∧ c.own[j]? = some (.cells B []) ∧ pfL B = true ∧ off + x.files.length * 3 ≤ B.length ∧ (B.drop off).take (x.files.length * 3) = (x.files.map eF).flatMap AV.leaves)
    (hk : K (c.after dst (bln true) false)) : callG Tryz.prog c [.agg [i64 x.clock, X, str x.said, bln x.wrote, i64 x.status, i64 x.code], eDone x] 11 dst K := by
  rcases hX with ⟨h0, c0, rfl⟩ | ⟨j, off, cp, B, rfl, hj, k1, k2, k3⟩
  · exact callG_flat hP rfl (shutDone (x := x) (y := x) (X' := .v (.slice none 0 c0)) (.inl ⟨h0, c0, rfl⟩) rfl hx) hk
  · exact callG_flat hP rfl (shutDone (x := x) (y := x) (X' := .xs (c.base + j) off 3 x.files.length cp) (.inr ⟨c.base + j, off, cp, B, rfl, boxUp k1 hj, k2, k3⟩) rfl hx) hk
theorem law_Does {n : Node} {t : ByteArray} {clock k e : Int} {l : List File} {x : Done} (hl : l.length ≤ 1000000000) (hx : x.files.length ≤ 1000000000) (hD : NewDone 9 [eN n, str t, eD clock l, i64 k] x e) (hR : XPure Tryz.prog 10 [eN n, str t, eD clock l, i64 k] (.tup [eDone x, i64 e]) false) :
    XPure Tryz.prog 3 [eCase n t clock l k] (bln true) false := by
  have hP := c_plain_Done (x := x) (y := x) hx hx
  rw [same_refl] at hP
  have hW := c_Disk_self (clock := clock) hl
  refine XPure.body ⟨_, Tryz.func3, rfl, by kernel_rfl⟩ Tryz.func3 rfl (Nat.le_of_ble_eq_true (by rfl)) (pf_of1 rfl) fun env => ?_
  repeat' ((conv => whnf); (fail_if_success refine zC ?_); first | refine zSmi ?_ | refine zB (fun h hs => ?_) (fun h hs => ?_) <;> try exact hs.elim | refine .inl ⟨_, _, c_OwnDisk hl, ?_⟩ | refine .inl ⟨_, _, hR, ?_⟩ | (refine .inr (callG_newDone hD rfl rfl (fun h0 c0 => ?_) (fun B off cp k1 k2 k3 => ?_))) | exact zEw | refine zZw ?_ | fail)
  · conv => whnf
    refine .inr (callG_args (args' := [.agg [i64 x.clock, .v (.slice none 0 c0), str x.said, bln x.wrote, i64 x.status, i64 x.code], eDone x]) (by kernel_rfl) (callG_plainDone hx hP (.inl ⟨h0, c0, rfl⟩) ?_))
    repeat' ((conv => whnf); (fail_if_success refine zC ?_); first | refine zSmi ?_ | refine zB (fun h hs => ?_) (fun h hs => ?_) <;> try exact hs.elim | refine .inl ⟨_, _, hW, ?_⟩ | exact zEw | refine zZw ?_ | fail)
    refine XW.countL 0 [1, 3, 4, 54] (fun i => [(55, i64 i)]) (fun _ => []) (fun _ => [.cells (eCase n t clock l k).leaves [], .cells [i64 clock, eFs l] [], .cells [i64 x.clock, .v (.slice none 0 c0), str x.said, bln x.wrote, i64 x.status, i64 x.code] [], .cells (eDone x).leaves []]) (fun _ => True) Weak.go trivial ?_
    intro i hi hA
    obtain rfl : i = 0 := by omega
    refine codeS ?_
    repeat' ((conv => whnf); (fail_if_success refine zC ?_); first | refine zSmi ?_ | refine zB (fun h hs => ?_) (fun h hs => ?_) <;> try exact hs.elim | refine .inl ⟨_, _, hW, ?_⟩ | refine .inl ⟨_, _, c_small, ?_⟩ | exact zEw | refine zZw ?_ | fail)
  · conv => whnf
    refine callG_args (args' := [.agg [i64 x.clock, .bs 2 off 3 x.files.length cp, str x.said, bln x.wrote, i64 x.status, i64 x.code], eDone x]) (by kernel_rfl) (callG_plainDone hx hP (.inr ⟨2, off, cp, B, rfl, by kernel_rfl, k1, k2, k3⟩) ?_)
    repeat' ((conv => whnf); (fail_if_success refine zC ?_); first | refine zSmi ?_ | refine zB (fun h hs => ?_) (fun h hs => ?_) <;> try exact hs.elim | refine .inl ⟨_, _, hW, ?_⟩ | exact zEw | refine zZw ?_ | fail)
    refine XW.overL [1, 3, 4, 54] (fun (p : Nat × List AV) => [(55, i64 p.1)]) (fun _ => []) (fun p => [.cells (eCase n t clock l k).leaves [], .cells [i64 clock, eFs l] [], .cells p.2 [], .cells [i64 x.clock, .bs 2 off 3 x.files.length cp, str x.said, bln x.wrote, i64 x.status, i64 x.code] [], .cells (eDone x).leaves []]) (fun p => p.1 ≤ x.files.length ∧ p.2.length = B.length ∧ pfL p.2 = true) (fun p => x.files.length - p.1) (0, B) (Weak.go (hw := ownP)) ⟨Nat.zero_le _, rfl, k1⟩ ?_
    rintro ⟨i, B'⟩ ⟨hi, hB', hp⟩
    dsimp only at hi hB' hp ⊢
    refine codeS ?_
    repeat' ((conv => whnf); (fail_if_success refine zC ?_); first | refine zSmi ?_ | refine zB (fun h hs => ?_) (fun h hs => ?_) <;> try exact hs.elim | refine .inl ⟨_, _, hW, ?_⟩ | refine .inl ⟨_, _, c_small, ?_⟩ | exact zEw | refine zZw ?_ | fail)
    conv => whnf
    refine condT (Nat.ble_eq_true_of_le (show off + i * 3 + 3 ≤ B'.length from ?_)) ?_
    · rw [hB']; omega
    have hp' : pfL (wrL B' (off + i * 3) [str ⟨#[109, 105, 110, 101]⟩, str ⟨#[]⟩, i64 0]) = true := pfL_wrL hp rfl
    have hl' : (wrL B' (off + i * 3) [str ⟨#[109, 105, 110, 101]⟩, str ⟨#[]⟩, i64 0]).length = B'.length := wrL_len (by show off + i * 3 + 3 ≤ _; rw [hB']; omega)
    repeat' ((conv => whnf); (fail_if_success refine zC ?_); first | refine zS ?_ | refine zB (fun h hs => ?_) (fun h hs => ?_) <;> try exact hs.elim | exact zEw | refine zZw ?_ | fail)
    conv => whnf
    refine ⟨(i + 1, wrL B' (off + i * 3) [str ⟨#[109, 105, 110, 101]⟩, str ⟨#[]⟩, i64 0]), by dsimp only; omega, ⟨by dsimp only; omega, hl'.trans hB', hp'⟩, Weak.go (hw := ownP)⟩
end Go.Proofs.YtepdiooaoegpfaaGreatDoor.Fx
end
section
/- The law ExecScripted as a function: always true. Conditions: none beyond the length. -/
namespace Go.Proofs.YtepdiooaoegpfaaGreatDoor.Fx
open Go Go.Proofs Go.Ev Go.RowKit
set_option maxRecDepth 100000
set_option maxHeartbeats 6400000
set_option linter.unusedSimpArgs false
set_option linter.unusedVariables false
end Go.Proofs.YtepdiooaoegpfaaGreatDoor.Fx
end
section
/- From the row's reading of []api.Fail, a text and a number to trees, and the law's call. Conditions: none beyond those in each statement. -/
namespace Go.Proofs.YtepdiooaoegpfaaGreatDoor.Fx
open Go Go.Proofs Go.Ev Go.RowKit
set_option maxRecDepth 100000
set_option linter.unusedSimpArgs false
set_option linter.unusedVariables false
theorem leaf1 {x : AV} (h : x.isAgg = false) : x.leaves = [x] := by cases x <;> first | rfl | cases h
theorem shape_str {R : Nat} {P : Program} {d : Nat} {t : TypeId} {ls : List AV} (hu : P.underlying t = some .string) (h : Shape R P (d + 1) t ls) : ∃ s : ByteArray, ls = [str s] ∧ s.size ≤ R := by
  unfold Shape at h; rw [hu] at h; exact h
theorem shape_int {R : Nat} {P : Program} {d : Nat} {t : TypeId} {k : IntKind} {ls : List AV} (hu : P.underlying t = some (.int k)) (h : Shape R P (d + 1) t ls) : ∃ n : Int, ls = [.v (.int k n)] ∧ (Lit.int k n).wf = true := by
  unfold Shape at h; rw [hu] at h; exact h
theorem shape_sl {R : Nat} {P : Program} {d : Nat} {t e : TypeId} {ls : List AV} (hu : P.underlying t = some (.slice e)) (h : Shape R P (d + 1) t ls) : ∃ l : List AV, ls = [.sl (P.cellsOf e) l] ∧ l.length ≤ R ∧ ∀ x ∈ l, x.isAgg = isAggT P e ∧ x.isTup = false ∧ Shape R P d e x.leaves := by
  unfold Shape at h; rw [hu] at h; exact h
theorem shape_st {R : Nat} {P : Program} {d : Nat} {t : TypeId} {fs : Array Field} {ls : List AV} (hu : P.underlying t = some (.struct fs)) (h : Shape R P (d + 1) t ls) : ls.length = P.cellsOf t ∧ ∀ f ∈ fs.toList, Shape R P d f.type ((ls.drop f.offset).take (P.cellsOf f.type)) := by
  unfold Shape at h; rw [hu] at h; exact h
theorem cStr : Tryz.prog.cellsOf 9 = 1 := by kernel_rfl
theorem cInt : Tryz.prog.cellsOf 3 = 1 := by kernel_rfl
theorem one_of {x a : AV} (h : x.isAgg = false) (e : x.leaves = [a]) : x = a := by rw [leaf1 h] at e; exact (List.cons.inj e).1
end Go.Proofs.YtepdiooaoegpfaaGreatDoor.Fx
end
