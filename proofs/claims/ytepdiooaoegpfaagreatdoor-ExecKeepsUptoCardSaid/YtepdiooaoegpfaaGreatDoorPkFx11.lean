/- Written by programs of this session: laws and contracts that the law's proof stands on, merged into one text. Conditions: none beyond those in each statement. -/
import Derived.Test.YtepdiooaoegpfaaGreatDoorPkFx10
section
/- A copying command is done. Conditions: those in each statement. -/
namespace Go.Proofs.YtepdiooaoegpfaaGreatDoor.Fx
open Go Go.Proofs Go.Ev Go.RowKit
set_option maxRecDepth 100000
set_option maxHeartbeats 6400000
set_option linter.unusedSimpArgs false
set_option linter.unusedVariables false
attribute [local irreducible] mayE
theorem doneEq {x y : Done} (h : x = y) : AV.tup [eDone x, i64 0] = AV.tup [eDone y, i64 0] := by rw [h]
theorem callG_args {P : Program} {c : Cfg} {args args' : List AV} {f : FuncId} {dst : Option Tmp} {K : Cfg → Prop} (h : args = args') (hg : callG P c args' f dst K) : callG P c args f dst K := h ▸ hg
theorem callG_do1 {c : Cfg} {dst : Option Tmp} {K : Cfg → Prop} {clock e st : Int} {l : List File} (hbox : c.own[1]? = some (.cells [i64 clock, eFs l] []))
    (h : K (c.after dst (.tup [eDone ⟨clock, l, .empty, false, if st = 0 then statusOf e else st, e⟩, i64 0]) false)) : callG Tryz.prog c [i64 e, i64 st, .bp 1 0] 28 dst K :=
  callG_same ⟨_, Tryz.func28, rfl, by kernel_rfl⟩ rfl (c_Do1 (q := c.base + 1) (clock := clock) (l := l) (boxUp rfl hbox)) h
theorem c_Do_copy {n : Node} {t a b : ByteArray} {clock : Int} {l : List File} (hz : SzN n) (hn : aloneOk n = true) (ht : t.size ≤ 65536) (hd : okD clock l = true) (hl : l.length ≤ 256) (hV : wordsV t = [copyW, a, b]) (hE : wordsE t = 0) (ha : isName a = true) (hb : isName b = true) :
    XPure Tryz.prog 9 [eN n, str t, eD clock l, i64 0] (.tup [eDone (doCopy n clock l a b), i64 0]) false := by
  have hA : XPure Tryz.prog 25 [eN n] (i64 0) false := by
    have h := c_alone hz
    rwa [hn, show errIf true 7 = 0 from rfl] at h
  have hD : XPure Tryz.prog 26 [eD clock l] (i64 0) false := by
    have h := c_disk_Check (clock := clock) (l := l)
    rwa [hd, show errIf true 4 = 0 from rfl] at h
  refine XPure.body ⟨_, Tryz.func9, rfl, by kernel_rfl⟩ Tryz.func9 rfl (Nat.le_of_ble_eq_true (by rfl)) (pf_of1 rfl) fun env => ?_
  iterate 16 any_goals try ((conv => whnf); (fail_if_success (with_reducible show ∃ _, _ ∧ _ ∧ Weak _ _ _)); first | ((with_reducible show guardA _ _ _ _ _ _ ∨ _); first | (refine .inr ?_; (conv => whnf); refine ⟨_, ?_, fun h => rfl, rfl, ?_⟩; ((conv => whnf); first | exact trivial | (refine ⟨?_, trivial⟩; exact okG))) | (refine .inr ?_; (conv => whnf); refine ⟨_, trivial, fun h => ⟨?_, ?_, ?_, rfl⟩, rfl, ?_⟩; (first | exact h | rfl); exact okG; exact okG) | refine .inl ?_) | refine cY ?_ (by first | (with_reducible first | rfl | assumption) | decide) | refine cN ?_ (by first | (with_reducible first | rfl | assumption) | decide) | refine gA ?_ (by first | (with_reducible first | rfl | assumption) | decide) | refine gB ?_ (by first | (with_reducible first | rfl | assumption) | decide) | refine gC ?_ (by first | (with_reducible first | rfl | assumption) | decide) | ((first | refine gsT (fun h => ?_) (fun h => ?_) | refine gsF (fun h => ?_) (fun h => ?_) | refine ⟨fun h => ?_, fun h => ?_⟩) <;> (have hs := h; try simp only [cs, reduceCtorEq, Int.reduceEq, Int.reduceNe, Int.reduceLT, Int.reduceLE, Int.reduceBEq, Int.reduceBNe] at hs)) | (refine .inl ⟨_, _, hA, ?_⟩) | (refine .inl ⟨_, _, hD, ?_⟩) | (refine .inl ⟨_, _, c_CloneF (by omega), ?_⟩) | (refine .inl ⟨_, _, c_may_copy hz.needs.1 hV hE ha hb, ?_⟩) | ((with_reducible show _ ∧ _ ∧ Weak _ _ _); refine ⟨?_, ?_, Weak.go⟩; (omega)) | ((with_reducible show (_ ∧ _ ∧ _) ∧ _); refine ⟨⟨by kernel_rfl, by kernel_rfl, by rfl⟩, ?_⟩) | ((with_reducible show AV.pf _ = true ∧ _); refine pfA ?_) | (refine ⟨rfl, ?_, ?_, ?_⟩; exact okG; exact okG) | ((with_reducible show (_ ∨ _) ∧ _ ∧ retA _ _ _ _ _); refine ⟨?_, rfl, ?_⟩; (first | exact .inr rfl | exact .inl rfl)) | ((with_reducible show _ = _ ∧ _ = false ∧ _ = _); refine ⟨?_, rfl, rfl⟩; try (first | rfl | (conv => lhs; whnf))) | ((with_reducible show LeqD _ _); try (first | exact okN | (first | rfl | (conv => lhs; whnf))); done) | ((with_reducible show _ = _ ∧ (_ → _)); refine ⟨?_, ?_⟩; try (first | rfl | (conv => lhs; whnf))) | exact fun h => h | exact fun _ => rfl | refine ⟨rfl, ?_⟩ | (refine ⟨Nat.le_of_ble_eq_true rfl, ?_⟩) | (refine ⟨?_, ?_, ?_⟩; exact okS; exact okS) | (refine ⟨?_, ?_⟩; exact okS) | fail)
  · omega
  · repeat' ((conv => whnf); (fail_if_success (with_reducible show ∃ _, _ ∧ _ ∧ Weak _ _ _)); first | ((with_reducible show guardA _ _ _ _ _ _ ∨ _); first | (refine .inr ?_; (conv => whnf); refine ⟨_, ?_, fun h => rfl, rfl, ?_⟩; ((conv => whnf); first | exact trivial | (refine ⟨?_, trivial⟩; exact okG))) | (refine .inr ?_; (conv => whnf); refine ⟨_, trivial, fun h => ⟨?_, ?_, ?_, rfl⟩, rfl, ?_⟩; (first | exact h | rfl); exact okG; exact okG) | refine .inl ?_) | refine cY ?_ (by first | (with_reducible first | rfl | assumption) | decide) | refine cN ?_ (by first | (with_reducible first | rfl | assumption) | decide) | refine gA ?_ (by first | (with_reducible first | rfl | assumption) | decide) | refine gB ?_ (by first | (with_reducible first | rfl | assumption) | decide) | refine gC ?_ (by first | (with_reducible first | rfl | assumption) | decide) | ((first | refine gsT (fun h => ?_) (fun h => ?_) | refine gsF (fun h => ?_) (fun h => ?_) | refine ⟨fun h => ?_, fun h => ?_⟩) <;> (have hs := h; try simp only [cs, reduceCtorEq, Int.reduceEq, Int.reduceNe, Int.reduceLT, Int.reduceLE, Int.reduceBEq, Int.reduceBNe] at hs)) | (refine .inl ⟨_, _, c_done_copy, ?_⟩) | ((with_reducible show _ ∧ _ ∧ Weak _ _ _); refine ⟨?_, ?_, Weak.go⟩; (omega)) | ((with_reducible show (_ ∧ _ ∧ _) ∧ _); refine ⟨⟨by kernel_rfl, by kernel_rfl, by rfl⟩, ?_⟩) | ((with_reducible show AV.pf _ = true ∧ _); refine pfA ?_) | (refine ⟨rfl, ?_, ?_, ?_⟩; exact okG; exact okG) | ((with_reducible show (_ ∨ _) ∧ _ ∧ retA _ _ _ _ _); refine ⟨?_, rfl, ?_⟩; (first | exact .inr rfl | exact .inl rfl)) | ((with_reducible show _ = _ ∧ _ = false ∧ _ = _); refine ⟨?_, rfl, rfl⟩; try (skip)) | ((with_reducible show LeqD _ _); try (first | exact okN | (skip)); done) | ((with_reducible show _ = _ ∧ (_ → _)); refine ⟨?_, ?_⟩; try (skip)) | exact fun h => h | exact fun _ => rfl | refine ⟨rfl, ?_⟩ | (refine ⟨Nat.le_of_ble_eq_true rfl, ?_⟩) | (refine ⟨?_, ?_, ?_⟩; exact okS; exact okS) | (refine ⟨?_, ?_⟩; exact okS) | fail)
    refine callG_args (args' := [i64 (mayE n a b), i64 0, .bp 1 0]) (by kernel_rfl) ?_
    refine callG_do1 (clock := clock) (l := l) (by kernel_rfl) ?_
    repeat' ((conv => whnf); (fail_if_success (with_reducible show ∃ _, _ ∧ _ ∧ Weak _ _ _)); first | ((with_reducible show guardA _ _ _ _ _ _ ∨ _); first | (refine .inr ?_; (conv => whnf); refine ⟨_, ?_, fun h => rfl, rfl, ?_⟩; ((conv => whnf); first | exact trivial | (refine ⟨?_, trivial⟩; exact okG))) | (refine .inr ?_; (conv => whnf); refine ⟨_, trivial, fun h => ⟨?_, ?_, ?_, rfl⟩, rfl, ?_⟩; (first | exact h | rfl); exact okG; exact okG) | refine .inl ?_) | refine cY ?_ (by first | (with_reducible first | rfl | assumption) | decide) | refine cN ?_ (by first | (with_reducible first | rfl | assumption) | decide) | refine gA ?_ (by first | (with_reducible first | rfl | assumption) | decide) | refine gB ?_ (by first | (with_reducible first | rfl | assumption) | decide) | refine gC ?_ (by first | (with_reducible first | rfl | assumption) | decide) | ((first | refine gsT (fun h => ?_) (fun h => ?_) | refine gsF (fun h => ?_) (fun h => ?_) | refine ⟨fun h => ?_, fun h => ?_⟩) <;> (have hs := h; try simp only [cs, reduceCtorEq, Int.reduceEq, Int.reduceNe, Int.reduceLT, Int.reduceLE, Int.reduceBEq, Int.reduceBNe] at hs)) | ((with_reducible show _ ∧ _ ∧ Weak _ _ _); refine ⟨?_, ?_, Weak.go⟩; (omega)) | ((with_reducible show (_ ∧ _ ∧ _) ∧ _); refine ⟨⟨by kernel_rfl, by kernel_rfl, by rfl⟩, ?_⟩) | ((with_reducible show AV.pf _ = true ∧ _); refine pfA ?_) | (refine ⟨rfl, ?_, ?_, ?_⟩; exact okG; exact okG) | ((with_reducible show (_ ∨ _) ∧ _ ∧ retA _ _ _ _ _); refine ⟨?_, rfl, ?_⟩; (first | exact .inr rfl | exact .inl rfl)) | ((with_reducible show _ = _ ∧ _ = false ∧ _ = _); refine ⟨?_, rfl, rfl⟩; try (skip)) | ((with_reducible show LeqD _ _); try (first | exact okN | (skip)); done) | ((with_reducible show _ = _ ∧ (_ → _)); refine ⟨?_, ?_⟩; try (skip)) | exact fun h => h | exact fun _ => rfl | refine ⟨rfl, ?_⟩ | (refine ⟨Nat.le_of_ble_eq_true rfl, ?_⟩) | (refine ⟨?_, ?_, ?_⟩; exact okS; exact okS) | (refine ⟨?_, ?_⟩; exact okS) | fail)
    refine Eq.trans (b := AV.tup [eDone ⟨clock, l, .empty, false, if (0 : Int) = 0 then statusOf (mayE n a b) else 0, mayE n a b⟩, i64 0]) (by kernel_rfl) ?_
    exact doneEq (by unfold doCopy; rw [if_neg hs]; rfl)
  · repeat' ((conv => whnf); (fail_if_success (with_reducible show ∃ _, _ ∧ _ ∧ Weak _ _ _)); first | ((with_reducible show guardA _ _ _ _ _ _ ∨ _); first | (refine .inr ?_; (conv => whnf); refine ⟨_, ?_, fun h => rfl, rfl, ?_⟩; ((conv => whnf); first | exact trivial | (refine ⟨?_, trivial⟩; exact okG))) | (refine .inr ?_; (conv => whnf); refine ⟨_, trivial, fun h => ⟨?_, ?_, ?_, rfl⟩, rfl, ?_⟩; (first | exact h | rfl); exact okG; exact okG) | refine .inl ?_) | refine cY ?_ (by first | (with_reducible first | rfl | assumption) | decide) | refine cN ?_ (by first | (with_reducible first | rfl | assumption) | decide) | refine gA ?_ (by first | (with_reducible first | rfl | assumption) | decide) | refine gB ?_ (by first | (with_reducible first | rfl | assumption) | decide) | refine gC ?_ (by first | (with_reducible first | rfl | assumption) | decide) | ((first | refine gsT (fun h => ?_) (fun h => ?_) | refine gsF (fun h => ?_) (fun h => ?_) | refine ⟨fun h => ?_, fun h => ?_⟩) <;> (have hs := h; try simp only [cs, reduceCtorEq, Int.reduceEq, Int.reduceNe, Int.reduceLT, Int.reduceLE, Int.reduceBEq, Int.reduceBNe] at hs)) | (refine .inl ⟨_, _, c_done_copy, ?_⟩) | ((with_reducible show _ ∧ _ ∧ Weak _ _ _); refine ⟨?_, ?_, Weak.go⟩; (omega)) | ((with_reducible show (_ ∧ _ ∧ _) ∧ _); refine ⟨⟨by kernel_rfl, by kernel_rfl, by rfl⟩, ?_⟩) | ((with_reducible show AV.pf _ = true ∧ _); refine pfA ?_) | (refine ⟨rfl, ?_, ?_, ?_⟩; exact okG; exact okG) | ((with_reducible show (_ ∨ _) ∧ _ ∧ retA _ _ _ _ _); refine ⟨?_, rfl, ?_⟩; (first | exact .inr rfl | exact .inl rfl)) | ((with_reducible show _ = _ ∧ _ = false ∧ _ = _); refine ⟨?_, rfl, rfl⟩; try (skip)) | ((with_reducible show LeqD _ _); try (first | exact okN | (skip)); done) | ((with_reducible show _ = _ ∧ (_ → _)); refine ⟨?_, ?_⟩; try (skip)) | exact fun h => h | exact fun _ => rfl | refine ⟨rfl, ?_⟩ | (refine ⟨Nat.le_of_ble_eq_true rfl, ?_⟩) | (refine ⟨?_, ?_, ?_⟩; exact okS; exact okS) | (refine ⟨?_, ?_⟩; exact okS) | fail)
    · refine callG_args (args' := [i64 (doneE clock l a b), i64 0, .bp 1 0]) (by kernel_rfl) ?_
      refine callG_do1 (clock := clock) (l := l) (by kernel_rfl) ?_
      repeat' ((conv => whnf); (fail_if_success (with_reducible show ∃ _, _ ∧ _ ∧ Weak _ _ _)); first | ((with_reducible show guardA _ _ _ _ _ _ ∨ _); first | (refine .inr ?_; (conv => whnf); refine ⟨_, ?_, fun h => rfl, rfl, ?_⟩; ((conv => whnf); first | exact trivial | (refine ⟨?_, trivial⟩; exact okG))) | (refine .inr ?_; (conv => whnf); refine ⟨_, trivial, fun h => ⟨?_, ?_, ?_, rfl⟩, rfl, ?_⟩; (first | exact h | rfl); exact okG; exact okG) | refine .inl ?_) | refine cY ?_ (by first | (with_reducible first | rfl | assumption) | decide) | refine cN ?_ (by first | (with_reducible first | rfl | assumption) | decide) | refine gA ?_ (by first | (with_reducible first | rfl | assumption) | decide) | refine gB ?_ (by first | (with_reducible first | rfl | assumption) | decide) | refine gC ?_ (by first | (with_reducible first | rfl | assumption) | decide) | ((first | refine gsT (fun h => ?_) (fun h => ?_) | refine gsF (fun h => ?_) (fun h => ?_) | refine ⟨fun h => ?_, fun h => ?_⟩) <;> (have hs := h; try simp only [cs, reduceCtorEq, Int.reduceEq, Int.reduceNe, Int.reduceLT, Int.reduceLE, Int.reduceBEq, Int.reduceBNe] at hs)) | ((with_reducible show _ ∧ _ ∧ Weak _ _ _); refine ⟨?_, ?_, Weak.go⟩; (omega)) | ((with_reducible show (_ ∧ _ ∧ _) ∧ _); refine ⟨⟨by kernel_rfl, by kernel_rfl, by rfl⟩, ?_⟩) | ((with_reducible show AV.pf _ = true ∧ _); refine pfA ?_) | (refine ⟨rfl, ?_, ?_, ?_⟩; exact okG; exact okG) | ((with_reducible show (_ ∨ _) ∧ _ ∧ retA _ _ _ _ _); refine ⟨?_, rfl, ?_⟩; (first | exact .inr rfl | exact .inl rfl)) | ((with_reducible show _ = _ ∧ _ = false ∧ _ = _); refine ⟨?_, rfl, rfl⟩; try (skip)) | ((with_reducible show LeqD _ _); try (first | exact okN | (skip)); done) | ((with_reducible show _ = _ ∧ (_ → _)); refine ⟨?_, ?_⟩; try (skip)) | exact fun h => h | exact fun _ => rfl | refine ⟨rfl, ?_⟩ | (refine ⟨Nat.le_of_ble_eq_true rfl, ?_⟩) | (refine ⟨?_, ?_, ?_⟩; exact okS; exact okS) | (refine ⟨?_, ?_⟩; exact okS) | fail)
      refine Eq.trans (b := AV.tup [eDone ⟨clock, l, .empty, false, if (0 : Int) = 0 then statusOf (doneE clock l a b) else 0, doneE clock l a b⟩, i64 0]) (by kernel_rfl) ?_
      have hm : mayE n a b = 0 := by assumption
      exact doneEq (by unfold doCopy; rw [if_pos hm, if_neg hs]; rfl)
    · repeat' ((conv => whnf); (fail_if_success (with_reducible show ∃ _, _ ∧ _ ∧ Weak _ _ _)); first | ((with_reducible show guardA _ _ _ _ _ _ ∨ _); first | (refine .inr ?_; (conv => whnf); refine ⟨_, ?_, fun h => rfl, rfl, ?_⟩; ((conv => whnf); first | exact trivial | (refine ⟨?_, trivial⟩; exact okG))) | (refine .inr ?_; (conv => whnf); refine ⟨_, trivial, fun h => ⟨?_, ?_, ?_, rfl⟩, rfl, ?_⟩; (first | exact h | rfl); exact okG; exact okG) | refine .inl ?_) | refine cY ?_ (by first | (with_reducible first | rfl | assumption) | decide) | refine cN ?_ (by first | (with_reducible first | rfl | assumption) | decide) | refine gA ?_ (by first | (with_reducible first | rfl | assumption) | decide) | refine gB ?_ (by first | (with_reducible first | rfl | assumption) | decide) | refine gC ?_ (by first | (with_reducible first | rfl | assumption) | decide) | ((first | refine gsT (fun h => ?_) (fun h => ?_) | refine gsF (fun h => ?_) (fun h => ?_) | refine ⟨fun h => ?_, fun h => ?_⟩) <;> (have hs := h; try simp only [cs, reduceCtorEq, Int.reduceEq, Int.reduceNe, Int.reduceLT, Int.reduceLE, Int.reduceBEq, Int.reduceBNe] at hs)) | (refine .inl ⟨_, _, c_Writes_copy ha hb, ?_⟩) | ((with_reducible show _ ∧ _ ∧ Weak _ _ _); refine ⟨?_, ?_, Weak.go⟩; (omega)) | ((with_reducible show (_ ∧ _ ∧ _) ∧ _); refine ⟨⟨by kernel_rfl, by kernel_rfl, by rfl⟩, ?_⟩) | ((with_reducible show AV.pf _ = true ∧ _); refine pfA ?_) | (refine ⟨rfl, ?_, ?_, ?_⟩; exact okG; exact okG) | ((with_reducible show (_ ∨ _) ∧ _ ∧ retA _ _ _ _ _); refine ⟨?_, rfl, ?_⟩; (first | exact .inr rfl | exact .inl rfl)) | ((with_reducible show _ = _ ∧ _ = false ∧ _ = _); refine ⟨?_, rfl, rfl⟩; try (skip)) | ((with_reducible show LeqD _ _); try (first | exact okN | (skip)); done) | ((with_reducible show _ = _ ∧ (_ → _)); refine ⟨?_, ?_⟩; try (skip)) | exact fun h => h | exact fun _ => rfl | refine ⟨rfl, ?_⟩ | (refine ⟨Nat.le_of_ble_eq_true rfl, ?_⟩) | (refine ⟨?_, ?_, ?_⟩; exact okS; exact okS) | (refine ⟨?_, ?_⟩; exact okS) | fail)
      refine Eq.trans (b := AV.tup [eDone ⟨doneC clock l a b, doneL clock l a b, .empty, true, 0, 0⟩, i64 0]) (by kernel_rfl) ?_
      have hm : mayE n a b = 0 := by assumption
      exact doneEq (by unfold doCopy; rw [if_pos hm, if_pos hs])
end Go.Proofs.YtepdiooaoegpfaaGreatDoor.Fx
end
section
/- A command is done upon a disk, for a target. Conditions: those in each statement. -/
namespace Go.Proofs.YtepdiooaoegpfaaGreatDoor.Fx
open Go Go.Proofs Go.Ev Go.RowKit
set_option maxRecDepth 100000
set_option maxHeartbeats 6400000
set_option linter.unusedSimpArgs false
set_option linter.unusedVariables false
/-- A failure: the disk as it was. -/
def failD (clock : Int) (l : List File) (e st : Int) : Done := ⟨clock, l, .empty, false, if st = 0 then statusOf e else st, e⟩
def doneD (c : Cm) (r : DR) (clock : Int) (l : List File) : Done := if r.e = 0 then ⟨r.clock, r.files, r.said, wrOf c, 0, 0⟩ else failD clock l r.e r.st
/-- What a right target's command comes to, upon a right disk. -/
def doIt (n : Node) (t : ByteArray) (clock : Int) (l : List File) (fail : Int) : Done :=
  if 0 < fail then failD clock l 171 fail else if mayX n t = 0 then doneD (lineC t) (doneOf (lineC t) clock l) clock l else failD clock l (mayX n t) 0
@[irreducible] def doE (n : Node) (t : ByteArray) (clock : Int) (l : List File) (fail : Int) : Int :=
  if nodeOk n = false then 7 else if 65536 < t.size then 2 else if okD clock l = false then 4 else if fail < 0 ∨ 255 < fail then 1 else 0
def noD : Done := ⟨0, [], .empty, false, 0, 0⟩
@[irreducible] def doD (n : Node) (t : ByteArray) (clock : Int) (l : List File) (fail : Int) : Done := if doE n t clock l fail = 0 then doIt n t clock l fail else noD
theorem c_Do_gen {n : Node} {t : ByteArray} {clock fail m : Int} {l : List File} {c : Cm} {r : DR} (hz : SzN n) (hn : nodeOk n = true) (ht : t.size ≤ 65536) (hd : okD clock l = true) (h0 : 0 ≤ fail) (h1 : fail ≤ 255)
    (hM : XPure Tryz.prog 29 [eN n, str t] (.tup [c.av, i64 m]) false) (hk : m = 0 → Kind c) (hR : m = 0 → XPure Tryz.prog 30 [c.av, eD clock l] r.av false) :
    XPure Tryz.prog 9 [eN n, str t, eD clock l, i64 fail] (.tup [eDone (if 0 < fail then failD clock l 171 fail else if m = 0 then doneD c r clock l else failD clock l m 0), i64 0]) false := by
  have hl := (okD_sorted hd).1
  have hA : XPure Tryz.prog 25 [eN n] (i64 0) false := by
    have h := c_alone hz
    rwa [aloneOk_eq, hn, show errIf true 7 = 0 from rfl] at h
  have hD : XPure Tryz.prog 26 [eD clock l] (i64 0) false := by
    have h := c_disk_Check (clock := clock) (l := l)
    rwa [hd, show errIf true 4 = 0 from rfl] at h
  refine XPure.body ⟨_, Tryz.func9, rfl, by kernel_rfl⟩ Tryz.func9 rfl (Nat.le_of_ble_eq_true (by rfl)) (pf_of1 rfl) fun env => ?_
  repeat' ((conv => whnf); (fail_if_success (with_reducible show ∃ _, _ ∧ _ ∧ Weak _ _ _)); first | ((with_reducible show guardA _ _ _ _ _ _ ∨ _); first | (refine .inr ?_; (conv => whnf); refine ⟨_, ?_, fun h => rfl, rfl, ?_⟩; ((conv => whnf); first | exact trivial | (refine ⟨?_, trivial⟩; exact okG))) | (refine .inr ?_; (conv => whnf); refine ⟨_, trivial, fun h => ⟨?_, ?_, ?_, rfl⟩, rfl, ?_⟩; (first | exact h | rfl); exact okG; exact okG) | refine .inl ?_) | refine cY ?_ (by first | (with_reducible first | rfl | assumption) | decide) | refine cN ?_ (by first | (with_reducible first | rfl | assumption) | decide) | refine gA ?_ (by first | (with_reducible first | rfl | assumption) | decide) | refine gB ?_ (by first | (with_reducible first | rfl | assumption) | decide) | refine gC ?_ (by first | (with_reducible first | rfl | assumption) | decide) | ((first | refine gsT (fun h => ?_) (fun h => ?_) | refine gsF (fun h => ?_) (fun h => ?_) | refine ⟨fun h => ?_, fun h => ?_⟩) <;> (have hs := h; try simp only [cs, reduceCtorEq, Int.reduceEq, Int.reduceNe, Int.reduceLT, Int.reduceLE, Int.reduceBEq, Int.reduceBNe] at hs)) | (refine .inl ⟨_, _, hA, ?_⟩) | (refine .inl ⟨_, _, hD, ?_⟩) | (refine .inl ⟨_, _, c_CloneF (by omega), ?_⟩) | (refine .inl ⟨_, _, hM, ?_⟩) | ((with_reducible show _ ∧ _ ∧ Weak _ _ _); refine ⟨?_, ?_, Weak.go⟩; (omega)) | ((with_reducible show (_ ∧ _ ∧ _) ∧ _); refine ⟨⟨by kernel_rfl, by kernel_rfl, by rfl⟩, ?_⟩) | ((with_reducible show AV.pf _ = true ∧ _); refine pfA ?_) | (refine ⟨rfl, ?_, ?_, ?_⟩; exact okG; exact okG) | ((with_reducible show (_ ∨ _) ∧ _ ∧ retA _ _ _ _ _); refine ⟨?_, rfl, ?_⟩; (first | exact .inr rfl | exact .inl rfl)) | ((with_reducible show _ = _ ∧ _ = false ∧ _ = _); refine ⟨?_, rfl, rfl⟩; try (skip)) | ((with_reducible show LeqD _ _); try (first | exact okN | (skip)); done) | ((with_reducible show _ = _ ∧ (_ → _)); refine ⟨?_, ?_⟩; try (skip)) | exact fun h => h | exact fun _ => rfl | refine ⟨rfl, ?_⟩ | (refine ⟨Nat.le_of_ble_eq_true rfl, ?_⟩) | (refine ⟨?_, ?_, ?_⟩; exact okS; exact okS) | (refine ⟨?_, ?_⟩; exact okS) | fail)
  · exfalso; omega
  · exfalso; omega
  · refine callG_args (args' := [i64 171, i64 fail, .bp 1 0]) (by kernel_rfl) ?_
    refine callG_do1 (clock := clock) (l := l) (by kernel_rfl) ?_
    repeat' ((conv => whnf); (fail_if_success (with_reducible show ∃ _, _ ∧ _ ∧ Weak _ _ _)); first | ((with_reducible show guardA _ _ _ _ _ _ ∨ _); first | (refine .inr ?_; (conv => whnf); refine ⟨_, ?_, fun h => rfl, rfl, ?_⟩; ((conv => whnf); first | exact trivial | (refine ⟨?_, trivial⟩; exact okG))) | (refine .inr ?_; (conv => whnf); refine ⟨_, trivial, fun h => ⟨?_, ?_, ?_, rfl⟩, rfl, ?_⟩; (first | exact h | rfl); exact okG; exact okG) | refine .inl ?_) | refine cY ?_ (by first | (with_reducible first | rfl | assumption) | decide) | refine cN ?_ (by first | (with_reducible first | rfl | assumption) | decide) | refine gA ?_ (by first | (with_reducible first | rfl | assumption) | decide) | refine gB ?_ (by first | (with_reducible first | rfl | assumption) | decide) | refine gC ?_ (by first | (with_reducible first | rfl | assumption) | decide) | ((first | refine gsT (fun h => ?_) (fun h => ?_) | refine gsF (fun h => ?_) (fun h => ?_) | refine ⟨fun h => ?_, fun h => ?_⟩) <;> (have hs := h; try simp only [cs, reduceCtorEq, Int.reduceEq, Int.reduceNe, Int.reduceLT, Int.reduceLE, Int.reduceBEq, Int.reduceBNe] at hs)) | ((with_reducible show _ ∧ _ ∧ Weak _ _ _); refine ⟨?_, ?_, Weak.go⟩; (omega)) | ((with_reducible show (_ ∧ _ ∧ _) ∧ _); refine ⟨⟨by kernel_rfl, by kernel_rfl, by rfl⟩, ?_⟩) | ((with_reducible show AV.pf _ = true ∧ _); refine pfA ?_) | (refine ⟨rfl, ?_, ?_, ?_⟩; exact okG; exact okG) | ((with_reducible show (_ ∨ _) ∧ _ ∧ retA _ _ _ _ _); refine ⟨?_, rfl, ?_⟩; (first | exact .inr rfl | exact .inl rfl)) | ((with_reducible show _ = _ ∧ _ = false ∧ _ = _); refine ⟨?_, rfl, rfl⟩; try (skip)) | ((with_reducible show LeqD _ _); try (first | exact okN | (skip)); done) | ((with_reducible show _ = _ ∧ (_ → _)); refine ⟨?_, ?_⟩; try (skip)) | exact fun h => h | exact fun _ => rfl | refine ⟨rfl, ?_⟩ | (refine ⟨Nat.le_of_ble_eq_true rfl, ?_⟩) | (refine ⟨?_, ?_, ?_⟩; exact okS; exact okS) | (refine ⟨?_, ?_⟩; exact okS) | fail)
    refine Eq.trans (b := AV.tup [eDone ⟨clock, l, .empty, false, if fail = 0 then statusOf 171 else fail, 171⟩, i64 0]) (by kernel_rfl) ?_
    exact doneEq (by rw [if_pos hs]; rfl)
  · refine callG_args (args' := [i64 m, i64 0, .bp 1 0]) (by kernel_rfl) ?_
    refine callG_do1 (clock := clock) (l := l) (by kernel_rfl) ?_
    repeat' ((conv => whnf); (fail_if_success (with_reducible show ∃ _, _ ∧ _ ∧ Weak _ _ _)); first | ((with_reducible show guardA _ _ _ _ _ _ ∨ _); first | (refine .inr ?_; (conv => whnf); refine ⟨_, ?_, fun h => rfl, rfl, ?_⟩; ((conv => whnf); first | exact trivial | (refine ⟨?_, trivial⟩; exact okG))) | (refine .inr ?_; (conv => whnf); refine ⟨_, trivial, fun h => ⟨?_, ?_, ?_, rfl⟩, rfl, ?_⟩; (first | exact h | rfl); exact okG; exact okG) | refine .inl ?_) | refine cY ?_ (by first | (with_reducible first | rfl | assumption) | decide) | refine cN ?_ (by first | (with_reducible first | rfl | assumption) | decide) | refine gA ?_ (by first | (with_reducible first | rfl | assumption) | decide) | refine gB ?_ (by first | (with_reducible first | rfl | assumption) | decide) | refine gC ?_ (by first | (with_reducible first | rfl | assumption) | decide) | ((first | refine gsT (fun h => ?_) (fun h => ?_) | refine gsF (fun h => ?_) (fun h => ?_) | refine ⟨fun h => ?_, fun h => ?_⟩) <;> (have hs := h; try simp only [cs, reduceCtorEq, Int.reduceEq, Int.reduceNe, Int.reduceLT, Int.reduceLE, Int.reduceBEq, Int.reduceBNe] at hs)) | ((with_reducible show _ ∧ _ ∧ Weak _ _ _); refine ⟨?_, ?_, Weak.go⟩; (omega)) | ((with_reducible show (_ ∧ _ ∧ _) ∧ _); refine ⟨⟨by kernel_rfl, by kernel_rfl, by rfl⟩, ?_⟩) | ((with_reducible show AV.pf _ = true ∧ _); refine pfA ?_) | (refine ⟨rfl, ?_, ?_, ?_⟩; exact okG; exact okG) | ((with_reducible show (_ ∨ _) ∧ _ ∧ retA _ _ _ _ _); refine ⟨?_, rfl, ?_⟩; (first | exact .inr rfl | exact .inl rfl)) | ((with_reducible show _ = _ ∧ _ = false ∧ _ = _); refine ⟨?_, rfl, rfl⟩; try (skip)) | ((with_reducible show LeqD _ _); try (first | exact okN | (skip)); done) | ((with_reducible show _ = _ ∧ (_ → _)); refine ⟨?_, ?_⟩; try (skip)) | exact fun h => h | exact fun _ => rfl | refine ⟨rfl, ?_⟩ | (refine ⟨Nat.le_of_ble_eq_true rfl, ?_⟩) | (refine ⟨?_, ?_, ?_⟩; exact okS; exact okS) | (refine ⟨?_, ?_⟩; exact okS) | fail)
    refine Eq.trans (b := AV.tup [eDone ⟨clock, l, .empty, false, if (0 : Int) = 0 then statusOf m else 0, m⟩, i64 0]) (by kernel_rfl) ?_
    have hf : ¬ 0 < fail := by omega
    exact doneEq (by rw [if_neg hf, if_neg hs]; rfl)
  · have hf : ¬ 0 < fail := by omega
    have hm : m = 0 := hs
    have hdn := hR hm
    repeat' ((conv => whnf); (fail_if_success (with_reducible show ∃ _, _ ∧ _ ∧ Weak _ _ _)); first | ((with_reducible show guardA _ _ _ _ _ _ ∨ _); first | (refine .inr ?_; (conv => whnf); refine ⟨_, ?_, fun h => rfl, rfl, ?_⟩; ((conv => whnf); first | exact trivial | (refine ⟨?_, trivial⟩; exact okG))) | (refine .inr ?_; (conv => whnf); refine ⟨_, trivial, fun h => ⟨?_, ?_, ?_, rfl⟩, rfl, ?_⟩; (first | exact h | rfl); exact okG; exact okG) | refine .inl ?_) | refine cY ?_ (by first | (with_reducible first | rfl | assumption) | decide) | refine cN ?_ (by first | (with_reducible first | rfl | assumption) | decide) | refine gA ?_ (by first | (with_reducible first | rfl | assumption) | decide) | refine gB ?_ (by first | (with_reducible first | rfl | assumption) | decide) | refine gC ?_ (by first | (with_reducible first | rfl | assumption) | decide) | ((first | refine gsT (fun h => ?_) (fun h => ?_) | refine gsF (fun h => ?_) (fun h => ?_) | refine ⟨fun h => ?_, fun h => ?_⟩) <;> (have hs := h; try simp only [cs, reduceCtorEq, Int.reduceEq, Int.reduceNe, Int.reduceLT, Int.reduceLE, Int.reduceBEq, Int.reduceBNe] at hs)) | (refine .inl ⟨_, _, hdn, ?_⟩) | ((with_reducible show _ ∧ _ ∧ Weak _ _ _); refine ⟨?_, ?_, Weak.go⟩; (omega)) | ((with_reducible show (_ ∧ _ ∧ _) ∧ _); refine ⟨⟨by kernel_rfl, by kernel_rfl, by rfl⟩, ?_⟩) | ((with_reducible show AV.pf _ = true ∧ _); refine pfA ?_) | (refine ⟨rfl, ?_, ?_, ?_⟩; exact okG; exact okG) | ((with_reducible show (_ ∨ _) ∧ _ ∧ retA _ _ _ _ _); refine ⟨?_, rfl, ?_⟩; (first | exact .inr rfl | exact .inl rfl)) | ((with_reducible show _ = _ ∧ _ = false ∧ _ = _); refine ⟨?_, rfl, rfl⟩; try (skip)) | ((with_reducible show LeqD _ _); try (first | exact okN | (skip)); done) | ((with_reducible show _ = _ ∧ (_ → _)); refine ⟨?_, ?_⟩; try (skip)) | exact fun h => h | exact fun _ => rfl | refine ⟨rfl, ?_⟩ | (refine ⟨Nat.le_of_ble_eq_true rfl, ?_⟩) | (refine ⟨?_, ?_, ?_⟩; exact okS; exact okS) | (refine ⟨?_, ?_⟩; exact okS) | fail)
    · refine callG_args (args' := [i64 r.e, i64 r.st, .bp 1 0]) (by kernel_rfl) ?_
      refine callG_do1 (clock := clock) (l := l) (by kernel_rfl) ?_
      repeat' ((conv => whnf); (fail_if_success (with_reducible show ∃ _, _ ∧ _ ∧ Weak _ _ _)); first | ((with_reducible show guardA _ _ _ _ _ _ ∨ _); first | (refine .inr ?_; (conv => whnf); refine ⟨_, ?_, fun h => rfl, rfl, ?_⟩; ((conv => whnf); first | exact trivial | (refine ⟨?_, trivial⟩; exact okG))) | (refine .inr ?_; (conv => whnf); refine ⟨_, trivial, fun h => ⟨?_, ?_, ?_, rfl⟩, rfl, ?_⟩; (first | exact h | rfl); exact okG; exact okG) | refine .inl ?_) | refine cY ?_ (by first | (with_reducible first | rfl | assumption) | decide) | refine cN ?_ (by first | (with_reducible first | rfl | assumption) | decide) | refine gA ?_ (by first | (with_reducible first | rfl | assumption) | decide) | refine gB ?_ (by first | (with_reducible first | rfl | assumption) | decide) | refine gC ?_ (by first | (with_reducible first | rfl | assumption) | decide) | ((first | refine gsT (fun h => ?_) (fun h => ?_) | refine gsF (fun h => ?_) (fun h => ?_) | refine ⟨fun h => ?_, fun h => ?_⟩) <;> (have hs := h; try simp only [cs, reduceCtorEq, Int.reduceEq, Int.reduceNe, Int.reduceLT, Int.reduceLE, Int.reduceBEq, Int.reduceBNe] at hs)) | ((with_reducible show _ ∧ _ ∧ Weak _ _ _); refine ⟨?_, ?_, Weak.go⟩; (omega)) | ((with_reducible show (_ ∧ _ ∧ _) ∧ _); refine ⟨⟨by kernel_rfl, by kernel_rfl, by rfl⟩, ?_⟩) | ((with_reducible show AV.pf _ = true ∧ _); refine pfA ?_) | (refine ⟨rfl, ?_, ?_, ?_⟩; exact okG; exact okG) | ((with_reducible show (_ ∨ _) ∧ _ ∧ retA _ _ _ _ _); refine ⟨?_, rfl, ?_⟩; (first | exact .inr rfl | exact .inl rfl)) | ((with_reducible show _ = _ ∧ _ = false ∧ _ = _); refine ⟨?_, rfl, rfl⟩; try (skip)) | ((with_reducible show LeqD _ _); try (first | exact okN | (skip)); done) | ((with_reducible show _ = _ ∧ (_ → _)); refine ⟨?_, ?_⟩; try (skip)) | exact fun h => h | exact fun _ => rfl | refine ⟨rfl, ?_⟩ | (refine ⟨Nat.le_of_ble_eq_true rfl, ?_⟩) | (refine ⟨?_, ?_, ?_⟩; exact okS; exact okS) | (refine ⟨?_, ?_⟩; exact okS) | fail)
      refine Eq.trans (b := AV.tup [eDone ⟨clock, l, .empty, false, if r.st = 0 then statusOf r.e else r.st, r.e⟩, i64 0]) (by kernel_rfl) ?_
      exact doneEq (by rw [if_neg hf, if_pos hm]; unfold doneD; rw [if_neg hs]; rfl)
    · repeat' ((conv => whnf); (fail_if_success (with_reducible show ∃ _, _ ∧ _ ∧ Weak _ _ _)); first | ((with_reducible show guardA _ _ _ _ _ _ ∨ _); first | (refine .inr ?_; (conv => whnf); refine ⟨_, ?_, fun h => rfl, rfl, ?_⟩; ((conv => whnf); first | exact trivial | (refine ⟨?_, trivial⟩; exact okG))) | (refine .inr ?_; (conv => whnf); refine ⟨_, trivial, fun h => ⟨?_, ?_, ?_, rfl⟩, rfl, ?_⟩; (first | exact h | rfl); exact okG; exact okG) | refine .inl ?_) | refine cY ?_ (by first | (with_reducible first | rfl | assumption) | decide) | refine cN ?_ (by first | (with_reducible first | rfl | assumption) | decide) | refine gA ?_ (by first | (with_reducible first | rfl | assumption) | decide) | refine gB ?_ (by first | (with_reducible first | rfl | assumption) | decide) | refine gC ?_ (by first | (with_reducible first | rfl | assumption) | decide) | ((first | refine gsT (fun h => ?_) (fun h => ?_) | refine gsF (fun h => ?_) (fun h => ?_) | refine ⟨fun h => ?_, fun h => ?_⟩) <;> (have hs := h; try simp only [cs, reduceCtorEq, Int.reduceEq, Int.reduceNe, Int.reduceLT, Int.reduceLE, Int.reduceBEq, Int.reduceBNe] at hs)) | (refine .inl ⟨_, _, c_Writes (hk hm), ?_⟩) | ((with_reducible show _ ∧ _ ∧ Weak _ _ _); refine ⟨?_, ?_, Weak.go⟩; (omega)) | ((with_reducible show (_ ∧ _ ∧ _) ∧ _); refine ⟨⟨by kernel_rfl, by kernel_rfl, by rfl⟩, ?_⟩) | ((with_reducible show AV.pf _ = true ∧ _); refine pfA ?_) | (refine ⟨rfl, ?_, ?_, ?_⟩; exact okG; exact okG) | ((with_reducible show (_ ∨ _) ∧ _ ∧ retA _ _ _ _ _); refine ⟨?_, rfl, ?_⟩; (first | exact .inr rfl | exact .inl rfl)) | ((with_reducible show _ = _ ∧ _ = false ∧ _ = _); refine ⟨?_, rfl, rfl⟩; try (skip)) | ((with_reducible show LeqD _ _); try (first | exact okN | (skip)); done) | ((with_reducible show _ = _ ∧ (_ → _)); refine ⟨?_, ?_⟩; try (skip)) | exact fun h => h | exact fun _ => rfl | refine ⟨rfl, ?_⟩ | (refine ⟨Nat.le_of_ble_eq_true rfl, ?_⟩) | (refine ⟨?_, ?_, ?_⟩; exact okS; exact okS) | (refine ⟨?_, ?_⟩; exact okS) | fail)
      refine Eq.trans (b := AV.tup [eDone ⟨r.clock, r.files, r.said, wrOf c, 0, 0⟩, i64 0]) (by kernel_rfl) ?_
      exact doneEq (by rw [if_neg hf, if_pos hm]; unfold doneD; rw [if_pos hs])
theorem wordsV_le {t : ByteArray} : ∀ x ∈ wordsV t, x.size ≤ 65536 := by
  intro x hm
  unfold wordsV at hm
  split at hm
  · cases hm
  · cases hL : wordsL t with
    | none => rw [hL] at hm; cases hm
    | some r =>
      rw [hL] at hm
      have := wordsF_small _ _ _ _ _ (by intro x hx; cases hx) hL x hm
      omega
theorem cmOf_words {op : Int} {l : List ByteArray} : ∀ x ∈ (cmOf op l).words, x ∈ l := by
  intro x hx
  unfold cmOf at hx
  repeat' (first | (split at hx) | (cases hx; done) | exact List.mem_of_mem_drop hx | exact hx)
theorem line_words {t : ByteArray} : ∀ x ∈ (lineC t).words, x.size ≤ 65536 := by
  intro x hx
  unfold lineC at hx
  split at hx
  · unfold parseC at hx
    split at hx
    · exact wordsV_le x (List.mem_of_mem_tail (cmOf_words x hx))
    · cases hx
  · cases hx
theorem do_bad {n : Node} {t : ByteArray} {clock fail e : Int} {l : List File} (h : doE n t clock l fail = e) : LeqD (.tup [.agg [i64 0, nilv, str ⟨#[]⟩, bln false, i64 0, i64 0], i64 e]) (.tup [eDone noD, i64 (doE n t clock l fail)]) := by
  rw [h]
  repeat' (first | exact LeqD.nil (by decide) | exact LeqD.refl _ | exact LeqDL.refl _ | refine LeqDL.cons ?_ ?_ | refine LeqD.agg ?_ | refine LeqD.tup ?_)
theorem c_Do_in {n : Node} {t : ByteArray} {clock fail : Int} {l : List File} (hz : SzN n) (hn : nodeOk n = true) (ht : t.size ≤ 65536) (hd : okD clock l = true) (h0 : 0 ≤ fail) (h1 : fail ≤ 255) :
    XPure Tryz.prog 9 [eN n, str t, eD clock l, i64 fail] (.tup [eDone (doIt n t clock l fail), i64 0]) false := by
  have hk : mayX n t = 0 → Kind (lineC t) := fun h => line_kind (by
    unfold mayX mayOf at h
    by_cases he : lineE t = 0
    · exact he
    · rw [if_neg he] at h; exact absurd h he)
  exact c_Do_gen (r := doneOf (lineC t) clock l) hz hn ht hd h0 h1 (c_exec_may hz.needs.1) hk fun h => c_done (hk h) line_words
theorem c_Do {n : Node} {t : ByteArray} {clock fail : Int} {l : List File} (hz : SzN n) : XPure Tryz.prog 9 [eN n, str t, eD clock l, i64 fail] (.tup [eDone (doD n t clock l fail), i64 (doE n t clock l fail)]) false := by
  by_cases hE : doE n t clock l fail = 0
  · have hD : doD n t clock l fail = doIt n t clock l fail := by unfold doD; rw [if_pos hE]
    rw [hD, hE]
    unfold doE at hE
    split at hE
    · cases hE
    split at hE
    · cases hE
    split at hE
    · cases hE
    split at hE
    · cases hE
    exact c_Do_in hz (by simpa using ‹¬ nodeOk n = false›) (by omega) (by simpa using ‹¬ okD clock l = false›) (by omega) (by omega)
  · have hD : doD n t clock l fail = noD := by unfold doD; rw [if_neg hE]
    rw [hD]
    have hA := c_alone hz
    rw [aloneOk_eq] at hA
    refine XPure.bodyN ⟨_, Tryz.func9, rfl, by kernel_rfl⟩ Tryz.func9 rfl (Nat.le_of_ble_eq_true (by rfl)) (pf_of1 rfl) fun env => ?_
    iterate 16 any_goals try ((conv => whnf); (fail_if_success (with_reducible show LeqD _ _)); (fail_if_success (with_reducible show ∃ _, _ ∧ _ ∧ Weak _ _ _)); first | ((with_reducible show guardA _ _ _ _ _ _ ∨ _); first | (refine .inr ?_; (conv => whnf); refine ⟨_, ?_, fun h => rfl, rfl, ?_⟩; ((conv => whnf); first | exact trivial | (refine ⟨?_, trivial⟩; exact okG))) | (refine .inr ?_; (conv => whnf); refine ⟨_, trivial, fun h => ⟨?_, ?_, ?_, rfl⟩, rfl, ?_⟩; (first | exact h | rfl); exact okG; exact okG) | refine .inl ?_) | refine cY ?_ (by first | (with_reducible first | rfl | assumption) | decide) | refine cN ?_ (by first | (with_reducible first | rfl | assumption) | decide) | refine gA ?_ (by first | (with_reducible first | rfl | assumption) | decide) | refine gB ?_ (by first | (with_reducible first | rfl | assumption) | decide) | refine gC ?_ (by first | (with_reducible first | rfl | assumption) | decide) | ((first | refine gsT (fun h => ?_) (fun h => ?_) | refine gsF (fun h => ?_) (fun h => ?_) | refine ⟨fun h => ?_, fun h => ?_⟩) <;> (have hs := h; try simp only [cs, reduceCtorEq, Int.reduceEq, Int.reduceNe, Int.reduceLT, Int.reduceLE, Int.reduceBEq, Int.reduceBNe] at hs)) | (refine .inl ⟨_, _, hA, ?_⟩) | (refine .inl ⟨_, _, c_disk_Check, ?_⟩) | ((with_reducible show _ ∧ _ ∧ Weak _ _ _); refine ⟨?_, ?_, Weak.go⟩; (omega)) | ((with_reducible show (_ ∧ _ ∧ _) ∧ _); refine ⟨⟨by kernel_rfl, by kernel_rfl, by rfl⟩, ?_⟩) | ((with_reducible show AV.pf _ = true ∧ _); refine pfA ?_) | (refine ⟨rfl, ?_, ?_, ?_⟩; exact okG; exact okG) | ((with_reducible show (_ ∨ _) ∧ _ ∧ retA _ _ _ _ _); refine ⟨?_, rfl, ?_⟩; (first | exact .inr rfl | exact .inl rfl)) | ((with_reducible show _ = _ ∧ _ = false ∧ _ = _); refine ⟨?_, rfl, rfl⟩; try (first | rfl | (conv => lhs; whnf))) | ((with_reducible show _ = _ ∧ (_ → _)); refine ⟨?_, ?_⟩; try (first | rfl | (conv => lhs; whnf))) | exact fun h => h | exact fun _ => rfl | refine ⟨rfl, ?_⟩ | (refine ⟨Nat.le_of_ble_eq_true rfl, ?_⟩) | (refine ⟨?_, ?_, ?_⟩; exact okS; exact okS) | (refine ⟨?_, ?_⟩; exact okS) | fail)
    · obtain ⟨h1, h2⟩ := errIf_not hs
      exact do_bad (by unfold doE; rw [if_pos h1, h2])
    all_goals have hb : nodeOk n = true := errIf_yes (k := 7) (by decide) (by assumption)
    · exact do_bad (by unfold doE; rw [if_neg (by rw [hb]; simp), if_pos (by omega)])
    · obtain ⟨h1, h2⟩ := errIf_not hs
      exact do_bad (by unfold doE; rw [if_neg (by rw [hb]; simp), if_neg (by omega), if_pos h1])
    all_goals have hd : okD clock l = true := errIf_yes (k := 4) (by decide) (by assumption)
    · exact do_bad (by unfold doE; rw [if_neg (by rw [hb]; simp), if_neg (by omega), if_neg (by rw [hd]; simp), if_pos hs])
    · exact absurd (by unfold doE; rw [if_neg (by rw [hb]; simp), if_neg (by omega), if_neg (by rw [hd]; simp), if_neg (by omega)]) hE
end Go.Proofs.YtepdiooaoegpfaaGreatDoor.Fx
end
section
/- What a command leaves of a disk: plain facts. Conditions: those in each statement. -/
namespace Go.Proofs.YtepdiooaoegpfaaGreatDoor.Fx
open Go Go.Proofs Go.Ev Go.RowKit
set_option linter.unusedSimpArgs false
set_option linter.unusedVariables false
abbrev Sorted (l : List File) : Prop := l.Pairwise fun a b => ltS a.name b.name = true
theorem chk_of {clock : Int} : ∀ {l : List File} {p : Option ByteArray}, (∀ f ∈ l, fileOk clock f = true) → Sorted l → (∀ q, p = some q → ∀ f ∈ l, ltS q f.name = true) → chkF clock p l = true
  | [], _, _, _, _ => rfl
  | f :: r, p, h1, h2, h3 => by
    obtain ⟨h4, h5⟩ := List.pairwise_cons.1 h2
    have ih := chk_of (p := some f.name) (fun g hg => h1 g (List.mem_cons_of_mem _ hg)) h5 (fun q e g hg => by cases e; exact h4 g hg)
    unfold chkF
    rw [h1 f (List.mem_cons_self ..), ih]
    cases p with
    | none => rfl
    | some q => dsimp only; rw [h3 q rfl f (List.mem_cons_self ..)]; rfl
theorem okD_iff {clock : Int} {l : List File} : okD clock l = true ↔ 0 ≤ clock ∧ clock ≤ 1099511627776 ∧ l.length ≤ 256 ∧ (∀ f ∈ l, fileOk clock f = true) ∧ Sorted l := by
  constructor
  · intro h
    have h' := h
    simp only [okD, Bool.and_eq_true, decide_eq_true_eq] at h
    exact ⟨h.1.1.1, h.1.1.2, h.1.2, chk_all l none h.2, (sorted_of h.2).2⟩
  · rintro ⟨h1, h2, h3, h4, h5⟩
    simp only [okD, Bool.and_eq_true, decide_eq_true_eq]
    exact ⟨⟨⟨h1, h2⟩, h3⟩, chk_of h4 h5 fun _ e => by cases e⟩
/-- A row of files, parted at a name. -/
theorem parts {s : ByteArray} : ∀ {l : List File}, Sorted l → ∃ A B : List File, (∀ a ∈ A, ltS a.name s = true) ∧ (∀ b ∈ B, ltS s b.name = true) ∧ posF l s = A.length ∧
    ((thereF l s = true ∧ ∃ g, g.name = s ∧ l = A ++ g :: B) ∨ (thereF l s = false ∧ l = A ++ B))
  | [], _ => ⟨[], [], (by simp), (by simp), rfl, .inr ⟨rfl, rfl⟩⟩
  | x :: r, h => by
    obtain ⟨h1, h2⟩ := List.pairwise_cons.1 h
    cases hx : ltS x.name s with
    | true =>
      have hp : posF (x :: r) s = posF r s + 1 := by simp only [posF, hx, if_true]
      have ht : thereF (x :: r) s = thereF r s := by unfold thereF; rw [hp, List.getElem?_cons_succ]
      obtain ⟨A, B, q1, q2, q3, q4⟩ := parts (s := s) h2
      refine ⟨x :: A, B, fun a ha => by rcases List.mem_cons.1 ha with rfl | ha; exact hx; exact q1 a ha, q2, by rw [hp, q3]; rfl, ?_⟩
      rw [ht]
      rcases q4 with ⟨e, g, hg, rfl⟩ | ⟨e, rfl⟩
      · exact .inl ⟨e, g, hg, rfl⟩
      · exact .inr ⟨e, rfl⟩
    | false =>
      have hp : posF (x :: r) s = 0 := by simp only [posF, hx, Bool.false_eq_true, if_false]
      have ht : thereF (x :: r) s = beqS x.name s := by unfold thereF; rw [hp]; rfl
      cases hb : beqS x.name s with
      | true =>
        have e := beqS_iff.1 hb
        exact ⟨[], r, (by simp), fun b hb => by rw [← e]; exact h1 b hb, hp, .inl ⟨ht.trans hb, x, e, rfl⟩⟩
      | false =>
        have hl : ltS s x.name = true := by
          cases hq : ltS s x.name with
          | true => rfl
          | false => exact absurd (ltS_total hx hq) (beqS_no.1 hb)
        refine ⟨[], x :: r, (by simp), fun b hb => ?_, hp, .inr ⟨ht.trans hb, rfl⟩⟩
        rcases List.mem_cons.1 hb with rfl | hb
        · exact hl
        · exact ltS_trans hl (h1 b hb)
theorem findF_app (A B : List File) (q : ByteArray) : findF (A ++ B) q = (findF A q).or (findF B q) := by
  induction A with
  | nil => rfl
  | cons a A ih =>
    simp only [List.cons_append, findF]
    split
    · rfl
    · exact ih
theorem findF_none {l : List File} {q : ByteArray} (h : ∀ f ∈ l, f.name ≠ q) : findF l q = none := by
  induction l with
  | nil => rfl
  | cons a l ih =>
    simp only [findF]
    rw [if_neg (by rw [beqS_iff]; exact h a (List.mem_cons_self ..))]
    exact ih fun f hf => h f (List.mem_cons_of_mem _ hf)
theorem lt_ne {a b : ByteArray} (h : ltS a b = true) : a ≠ b := by rintro rfl; rw [ltS_irrefl] at h; cases h
theorem findF_self : ∀ {l : List File} {f : File}, Sorted l → f ∈ l → findF l f.name = some f
  | [], _, _, h => by cases h
  | x :: r, f, hs, h => by
    obtain ⟨h1, h2⟩ := List.pairwise_cons.1 hs
    simp only [findF]
    rcases List.mem_cons.1 h with rfl | h
    · rw [if_pos beqS_self]
    · rw [if_neg (by rw [beqS_iff]; exact lt_ne (h1 f h))]
      exact findF_self h2 h
/-- A row with a file in the place of a name. -/
theorem laid_facts {l : List File} {f : File} (hs : Sorted l) (he : laidE l f = 0) : Sorted (laidL l f) ∧ (∀ g ∈ laidL l f, g = f ∨ g ∈ l) ∧ findF (laidL l f) f.name = some f ∧ (∀ q, q ≠ f.name → findF (laidL l f) q = findF l q) := by
  obtain ⟨A, B, hA, hB, hp, h⟩ := parts (s := f.name) hs
  have hL : laidL l f = A ++ f :: B := by
    rcases h with ⟨ht, g, hg, rfl⟩ | ⟨ht, rfl⟩
    · have := (laidE_yes (l := A ++ g :: B) (f := f) ht).2
      rw [this, hp, List.set_append_right _ _ (Nat.le_refl _), Nat.sub_self]; rfl
    · have hn : ¬ (A ++ B).length = 256 := fun e => by have := (laidE_full (l := A ++ B) (f := f) ht e).1; rw [this] at he; cases he
      have := (laidE_no (l := A ++ B) (f := f) ht hn).2
      rw [this, hp, List.take_left, List.drop_left]
  have hAB : ∀ a ∈ A, ∀ b ∈ B, ltS a.name b.name = true := fun a ha b hb => ltS_trans (hA a ha) (hB b hb)
  have hsA : Sorted A := by
    rcases h with ⟨ht, g, hg, rfl⟩ | ⟨ht, rfl⟩ <;> exact (List.pairwise_append.1 hs).1
  have hsB : Sorted B := by
    rcases h with ⟨ht, g, hg, rfl⟩ | ⟨ht, rfl⟩
    · exact (List.pairwise_cons.1 (List.pairwise_append.1 hs).2.1).2
    · exact (List.pairwise_append.1 hs).2.1
  rw [hL]
  refine ⟨List.pairwise_append.2 ⟨hsA, List.pairwise_cons.2 ⟨hB, hsB⟩, fun a ha b hb => ?_⟩, fun g hg => ?_, ?_, fun q hq => ?_⟩
  · rcases List.mem_cons.1 hb with rfl | hb
    · exact hA a ha
    · exact hAB a ha b hb
  · rcases List.mem_append.1 hg with hg | hg
    · right; rcases h with ⟨_, _, _, rfl⟩ | ⟨_, rfl⟩ <;> simp [hg]
    · rcases List.mem_cons.1 hg with rfl | hg
      · exact .inl rfl
      · right; rcases h with ⟨_, _, _, rfl⟩ | ⟨_, rfl⟩ <;> simp [hg]
  · rw [findF_app, findF_none fun a ha => lt_ne (hA a ha)]
    simp only [Option.none_or, findF, beqS_self, if_true]
  · have e1 : findF (f :: B) q = findF B q := by simp only [findF]; rw [if_neg (by rw [beqS_iff]; exact fun e => hq e.symm)]
    rcases h with ⟨_, g, hg, rfl⟩ | ⟨_, rfl⟩
    · have e2 : findF (g :: B) q = findF B q := by simp only [findF]; rw [if_neg (by rw [beqS_iff, hg]; exact fun e => hq e.symm)]
      rw [findF_app, findF_app, e1, e2]
    · rw [findF_app, findF_app, e1]
theorem laid_len {l : List File} {f : File} (hl : l.length ≤ 256) : (laidL l f).length ≤ 256 := by
  cases ht : thereF l f.name with
  | true => rw [(laidE_yes ht).2, List.length_set]; exact hl
  | false =>
    by_cases hn : l.length = 256
    · rw [(laidE_full ht hn).2]; simp
    · rw [(laidE_no ht hn).2]; simp only [List.length_append, List.length_cons, List.length_take, List.length_drop]; have := @posF_le l f.name; omega
/-- A row of which a file is taken out. -/
theorem cut_facts {l : List File} {s : ByteArray} (hs : Sorted l) (ht : thereF l s = true) : Sorted (cutL l s) ∧ (∀ g ∈ cutL l s, g ∈ l) ∧ (cutL l s).length ≤ l.length ∧ findF (cutL l s) s = none ∧ (∀ q, q ≠ s → findF (cutL l s) q = findF l q) := by
  obtain ⟨A, B, hA, hB, hp, h⟩ := parts (s := s) hs
  rcases h with ⟨_, g, hg, rfl⟩ | ⟨h, _⟩
  · have hL : cutL (A ++ g :: B) s = A ++ B := by
      unfold cutL
      rw [hp, List.take_left, List.drop_append, List.drop_of_length_le (by omega), show A.length + 1 - A.length = 1 from by omega]; rfl
    have hsp := List.pairwise_append.1 hs
    rw [hL]
    refine ⟨List.pairwise_append.2 ⟨hsp.1, (List.pairwise_cons.1 hsp.2.1).2, fun a ha b hb => ltS_trans (hA a ha) (hB b hb)⟩, fun x hx => ?_, by simp, ?_, fun q hq => ?_⟩
    · rcases List.mem_append.1 hx with hx | hx <;> simp [hx]
    · refine findF_none fun x hx => ?_
      rcases List.mem_append.1 hx with hx | hx
      · exact lt_ne (hA x hx)
      · exact (lt_ne (hB x hx)).symm
    · have e2 : findF (g :: B) q = findF B q := by simp only [findF]; rw [if_neg (by rw [beqS_iff, hg]; exact fun e => hq e.symm)]
      rw [findF_app, findF_app, e2]
  · rw [ht] at h; cases h
/-- What a disk is behind a command that went well: right, and of other names as it was. -/
structure Behind (clock : Int) (l : List File) (s : ByteArray) (c' : Int) (l' : List File) : Prop where
  ok : okD c' l' = true
  self : (findF l' s = none ∧ c' = clock) ∨ ∃ f, findF l' s = some f ∧ f.stamp = c' ∧ c' = clock + 1
  others : ∀ q, q ≠ s → findF l' q = findF l q
theorem fileOk_up {clock : Int} {f : File} (h : fileOk clock f = true) : fileOk (clock + 1) f = true := by
  rw [fileOk_iff] at h ⊢; exact ⟨h.1, h.2.1, h.2.2.1, by omega⟩
theorem writ_behind {clock : Int} {l : List File} {s t : ByteArray} (hd : okD clock l = true) (hs : isName s = true) (ht : t.size ≤ 4096) (he : writE clock l ⟨s, t, clock + 1⟩ = 0) : Behind clock l s (clock + 1) (laidL l ⟨s, t, clock + 1⟩) := by
  obtain ⟨h1, h2, h3, h4, h5⟩ := okD_iff.1 hd
  have hL : laidE l ⟨s, t, clock + 1⟩ = 0 ∧ ¬ clock = 1099511627776 := by
    unfold writE at he
    split at he
    · split at he
      · cases he
      · exact ⟨‹_›, ‹_›⟩
    · exact absurd he ‹_›
  obtain ⟨q1, q2, q3, q4⟩ := laid_facts h5 hL.1
  refine ⟨okD_iff.2 ⟨by omega, by omega, laid_len h3, fun f hf => ?_, q1⟩, .inr ⟨_, q3, rfl, rfl⟩, q4⟩
  rcases q2 f hf with rfl | hf
  · exact fileOk_iff.2 ⟨hs, ht, by show (0 : Int) ≤ clock + 1; omega, Int.le_refl _⟩
  · exact fileOk_up (h4 f hf)
theorem wr_behind {clock : Int} {l : List File} {s t : ByteArray} (he : wrE clock l s t = 0) : Behind clock l s (wrC clock l s t) (wrL' clock l s t) := by
  have hC : wrC clock l s t = clock + 1 := by unfold wrC; rw [if_pos he]
  have hL : wrL' clock l s t = laidL l ⟨s, t, clock + 1⟩ := by unfold wrL'; rw [if_pos he]
  rw [hC, hL]
  unfold wrE at he
  split at he
  · split at he
    · split at he
      · cases he
      · exact writ_behind ‹_› ‹_› (by omega) he
    · cases he
  · cases he
theorem textF_le {clock : Int} {l : List File} {s : ByteArray} (hd : okD clock l = true) : (textF l s).size ≤ 4096 := by
  unfold textF
  split
  · rename_i h
    have hlt := posF_lt h
    rw [List.getD_eq_getElem?_getD, List.getElem?_eq_getElem hlt]
    exact (fileOk_iff.1 ((okD_iff.1 hd).2.2.2.1 _ (List.getElem_mem hlt))).2.1
  · exact Nat.zero_le _
theorem tc_behind {clock : Int} {l : List File} {s : ByteArray} (he : tcE clock l s = 0) : Behind clock l s (tcC clock l s) (tcL clock l s) := by
  have hC : tcC clock l s = clock + 1 := by unfold tcC; rw [if_pos he]
  have hL : tcL clock l s = laidL l ⟨s, textF l s, clock + 1⟩ := by unfold tcL; rw [if_pos he]
  rw [hC, hL]
  unfold tcE at he
  split at he
  · split at he
    · exact writ_behind ‹_› ‹_› (textF_le ‹_›) he
    · cases he
  · cases he
theorem rm_behind {clock : Int} {l : List File} {s : ByteArray} (he : rmE clock l s = 0) : Behind clock l s (rmC clock l s) (rmL clock l s) := by
  have hC : rmC clock l s = clock := by unfold rmC; rw [if_pos he]
  have hL : rmL clock l s = cutL l s := by unfold rmL; rw [if_pos he]
  rw [hC, hL]
  unfold rmE at he
  split at he
  · split at he
    · split at he
      · rename_i hd _ ht
        obtain ⟨h1, h2, h3, h4, h5⟩ := okD_iff.1 hd
        obtain ⟨q1, q2, q3, q4, q5⟩ := cut_facts h5 ht
        exact ⟨okD_iff.2 ⟨h1, h2, by omega, fun f hf => h4 f (q2 f hf), q1⟩, .inl ⟨q4, rfl⟩, q5⟩
      · cases he
    · cases he
  · cases he
/-- What is done well: the disk behind it. -/
theorem done_behind {c : Cm} {clock : Int} {l : List File} (hk : Kind c) (he : (doneOf c clock l).e = 0) :
    (wrOf c = true → Behind clock l c.dst (doneOf c clock l).clock (doneOf c clock l).files) ∧ (wrOf c = false → (doneOf c clock l).clock = clock ∧ (doneOf c clock l).files = l) := by
  have rd : ∀ {d : ByteArray} {src : List ByteArray}, (if readE clock l src = 0 then (⟨wrC clock l d (readT clock l src), wrL' clock l d (readT clock l src), .empty, 0, wrE clock l d (readT clock l src)⟩ : DR) else ⟨clock, l, .empty, 0, readE clock l src⟩).e = 0 →
      Behind clock l d (if readE clock l src = 0 then (⟨wrC clock l d (readT clock l src), wrL' clock l d (readT clock l src), .empty, 0, wrE clock l d (readT clock l src)⟩ : DR) else ⟨clock, l, .empty, 0, readE clock l src⟩).clock (if readE clock l src = 0 then (⟨wrC clock l d (readT clock l src), wrL' clock l d (readT clock l src), .empty, 0, wrE clock l d (readT clock l src)⟩ : DR) else ⟨clock, l, .empty, 0, readE clock l src⟩).files := by
    intro d src h
    split
    · rename_i hr; rw [if_pos hr] at h; exact wr_behind h
    · rename_i hr; rw [if_neg hr] at h; exact absurd h hr
  cases hk with
  | copy ha hb => exact ⟨fun _ => rd he, fun h => by cases h⟩
  | concat hd h1 h2 hl => exact ⟨fun _ => rd he, fun h => by cases h⟩
  | echo hd hw => exact ⟨fun _ => wr_behind he, fun h => by cases h⟩
  | touch hd => exact ⟨fun _ => tc_behind he, fun h => by cases h⟩
  | remove hd => exact ⟨fun _ => rm_behind he, fun h => by cases h⟩
  | @test s hs =>
    refine ⟨fun h => (by cases h), fun _ => ?_⟩
    by_cases hf : findE clock l s = 0
    · have e : doneOf ⟨6, ⟨#[]⟩, [s], [], 0⟩ clock l = ⟨clock, l, .empty, 0, 0⟩ := show (if findE clock l s = 0 then _ else _) = _ from if_pos hf
      rw [e]; exact ⟨rfl, rfl⟩
    · have e : doneOf ⟨6, ⟨#[]⟩, [s], [], 0⟩ clock l = ⟨clock, l, .empty, 1, 171⟩ := show (if findE clock l s = 0 then _ else _) = _ from if_neg hf
      rw [e]; exact ⟨rfl, rfl⟩
  | fail h1 h2 => exact ⟨fun h => (by cases h), fun _ => ⟨rfl, rfl⟩⟩
  | say hw => exact ⟨fun h => (by cases h), fun _ => ⟨rfl, rfl⟩⟩
theorem status_ne {e : Int} (h : e ≠ 0) : statusOf e ≠ 0 := by
  unfold statusOf; rw [if_neg h]
  repeat' (first | (split) | decide)
/-- A command keeps all but the target. -/
structure Keeps (n : Node) (clock : Int) (l : List File) (x : Done) : Prop where
  ok : okD x.clock x.files = true
  kept : (x.code ≠ 0 ∨ x.wrote = false) → x.clock = clock ∧ x.files = l ∧ (x.code ≠ 0 → x.said = .empty ∧ x.status ≠ 0) ∧ (x.code = 0 → x.status = 0)
  wrote : x.code = 0 → x.wrote = true → Behind clock l n.target x.clock x.files
theorem fail_keeps {n : Node} {clock e st : Int} {l : List File} (hd : okD clock l = true) (he : e ≠ 0) : Keeps n clock l (failD clock l e st) := by
  refine ⟨hd, fun _ => ⟨rfl, rfl, fun _ => ⟨rfl, ?_⟩, fun h => absurd h he⟩, fun h => absurd h he⟩
  show (if st = 0 then statusOf e else st) ≠ 0
  split
  · exact status_ne he
  · assumption
theorem do_keeps {n : Node} {t : ByteArray} {clock fail : Int} {l : List File} (hd : okD clock l = true) : Keeps n clock l (doIt n t clock l fail) := by
  unfold doIt
  split
  · exact fail_keeps hd (by decide)
  split
  · rename_i hm
    have hL : lineE t = 0 := by
      unfold mayX mayOf at hm
      by_cases he : lineE t = 0
      · exact he
      · rw [if_neg he] at hm; exact absurd hm he
    have hk := line_kind hL
    have hdst : wrOf (lineC t) = true → (lineC t).dst = n.target := by
      unfold mayX mayOf at hm
      rw [if_pos hL] at hm
      split at hm
      · rename_i q; exact q.2
      · cases hm
    unfold doneD
    split
    · rename_i he
      obtain ⟨b1, b2⟩ := done_behind hk he
      cases hw : wrOf (lineC t) with
      | true =>
        have B := b1 hw
        rw [hdst hw] at B
        exact ⟨B.ok, fun h => (by rcases h with h | h; exact absurd rfl h; cases h), fun _ _ => B⟩
      | false =>
        obtain ⟨e1, e2⟩ := b2 hw
        refine ⟨?_, fun _ => ⟨e1, e2, fun h => absurd rfl h, fun _ => rfl⟩, fun _ h => (by cases h)⟩
        show okD (doneOf (lineC t) clock l).clock (doneOf (lineC t) clock l).files = true
        rw [e1, e2]; exact hd
    · rename_i he
      exact fail_keeps hd he
  · rename_i hm
    exact fail_keeps hd hm
end Go.Proofs.YtepdiooaoegpfaaGreatDoor.Fx
end
section
/- The little program of the laws of commands that are done. Conditions: none. -/
namespace Go.Proofs.YtepdiooaoegpfaaGreatDoor.Fx
open Go Go.Proofs Go.Ev Go.RowKit
set_option maxRecDepth 100000
set_option maxHeartbeats 6400000
set_option linter.unusedSimpArgs false
set_option linter.unusedVariables false
abbrev aW : ByteArray := ⟨#[97]⟩
abbrev bW : ByteArray := ⟨#[98]⟩
abbrev tW : ByteArray := ⟨#[116]⟩
abbrev xW : ByteArray := ⟨#[120]⟩
abbrev line1 : ByteArray := ⟨#[99, 111, 112, 121, 32, 97, 32, 116]⟩
abbrev line2 : ByteArray := ⟨#[99, 111, 112, 121, 32, 98, 32, 116]⟩
abbrev fs0 : List File := [⟨aW, xW, 2⟩, ⟨bW, .empty, 1⟩]
abbrev n0 : Node := { target := tW, needs := [aW], recipe := [], has := false, source := .empty, stem := .empty, phony := false, precious := false, ignore := false, silent := false }
theorem v1 : wordsV line1 = [copyW, aW, tW] := by kernel_rfl
theorem v2 : wordsV line2 = [copyW, bW, tW] := by kernel_rfl
theorem e1 : wordsE line1 = 0 := by kernel_rfl
theorem e2 : wordsE line2 = 0 := by kernel_rfl
theorem na : isName aW = true := by kernel_rfl
theorem nb : isName bW = true := by kernel_rfl
theorem nt : isName tW = true := by kernel_rfl
theorem ok0 : okD 4 fs0 = true := by kernel_rfl
theorem alone0 : aloneOk n0 = true := by kernel_rfl
theorem do1 : doCopy n0 4 fs0 aW tW = ⟨5, [⟨aW, xW, 2⟩, ⟨bW, .empty, 1⟩, ⟨tW, xW, 5⟩], .empty, true, 0, 0⟩ := by kernel_rfl
theorem do2 : doCopy n0 4 fs0 bW tW = ⟨4, fs0, .empty, false, 3, 170⟩ := by kernel_rfl
theorem sz0 : SzN n0 := ⟨Nat.le_of_ble_eq_true rfl, ⟨Nat.le_of_ble_eq_true rfl, by intro x hx; rw [List.mem_singleton] at hx; subst hx; exact Nat.le_of_ble_eq_true rfl⟩, ⟨Nat.zero_le _, by intro x hx; cases hx⟩⟩
abbrev vN0 : AV := .agg [str tW, eS [aW], nilv, bln false, str .empty, str .empty, bln false, bln false, bln false, bln false]
theorem leqN0 {t : ByteArray} : LeqDL [vN0, str t, eD 4 fs0, i64 0] [eN n0, str t, eD 4 fs0, i64 0] := by
  refine LeqDL.cons (LeqD.agg ?_) (LeqDL.refl _)
  repeat' (first | exact LeqD.nil (by decide) | exact LeqD.refl _ | exact LeqDL.refl _ | refine LeqDL.cons ?_ ?_)
theorem c_Do1' : XPure Tryz.prog 9 [vN0, str line1, eD 4 fs0, i64 0] (.tup [eDone ⟨5, [⟨aW, xW, 2⟩, ⟨bW, .empty, 1⟩, ⟨tW, xW, 5⟩], .empty, true, 0, 0⟩, i64 0]) false := by
  have h := (c_Do_copy (t := line1) sz0 alone0 (Nat.le_of_ble_eq_true rfl) ok0 (Nat.le_of_ble_eq_true rfl) v1 e1 na nt).nils leqN0
  rwa [do1] at h
theorem c_Do2' : XPure Tryz.prog 9 [vN0, str line2, eD 4 fs0, i64 0] (.tup [eDone ⟨4, fs0, .empty, false, 3, 170⟩, i64 0]) false := by
  have h := (c_Do_copy (t := line2) sz0 alone0 (Nat.le_of_ble_eq_true rfl) ok0 (Nat.le_of_ble_eq_true rfl) v2 e2 nb nt).nils leqN0
  rwa [do2] at h
end Go.Proofs.YtepdiooaoegpfaaGreatDoor.Fx
end
section
/- The little program of the laws of commands that are done. Conditions: none. -/
namespace Go.Proofs.YtepdiooaoegpfaaGreatDoor.Fx
open Go Go.Proofs Go.Ev Go.RowKit
set_option maxRecDepth 100000
set_option maxHeartbeats 6400000
set_option linter.unusedSimpArgs false
set_option linter.unusedVariables false
theorem absF {b : Bool} (h1 : b = false) (h2 : b = true) : False := by rw [h2] at h1; cases h1
theorem xargs {P : Program} {f : FuncId} {args args' : List AV} {r : AV} {ow : Bool} (h : args = args') (hx : XPure P f args' r ow) : XPure P f args r ow := h ▸ hx
theorem c_small : XPure Tryz.prog 13 [] (bln true) false := by
  refine XPure.body ⟨_, Tryz.func13, rfl, by kernel_rfl⟩ Tryz.func13 rfl (Nat.le_of_ble_eq_true (by rfl)) (pf_of1 rfl) fun env => ?_
  repeat' ((conv => whnf); (fail_if_success (with_reducible show ∃ _, _ ∧ _ ∧ Weak _ _ _)); first | ((with_reducible show guardA _ _ _ _ _ _ ∨ _); first | (refine .inr ?_; (conv => whnf); refine ⟨_, ?_, fun h => rfl, rfl, ?_⟩; ((conv => whnf); first | exact trivial | (refine ⟨?_, trivial⟩; exact okG))) | (refine .inr ?_; (conv => whnf); refine ⟨_, trivial, fun h => ⟨?_, ?_, ?_, rfl⟩, rfl, ?_⟩; (first | exact h | rfl); exact okG; exact okG) | refine .inl ?_) | refine cY ?_ | refine cN ?_ | refine gA ?_ | refine gB ?_ | refine gC ?_ | ((first | refine gsT (fun h => ?_) (fun h => ?_) | refine gsF (fun h => ?_) (fun h => ?_) | refine ⟨fun h => ?_, fun h => ?_⟩) <;> (have hs := h; try simp only [cs, reduceCtorEq, Int.reduceEq, Int.reduceNe, Int.reduceLT, Int.reduceLE, Int.reduceBEq, Int.reduceBNe] at hs)) | ((with_reducible show _ ∧ _ ∧ Weak _ _ _); refine ⟨?_, ?_, Weak.go⟩; (omega)) | ((with_reducible show (_ ∧ _ ∧ _) ∧ _); refine ⟨⟨by kernel_rfl, by kernel_rfl, by rfl⟩, ?_⟩) | ((with_reducible show AV.pf _ = true ∧ _); refine pfA ?_) | (refine ⟨rfl, ?_, ?_, ?_⟩; exact okG; exact okG) | ((with_reducible show (_ ∨ _) ∧ _ ∧ retA _ _ _ _ _); refine ⟨?_, rfl, ?_⟩; (first | exact .inr rfl | exact .inl rfl)) | ((with_reducible show _ = _ ∧ _ = false ∧ _ = _); refine ⟨?_, rfl, rfl⟩; try (skip)) | ((with_reducible show LeqD _ _); try (first | exact okN | (skip)); done) | ((with_reducible show _ = _ ∧ (_ → _)); refine ⟨?_, ?_⟩; try (skip)) | exact fun h => h | exact fun _ => rfl | refine ⟨rfl, ?_⟩ | (refine ⟨Nat.le_of_ble_eq_true rfl, ?_⟩) | (refine ⟨?_, ?_, ?_⟩; exact okS; exact okS) | (refine ⟨?_, ?_⟩; exact okS) | fail)
  refine .inl ⟨_, _, xargs (args' := [vN0, str line1, eD 4 fs0, i64 0]) (by kernel_rfl) c_Do1', ?_⟩
  iterate 10 any_goals try ((conv => whnf); (fail_if_success (with_reducible show ∃ _, _ ∧ _ ∧ Weak _ _ _)); first | ((with_reducible show guardA _ _ _ _ _ _ ∨ _); first | (refine .inr ?_; (conv => whnf); refine ⟨_, ?_, fun h => rfl, rfl, ?_⟩; ((conv => whnf); first | exact trivial | (refine ⟨?_, trivial⟩; exact okG))) | (refine .inr ?_; (conv => whnf); refine ⟨_, trivial, fun h => ⟨?_, ?_, ?_, rfl⟩, rfl, ?_⟩; (first | exact h | rfl); exact okG; exact okG) | refine .inl ?_) | refine cY ?_ | refine cN ?_ | refine gA ?_ | refine gB ?_ | refine gC ?_ | ((first | refine gsT (fun h => ?_) (fun h => ?_) | refine gsF (fun h => ?_) (fun h => ?_) | refine ⟨fun h => ?_, fun h => ?_⟩) <;> (have hs := h; try simp only [cs, reduceCtorEq, Int.reduceEq, Int.reduceNe, Int.reduceLT, Int.reduceLE, Int.reduceBEq, Int.reduceBNe] at hs)) | ((with_reducible show _ ∧ _ ∧ Weak _ _ _); refine ⟨?_, ?_, Weak.go⟩; (omega)) | ((with_reducible show (_ ∧ _ ∧ _) ∧ _); refine ⟨⟨by kernel_rfl, by kernel_rfl, by rfl⟩, ?_⟩) | ((with_reducible show AV.pf _ = true ∧ _); refine pfA ?_) | (refine ⟨rfl, ?_, ?_, ?_⟩; exact okG; exact okG) | ((with_reducible show (_ ∨ _) ∧ _ ∧ retA _ _ _ _ _); refine ⟨?_, rfl, ?_⟩; (first | exact .inr rfl | exact .inl rfl)) | ((with_reducible show _ = _ ∧ _ = false ∧ _ = _); refine ⟨?_, rfl, rfl⟩; try (skip)) | ((with_reducible show LeqD _ _); try (first | exact okN | (skip)); done) | ((with_reducible show _ = _ ∧ (_ → _)); refine ⟨?_, ?_⟩; try (skip)) | exact fun h => h | exact fun _ => rfl | refine ⟨rfl, ?_⟩ | (refine ⟨Nat.le_of_ble_eq_true rfl, ?_⟩) | (refine ⟨?_, ?_, ?_⟩; exact okS; exact okS) | (refine ⟨?_, ?_⟩; exact okS) | fail)
  refine .inl ⟨_, _, xargs (args' := [vN0, str line2, eD 4 fs0, i64 0]) (by kernel_rfl) c_Do2', ?_⟩
  repeat' ((conv => whnf); (fail_if_success (with_reducible show ∃ _, _ ∧ _ ∧ Weak _ _ _)); first | ((with_reducible show guardA _ _ _ _ _ _ ∨ _); first | refine .inl ?_) | refine cY ?_ (by first | (with_reducible first | rfl | assumption) | decide) | refine cN ?_ (by first | (with_reducible first | rfl | assumption) | decide) | refine gA ?_ (by first | (with_reducible first | rfl | assumption) | decide) | refine gB ?_ (by first | (with_reducible first | rfl | assumption) | decide) | refine gC ?_ (by first | (with_reducible first | rfl | assumption) | decide) | ((first | refine gsT (fun h => ?_) (fun h => ?_) | refine gsF (fun h => ?_) (fun h => ?_) | refine ⟨fun h => ?_, fun h => ?_⟩) <;> (have hs := h; try simp only [cs, reduceCtorEq, Int.reduceEq, Int.reduceNe, Int.reduceLT, Int.reduceLE, Int.reduceBEq, Int.reduceBNe] at hs)) | ((with_reducible show _ ∧ _ ∧ Weak _ _ _); refine ⟨?_, ?_, Weak.go⟩; (omega)) | ((with_reducible show (_ ∧ _ ∧ _) ∧ _); refine ⟨⟨by kernel_rfl, by kernel_rfl, by rfl⟩, ?_⟩) | ((with_reducible show AV.pf _ = true ∧ _); refine pfA ?_) | (refine ⟨rfl, ?_, ?_, ?_⟩; exact okG; exact okG) | ((with_reducible show (_ ∨ _) ∧ _ ∧ retA _ _ _ _ _); refine ⟨?_, rfl, ?_⟩; (first | exact .inr rfl | exact .inl rfl)) | ((with_reducible show _ = _ ∧ _ = false ∧ _ = _); refine ⟨?_, rfl, rfl⟩; try (skip)) | ((with_reducible show LeqD _ _); try (first | exact okN | (skip)); done) | ((with_reducible show _ = _ ∧ (_ → _)); refine ⟨?_, ?_⟩; try (skip)) | exact fun h => h | exact fun _ => rfl | refine ⟨rfl, ?_⟩ | (refine ⟨Nat.le_of_ble_eq_true rfl, ?_⟩) | (refine ⟨?_, ?_, ?_⟩; exact okS; exact okS) | (refine ⟨?_, ?_⟩; exact okS) | fail)
  all_goals try exact (absF h (by kernel_rfl)).elim
  · conv => whnf
    refine .inl ⟨_, _, xargs (args' := [eD 4 fs0, eD 4 fs0]) (by kernel_rfl) (c_plain_Disk (l := fs0) (m := fs0) (Nat.le_of_ble_eq_true rfl) (Nat.le_of_ble_eq_true rfl)), ?_⟩
    repeat' ((conv => whnf); (fail_if_success (with_reducible show ∃ _, _ ∧ _ ∧ Weak _ _ _)); first | ((with_reducible show guardA _ _ _ _ _ _ ∨ _); first | refine .inl ?_) | refine cY ?_ (by first | (with_reducible first | rfl | assumption) | decide) | refine cN ?_ (by first | (with_reducible first | rfl | assumption) | decide) | refine gA ?_ (by first | (with_reducible first | rfl | assumption) | decide) | refine gB ?_ (by first | (with_reducible first | rfl | assumption) | decide) | refine gC ?_ (by first | (with_reducible first | rfl | assumption) | decide) | ((first | refine gsT (fun h => ?_) (fun h => ?_) | refine gsF (fun h => ?_) (fun h => ?_) | refine ⟨fun h => ?_, fun h => ?_⟩) <;> (have hs := h; try simp only [cs, reduceCtorEq, Int.reduceEq, Int.reduceNe, Int.reduceLT, Int.reduceLE, Int.reduceBEq, Int.reduceBNe] at hs)) | ((with_reducible show _ ∧ _ ∧ Weak _ _ _); refine ⟨?_, ?_, Weak.go⟩; (omega)) | ((with_reducible show (_ ∧ _ ∧ _) ∧ _); refine ⟨⟨by kernel_rfl, by kernel_rfl, by rfl⟩, ?_⟩) | ((with_reducible show AV.pf _ = true ∧ _); refine pfA ?_) | (refine ⟨rfl, ?_, ?_, ?_⟩; exact okG; exact okG) | ((with_reducible show (_ ∨ _) ∧ _ ∧ retA _ _ _ _ _); refine ⟨?_, rfl, ?_⟩; (first | exact .inr rfl | exact .inl rfl)) | ((with_reducible show _ = _ ∧ _ = false ∧ _ = _); refine ⟨?_, rfl, rfl⟩; try (skip)) | ((with_reducible show LeqD _ _); try (first | exact okN | (skip)); done) | ((with_reducible show _ = _ ∧ (_ → _)); refine ⟨?_, ?_⟩; try (skip)) | exact fun h => h | exact fun _ => rfl | refine ⟨rfl, ?_⟩ | (refine ⟨Nat.le_of_ble_eq_true rfl, ?_⟩) | (refine ⟨?_, ?_, ?_⟩; exact okS; exact okS) | (refine ⟨?_, ?_⟩; exact okS) | fail)
    all_goals kernel_rfl
end Go.Proofs.YtepdiooaoegpfaaGreatDoor.Fx
end
section
/- The law ExecMays as a function: always true. Conditions: the sizes that a row tells. -/
namespace Go.Proofs.YtepdiooaoegpfaaGreatDoor.Fx
open Go Go.Proofs Go.Ev Go.RowKit
set_option maxRecDepth 100000
set_option maxHeartbeats 6400000
set_option linter.unusedSimpArgs false
set_option linter.unusedVariables false
abbrev eCase (n : Node) (t : ByteArray) (c : Int) (l : List File) (k : Int) : AV := .agg [str n.target, eS n.needs, eS n.recipe, bln n.has, str n.source, str n.stem, bln n.phony, bln n.precious, bln n.ignore, bln n.silent, str t, i64 c, eFs l, i64 k]
end Go.Proofs.YtepdiooaoegpfaaGreatDoor.Fx
end
