/- Written by programs of this session: laws and contracts that the law's proof stands on, merged into one text. Conditions: none beyond those in each statement. -/
import Derived.Test.YtepdiooaoegpfaaGreatDoorPkFx11
import Derived.Test.YtepdiooaoegpfaaGreatDoorPkEv10
import Derived.Test.YtepdiooaoegpfaaGreatDoorRows
section
/- The law ExecKeeps as a function: always true. Conditions: the sizes that a row tells. -/
namespace Go.Proofs.YtepdiooaoegpfaaGreatDoor.Fx
open Go Go.Proofs Go.Ev Go.RowKit
set_option maxRecDepth 100000
set_option maxHeartbeats 6400000
set_option linter.unusedSimpArgs false
set_option linter.unusedVariables false
theorem sameGo_refl : ∀ l : List File, sameGo l l = true
  | [] => rfl
  | f :: r => by
    have h : sameF f f = true := by simp [sameF, beqS_self]
    unfold sameGo; rw [h, sameGo_refl r]; rfl
theorem sameFs_refl (l : List File) : sameFs l l = true := by unfold sameFs; rw [sameGo_refl]; simp
theorem c_Disk_self {clock : Int} {l : List File} (hl : l.length ≤ 1000000000) : XPure Tryz.prog 12 [eD clock l, eD clock l] (bln true) false := by
  have h := c_plain_Disk (a := clock) (b := clock) hl hl
  rwa [sameFs_refl, show ((clock == clock) && true) = true from by simp] at h
theorem c_Done_zero : XPure Tryz.prog 11 [eDone noD, .agg [i64 0, nilv, str ⟨#[]⟩, bln false, i64 0, i64 0]] (bln true) false := by
  have h := (c_plain_Done (x := noD) (y := noD) (Nat.zero_le _) (Nat.zero_le _)).nils (args := [eDone noD, .agg [i64 0, nilv, str ⟨#[]⟩, bln false, i64 0, i64 0]])
  rwa [show noD.same noD = true from by simp [Done.same, noD, beqS_self, sameFs_refl]] at h
theorem keeps_err {n : Node} {t : ByteArray} {clock k e : Int} {l : List File} (hD : XPure Tryz.prog 9 [eN n, str t, eD clock l, i64 k] (.tup [eDone noD, i64 e]) false) (he : (e != 0) = true) : XPure Tryz.prog 4 [eCase n t clock l k] (bln true) false := by
  refine XPure.body ⟨_, Tryz.func4, rfl, by kernel_rfl⟩ Tryz.func4 rfl (Nat.le_of_ble_eq_true (by rfl)) (pf_of1 rfl) fun env => ?_
  repeat' ((conv => whnf); (fail_if_success (with_reducible show ∃ _, _ ∧ _ ∧ Weak _ _ _)); first | ((with_reducible show guardA _ _ _ _ _ _ ∨ _); first | (refine .inr ?_; (conv => whnf); refine ⟨_, ?_, fun h => rfl, rfl, ?_⟩; ((conv => whnf); first | exact trivial | (refine ⟨?_, trivial⟩; exact okG))) | (refine .inr ?_; (conv => whnf); refine ⟨_, trivial, fun h => ⟨?_, ?_, ?_, rfl⟩, rfl, ?_⟩; (first | exact h | rfl); exact okG; exact okG) | refine .inl ?_) | refine cY ?_ (by first | (with_reducible first | rfl | assumption) | decide) | refine cN ?_ (by first | (with_reducible first | rfl | assumption) | decide) | refine gA ?_ (by first | (with_reducible first | rfl | assumption) | decide) | refine gB ?_ (by first | (with_reducible first | rfl | assumption) | decide) | refine gC ?_ (by first | (with_reducible first | rfl | assumption) | decide) | ((first | refine gsT (fun h => ?_) (fun h => ?_) | refine gsF (fun h => ?_) (fun h => ?_) | refine ⟨fun h => ?_, fun h => ?_⟩) <;> (have hs := h; try simp only [cs, reduceCtorEq, Int.reduceEq, Int.reduceNe, Int.reduceLT, Int.reduceLE, Int.reduceBEq, Int.reduceBNe] at hs)) | (refine .inl ⟨_, _, hD, ?_⟩) | (refine .inl ⟨_, _, c_Done_zero, ?_⟩) | (refine .inl ⟨_, _, c_small, ?_⟩) | ((with_reducible show _ ∧ _ ∧ Weak _ _ _); refine ⟨?_, ?_, Weak.go⟩; (omega)) | ((with_reducible show (_ ∧ _ ∧ _) ∧ _); refine ⟨⟨by kernel_rfl, by kernel_rfl, by rfl⟩, ?_⟩) | ((with_reducible show AV.pf _ = true ∧ _); refine pfA ?_) | (refine ⟨rfl, ?_, ?_, ?_⟩; exact okG; exact okG) | ((with_reducible show (_ ∨ _) ∧ _ ∧ retA _ _ _ _ _); refine ⟨?_, rfl, ?_⟩; (first | exact .inr rfl | exact .inl rfl)) | ((with_reducible show _ = _ ∧ _ = false ∧ _ = _); refine ⟨?_, rfl, rfl⟩; try (first | rfl | (conv => lhs; whnf))) | ((with_reducible show LeqD _ _); try (first | exact okN | (first | rfl | (conv => lhs; whnf))); done) | ((with_reducible show _ = _ ∧ (_ → _)); refine ⟨?_, ?_⟩; try (first | rfl | (conv => lhs; whnf))) | exact fun h => h | exact fun _ => rfl | refine ⟨rfl, ?_⟩ | (refine ⟨Nat.le_of_ble_eq_true rfl, ?_⟩) | (refine ⟨?_, ?_, ?_⟩; exact okS; exact okS) | (refine ⟨?_, ?_⟩; exact okS) | fail)
theorem keeps_bad {n : Node} {t : ByteArray} {clock k cd st : Int} {l : List File} {wr : Bool} (hl : l.length ≤ 1000000000) (hC : XPure Tryz.prog 14 [eD clock l] (i64 0) false)
    (hD : XPure Tryz.prog 9 [eN n, str t, eD clock l, i64 k] (.tup [eDone ⟨clock, l, ⟨#[]⟩, wr, st, cd⟩, i64 0]) false) (h1 : (cd != 0) = true) (h2 : (cd == 0) = false) (h3 : (st == 0) = false) : XPure Tryz.prog 4 [eCase n t clock l k] (bln true) false := by
  refine XPure.body ⟨_, Tryz.func4, rfl, by kernel_rfl⟩ Tryz.func4 rfl (Nat.le_of_ble_eq_true (by rfl)) (pf_of1 rfl) fun env => ?_
  repeat' ((conv => whnf); (fail_if_success (with_reducible show ∃ _, _ ∧ _ ∧ Weak _ _ _)); first | ((with_reducible show guardA _ _ _ _ _ _ ∨ _); first | (refine .inr ?_; (conv => whnf); refine ⟨_, ?_, fun h => rfl, rfl, ?_⟩; ((conv => whnf); first | exact trivial | (refine ⟨?_, trivial⟩; exact okG))) | (refine .inr ?_; (conv => whnf); refine ⟨_, trivial, fun h => ⟨?_, ?_, ?_, rfl⟩, rfl, ?_⟩; (first | exact h | rfl); exact okG; exact okG) | refine .inl ?_) | refine cY ?_ (by first | (with_reducible first | rfl | assumption) | decide) | refine cN ?_ (by first | (with_reducible first | rfl | assumption) | decide) | refine gA ?_ (by first | (with_reducible first | rfl | assumption) | decide) | refine gB ?_ (by first | (with_reducible first | rfl | assumption) | decide) | refine gC ?_ (by first | (with_reducible first | rfl | assumption) | decide) | ((first | refine gsT (fun h => ?_) (fun h => ?_) | refine gsF (fun h => ?_) (fun h => ?_) | refine ⟨fun h => ?_, fun h => ?_⟩) <;> (have hs := h; try simp only [cs, reduceCtorEq, Int.reduceEq, Int.reduceNe, Int.reduceLT, Int.reduceLE, Int.reduceBEq, Int.reduceBNe] at hs)) | (refine .inl ⟨_, _, hD, ?_⟩) | (refine .inl ⟨_, _, hC, ?_⟩) | (refine .inl ⟨_, _, c_Disk_self hl, ?_⟩) | (refine .inl ⟨_, _, c_small, ?_⟩) | ((with_reducible show _ ∧ _ ∧ Weak _ _ _); refine ⟨?_, ?_, Weak.go⟩; (omega)) | ((with_reducible show (_ ∧ _ ∧ _) ∧ _); refine ⟨⟨by kernel_rfl, by kernel_rfl, by rfl⟩, ?_⟩) | ((with_reducible show AV.pf _ = true ∧ _); refine pfA ?_) | (refine ⟨rfl, ?_, ?_, ?_⟩; exact okG; exact okG) | ((with_reducible show (_ ∨ _) ∧ _ ∧ retA _ _ _ _ _); refine ⟨?_, rfl, ?_⟩; (first | exact .inr rfl | exact .inl rfl)) | ((with_reducible show _ = _ ∧ _ = false ∧ _ = _); refine ⟨?_, rfl, rfl⟩; try (first | rfl | (conv => lhs; whnf))) | ((with_reducible show LeqD _ _); try (first | exact okN | (first | rfl | (conv => lhs; whnf))); done) | ((with_reducible show _ = _ ∧ (_ → _)); refine ⟨?_, ?_⟩; try (first | rfl | (conv => lhs; whnf))) | exact fun h => h | exact fun _ => rfl | refine ⟨rfl, ?_⟩ | (refine ⟨Nat.le_of_ble_eq_true rfl, ?_⟩) | (refine ⟨?_, ?_, ?_⟩; exact okS; exact okS) | (refine ⟨?_, ?_⟩; exact okS) | fail)
  all_goals (exfalso; have h3' : ¬ st = 0 := by simpa using h3
             exact h3' hs.2)
theorem keeps_not {n : Node} {t : ByteArray} {clock k : Int} {l : List File} {sd : ByteArray} (hl : l.length ≤ 1000000000) (hC : XPure Tryz.prog 14 [eD clock l] (i64 0) false)
    (hD : XPure Tryz.prog 9 [eN n, str t, eD clock l, i64 k] (.tup [eDone ⟨clock, l, sd, false, 0, 0⟩, i64 0]) false) : XPure Tryz.prog 4 [eCase n t clock l k] (bln true) false := by
  refine XPure.body ⟨_, Tryz.func4, rfl, by kernel_rfl⟩ Tryz.func4 rfl (Nat.le_of_ble_eq_true (by rfl)) (pf_of1 rfl) fun env => ?_
  repeat' ((conv => whnf); (fail_if_success (with_reducible show ∃ _, _ ∧ _ ∧ Weak _ _ _)); first | ((with_reducible show guardA _ _ _ _ _ _ ∨ _); first | (refine .inr ?_; (conv => whnf); refine ⟨_, ?_, fun h => rfl, rfl, ?_⟩; ((conv => whnf); first | exact trivial | (refine ⟨?_, trivial⟩; exact okG))) | (refine .inr ?_; (conv => whnf); refine ⟨_, trivial, fun h => ⟨?_, ?_, ?_, rfl⟩, rfl, ?_⟩; (first | exact h | rfl); exact okG; exact okG) | refine .inl ?_) | refine cY ?_ (by first | (with_reducible first | rfl | assumption) | decide) | refine cN ?_ (by first | (with_reducible first | rfl | assumption) | decide) | refine gA ?_ (by first | (with_reducible first | rfl | assumption) | decide) | refine gB ?_ (by first | (with_reducible first | rfl | assumption) | decide) | refine gC ?_ (by first | (with_reducible first | rfl | assumption) | decide) | ((first | refine gsT (fun h => ?_) (fun h => ?_) | refine gsF (fun h => ?_) (fun h => ?_) | refine ⟨fun h => ?_, fun h => ?_⟩) <;> (have hs := h; try simp only [cs, reduceCtorEq, Int.reduceEq, Int.reduceNe, Int.reduceLT, Int.reduceLE, Int.reduceBEq, Int.reduceBNe] at hs)) | (refine .inl ⟨_, _, hD, ?_⟩) | (refine .inl ⟨_, _, hC, ?_⟩) | (refine .inl ⟨_, _, c_Disk_self hl, ?_⟩) | (refine .inl ⟨_, _, c_small, ?_⟩) | ((with_reducible show _ ∧ _ ∧ Weak _ _ _); refine ⟨?_, ?_, Weak.go⟩; (omega)) | ((with_reducible show (_ ∧ _ ∧ _) ∧ _); refine ⟨⟨by kernel_rfl, by kernel_rfl, by rfl⟩, ?_⟩) | ((with_reducible show AV.pf _ = true ∧ _); refine pfA ?_) | (refine ⟨rfl, ?_, ?_, ?_⟩; exact okG; exact okG) | ((with_reducible show (_ ∨ _) ∧ _ ∧ retA _ _ _ _ _); refine ⟨?_, rfl, ?_⟩; (first | exact .inr rfl | exact .inl rfl)) | ((with_reducible show _ = _ ∧ _ = false ∧ _ = _); refine ⟨?_, rfl, rfl⟩; try (first | rfl | (conv => lhs; whnf))) | ((with_reducible show LeqD _ _); try (first | exact okN | (first | rfl | (conv => lhs; whnf))); done) | ((with_reducible show _ = _ ∧ (_ → _)); refine ⟨?_, ?_⟩; try (first | rfl | (conv => lhs; whnf))) | exact fun h => h | exact fun _ => rfl | refine ⟨rfl, ?_⟩ | (refine ⟨Nat.le_of_ble_eq_true rfl, ?_⟩) | (refine ⟨?_, ?_, ?_⟩; exact okS; exact okS) | (refine ⟨?_, ?_⟩; exact okS) | fail)
theorem keeps_yes {n : Node} {t : ByteArray} {clock k xc st : Int} {l xf : List File} {sd : ByteArray} {fF : File} {there : Bool} (hl : l.length ≤ 1000000000) (hx : xf.length ≤ 1000000000) (hC : XPure Tryz.prog 14 [eD xc xf] (i64 0) false)
    (hD : XPure Tryz.prog 9 [eN n, str t, eD clock l, i64 k] (.tup [eDone ⟨xc, xf, sd, true, st, 0⟩, i64 0]) false) (hF : XPure Tryz.prog 15 [eD xc xf, str n.target] (.tup [eF fF, bln there]) false)
    (h1 : there = true → (fF.stamp != xc) = false ∧ (fF.stamp != IntKind.i64.wrap (clock + 1)) = false) (h2 : there = false → (xc != clock) = false)
    (hO : ∀ i, i < l.length → ¬ (l.getD i File.none).name = n.target → findF xf (l.getD i File.none).name = some (l.getD i File.none)) (hP : ∀ i, i < xf.length → ¬ (xf.getD i File.none).name = n.target → findF l (xf.getD i File.none).name = some (xf.getD i File.none)) : XPure Tryz.prog 4 [eCase n t clock l k] (bln true) false := by
  cases there
  all_goals first | obtain ⟨p1, p2⟩ := h1 rfl | have p3 := h2 rfl
  all_goals
    refine XPure.body ⟨_, Tryz.func4, rfl, by kernel_rfl⟩ Tryz.func4 rfl (Nat.le_of_ble_eq_true (by rfl)) (pf_of1 rfl) fun env => ?_
    repeat' ((conv => whnf); (fail_if_success (with_reducible show ∃ _, _ ∧ _ ∧ Weak _ _ _)); first | ((with_reducible show guardA _ _ _ _ _ _ ∨ _); first | refine .inl ?_) | refine cY ?_ (by first | (with_reducible first | rfl | assumption) | grind [beqS_self]) | refine cN ?_ (by first | (with_reducible first | rfl | assumption) | grind [beqS_self]) | refine gA ?_ (by first | (with_reducible first | rfl | assumption) | grind [beqS_self]) | refine gB ?_ (by first | (with_reducible first | rfl | assumption) | grind [beqS_self]) | refine gC ?_ (by first | (with_reducible first | rfl | assumption) | grind [beqS_self]) | ((first | refine gsT (fun h => ?_) (fun h => ?_) | refine gsF (fun h => ?_) (fun h => ?_) | refine ⟨fun h => ?_, fun h => ?_⟩) <;> (have hs := h; try simp only [cs, reduceCtorEq, Int.reduceEq, Int.reduceNe, Int.reduceLT, Int.reduceLE, Int.reduceBEq, Int.reduceBNe] at hs)) | (refine .inl ⟨_, _, hD, ?_⟩) | (refine .inl ⟨_, _, hC, ?_⟩) | (refine .inl ⟨_, _, hF, ?_⟩) | (refine .inl ⟨_, _, c_small, ?_⟩) | ((with_reducible show _ ∧ _ ∧ Weak _ _ _); refine ⟨?_, ?_, Weak.go⟩; (omega)) | ((with_reducible show (_ ∧ _ ∧ _) ∧ _); refine ⟨⟨by kernel_rfl, by kernel_rfl, by rfl⟩, ?_⟩) | ((with_reducible show AV.pf _ = true ∧ _); refine pfA ?_) | (refine ⟨rfl, ?_, ?_, ?_⟩; exact okG; exact okG) | ((with_reducible show (_ ∨ _) ∧ _ ∧ retA _ _ _ _ _); refine ⟨?_, rfl, ?_⟩; (first | exact .inr rfl | exact .inl rfl)) | ((with_reducible show _ = _ ∧ _ = false ∧ _ = _); refine ⟨?_, rfl, rfl⟩; try (first | rfl | (conv => lhs; whnf))) | ((with_reducible show LeqD _ _); try (first | exact okN | (first | rfl | (conv => lhs; whnf))); done) | ((with_reducible show _ = _ ∧ (_ → _)); refine ⟨?_, ?_⟩; try (first | rfl | (conv => lhs; whnf))) | exact fun h => h | exact fun _ => rfl | refine ⟨rfl, ?_⟩ | (refine ⟨Nat.le_of_ble_eq_true rfl, ?_⟩) | (refine ⟨?_, ?_, ?_⟩; exact okS; exact okS) | (refine ⟨?_, ?_⟩; exact okS) | fail)
    refine XW.countL l.length [1, 3, 121, 122] (fun i => [(123, i64 i)]) (fun _ => []) (fun i => [.cells (eCase n t clock l k).leaves [], .cells (eDone ⟨xc, xf, sd, true, st, 0⟩).leaves [], .cells (eF fF).leaves []]) (fun _ => True) Weak.go trivial ?_
    intro i hi hA
    refine codeS ?_
    obtain ⟨o, ho⟩ : ∃ o, findF xf (l.getD i File.none).name = o := ⟨_, rfl⟩
    have hFile := c_ref13_File (clock := xc) (s := (l.getD i File.none).name) hx
    rw [ho] at hFile
    obtain ⟨fh, hfh⟩ : ∃ fh, o.getD File.none = fh := ⟨_, rfl⟩
    obtain ⟨fb, hfb⟩ : ∃ fb, o.isSome = fb := ⟨_, rfl⟩
    unfold eOF at hFile
    rw [hfh, hfb] at hFile
    rcases Nat.lt_or_ge i l.length with hlt | hge
    · by_cases hn : (l.getD i File.none).name = n.target
      · have hb : (!beqS (l.getD i File.none).name n.target) = false := by rw [beqS_iff.2 hn]; rfl
        have hi' : decide ((i : Int) < ((l.map eF).length : Int)) = true := by rw [List.length_map]; exact decide_eq_true (by omega)
        repeat' ((conv => whnf); (fail_if_success (with_reducible show ∃ _, _ ∧ _ ∧ Weak _ _ _)); first | ((with_reducible show guardA _ _ _ _ _ _ ∨ _); first | refine .inl ?_) | refine cY ?_ | refine cN ?_ | refine gA ?_ | refine gB ?_ | refine gC ?_ | ((first | refine gsT (fun h => ?_) (fun h => ?_) | refine gsF (fun h => ?_) (fun h => ?_) | refine ⟨fun h => ?_, fun h => ?_⟩) <;> (have hs := h; try simp only [cs, reduceCtorEq, Int.reduceEq, Int.reduceNe, Int.reduceLT, Int.reduceLE, Int.reduceBEq, Int.reduceBNe] at hs)) | (refine .inl ⟨_, _, hFile, ?_⟩) | ((with_reducible show _ ∧ _ ∧ Weak _ _ _); refine ⟨?_, ?_, Weak.go⟩; (omega)) | ((with_reducible show (_ ∧ _ ∧ _) ∧ _); refine ⟨⟨by kernel_rfl, by kernel_rfl, by rfl⟩, ?_⟩) | ((with_reducible show AV.pf _ = true ∧ _); refine pfA ?_) | (refine ⟨rfl, ?_, ?_, ?_⟩; exact okG; exact okG) | ((with_reducible show (_ ∨ _) ∧ _ ∧ retA _ _ _ _ _); refine ⟨?_, rfl, ?_⟩; (first | exact .inr rfl | exact .inl rfl)) | ((with_reducible show _ = _ ∧ _ = false ∧ _ = _); refine ⟨?_, rfl, rfl⟩; try (first | rfl | (conv => lhs; whnf))) | ((with_reducible show LeqD _ _); try (first | exact okN | (first | rfl | (conv => lhs; whnf))); done) | ((with_reducible show _ = _ ∧ (_ → _)); refine ⟨?_, ?_⟩; try (first | rfl | (conv => lhs; whnf))) | exact fun h => h | exact fun _ => rfl | refine ⟨rfl, ?_⟩ | (refine ⟨Nat.le_of_ble_eq_true rfl, ?_⟩) | (refine ⟨?_, ?_, ?_⟩; exact okS; exact okS) | (refine ⟨?_, ?_⟩; exact okS) | rw [getD_mapI (File.none) (by omega)] | rw [getD_map (File.none) (by omega)] | fail)
        all_goals exact trivial
      · have hb : (!beqS (l.getD i File.none).name n.target) = true := by rw [beqS_no.2 hn]; rfl
        have hi' : decide ((i : Int) < ((l.map eF).length : Int)) = true := by rw [List.length_map]; exact decide_eq_true (by omega)
        rw [hO i hlt hn] at ho
        subst ho
        subst hfh hfb
        repeat' ((conv => whnf); (fail_if_success (with_reducible show ∃ _, _ ∧ _ ∧ Weak _ _ _)); first | ((with_reducible show guardA _ _ _ _ _ _ ∨ _); first | refine .inl ?_) | refine cY ?_ (by first | (with_reducible first | rfl | assumption) | grind [beqS_self]) | refine cN ?_ (by first | (with_reducible first | rfl | assumption) | grind [beqS_self]) | refine gA ?_ (by first | (with_reducible first | rfl | assumption) | grind [beqS_self]) | refine gB ?_ (by first | (with_reducible first | rfl | assumption) | grind [beqS_self]) | refine gC ?_ (by first | (with_reducible first | rfl | assumption) | grind [beqS_self]) | ((first | refine gsT (fun h => ?_) (fun h => ?_) | refine gsF (fun h => ?_) (fun h => ?_) | refine ⟨fun h => ?_, fun h => ?_⟩) <;> (have hs := h; try simp only [cs, reduceCtorEq, Int.reduceEq, Int.reduceNe, Int.reduceLT, Int.reduceLE, Int.reduceBEq, Int.reduceBNe] at hs)) | (refine .inl ⟨_, _, hFile, ?_⟩) | ((with_reducible show _ ∧ _ ∧ Weak _ _ _); refine ⟨?_, ?_, Weak.go⟩; (omega)) | ((with_reducible show (_ ∧ _ ∧ _) ∧ _); refine ⟨⟨by kernel_rfl, by kernel_rfl, by rfl⟩, ?_⟩) | ((with_reducible show AV.pf _ = true ∧ _); refine pfA ?_) | (refine ⟨rfl, ?_, ?_, ?_⟩; exact okG; exact okG) | ((with_reducible show (_ ∨ _) ∧ _ ∧ retA _ _ _ _ _); refine ⟨?_, rfl, ?_⟩; (first | exact .inr rfl | exact .inl rfl)) | ((with_reducible show _ = _ ∧ _ = false ∧ _ = _); refine ⟨?_, rfl, rfl⟩; try (first | rfl | (conv => lhs; whnf))) | ((with_reducible show LeqD _ _); try (first | exact okN | (first | rfl | (conv => lhs; whnf))); done) | ((with_reducible show _ = _ ∧ (_ → _)); refine ⟨?_, ?_⟩; try (first | rfl | (conv => lhs; whnf))) | exact fun h => h | exact fun _ => rfl | refine ⟨rfl, ?_⟩ | (refine ⟨Nat.le_of_ble_eq_true rfl, ?_⟩) | (refine ⟨?_, ?_, ?_⟩; exact okS; exact okS) | (refine ⟨?_, ?_⟩; exact okS) | rw [getD_mapI (File.none) (by omega)] | rw [getD_map (File.none) (by omega)] | fail)
        all_goals exact trivial
    · have hi' : decide ((i : Int) < ((l.map eF).length : Int)) = false := by rw [List.length_map]; exact decide_eq_false (by omega)
      repeat' ((conv => whnf); (fail_if_success (with_reducible show ∃ _, _ ∧ _ ∧ Weak _ _ _)); first | ((with_reducible show guardA _ _ _ _ _ _ ∨ _); first | refine .inl ?_) | refine cY ?_ | refine cN ?_ | refine gA ?_ | refine gB ?_ | refine gC ?_ | ((first | refine gsT (fun h => ?_) (fun h => ?_) | refine gsF (fun h => ?_) (fun h => ?_) | refine ⟨fun h => ?_, fun h => ?_⟩) <;> (have hs := h; try simp only [cs, reduceCtorEq, Int.reduceEq, Int.reduceNe, Int.reduceLT, Int.reduceLE, Int.reduceBEq, Int.reduceBNe] at hs)) | (refine .inl ⟨_, _, hFile, ?_⟩) | ((with_reducible show _ ∧ _ ∧ Weak _ _ _); refine ⟨?_, ?_, Weak.go⟩; (omega)) | ((with_reducible show (_ ∧ _ ∧ _) ∧ _); refine ⟨⟨by kernel_rfl, by kernel_rfl, by rfl⟩, ?_⟩) | ((with_reducible show AV.pf _ = true ∧ _); refine pfA ?_) | (refine ⟨rfl, ?_, ?_, ?_⟩; exact okG; exact okG) | ((with_reducible show (_ ∨ _) ∧ _ ∧ retA _ _ _ _ _); refine ⟨?_, rfl, ?_⟩; (first | exact .inr rfl | exact .inl rfl)) | ((with_reducible show _ = _ ∧ _ = false ∧ _ = _); refine ⟨?_, rfl, rfl⟩; try (first | rfl | (conv => lhs; whnf))) | ((with_reducible show LeqD _ _); try (first | exact okN | (first | rfl | (conv => lhs; whnf))); done) | ((with_reducible show _ = _ ∧ (_ → _)); refine ⟨?_, ?_⟩; try (first | rfl | (conv => lhs; whnf))) | exact fun h => h | exact fun _ => rfl | refine ⟨rfl, ?_⟩ | (refine ⟨Nat.le_of_ble_eq_true rfl, ?_⟩) | (refine ⟨?_, ?_, ?_⟩; exact okS; exact okS) | (refine ⟨?_, ?_⟩; exact okS) | rw [getD_mapI (File.none) (by omega)] | rw [getD_map (File.none) (by omega)] | fail)
      conv => whnf
      refine XW.countL xf.length [1, 153, 154] (fun j => [(155, i64 j)]) (fun _ => []) (fun j => [.cells (eCase n t clock l k).leaves [], .cells (eDone ⟨xc, xf, sd, true, st, 0⟩).leaves [], .cells (eF fF).leaves []]) (fun _ => True) Weak.go trivial ?_
      intro j hj hB
      refine codeS ?_
      obtain ⟨o2, ho2⟩ : ∃ o, findF l (xf.getD j File.none).name = o := ⟨_, rfl⟩
      have hFile2 := c_ref13_File (clock := clock) (s := (xf.getD j File.none).name) hl
      rw [ho2] at hFile2
      obtain ⟨gh, hgh⟩ : ∃ fh, o2.getD File.none = fh := ⟨_, rfl⟩
      obtain ⟨gb, hgb⟩ : ∃ fb, o2.isSome = fb := ⟨_, rfl⟩
      unfold eOF at hFile2
      rw [hgh, hgb] at hFile2
      rcases Nat.lt_or_ge j xf.length with hlt | hge2
      · have hj' : decide ((j : Int) < ((xf.map eF).length : Int)) = true := by rw [List.length_map]; exact decide_eq_true (by omega)
        by_cases hn : (xf.getD j File.none).name = n.target
        · have hb : (!beqS (xf.getD j File.none).name n.target) = false := by rw [beqS_iff.2 hn]; rfl
          repeat' ((conv => whnf); (fail_if_success (with_reducible show ∃ _, _ ∧ _ ∧ Weak _ _ _)); first | ((with_reducible show guardA _ _ _ _ _ _ ∨ _); first | refine .inl ?_) | refine cY ?_ | refine cN ?_ | refine gA ?_ | refine gB ?_ | refine gC ?_ | ((first | refine gsT (fun h => ?_) (fun h => ?_) | refine gsF (fun h => ?_) (fun h => ?_) | refine ⟨fun h => ?_, fun h => ?_⟩) <;> (have hs := h; try simp only [cs, reduceCtorEq, Int.reduceEq, Int.reduceNe, Int.reduceLT, Int.reduceLE, Int.reduceBEq, Int.reduceBNe] at hs)) | (refine .inl ⟨_, _, hFile2, ?_⟩) | ((with_reducible show _ ∧ _ ∧ Weak _ _ _); refine ⟨?_, ?_, Weak.go⟩; (omega)) | ((with_reducible show (_ ∧ _ ∧ _) ∧ _); refine ⟨⟨by kernel_rfl, by kernel_rfl, by rfl⟩, ?_⟩) | ((with_reducible show AV.pf _ = true ∧ _); refine pfA ?_) | (refine ⟨rfl, ?_, ?_, ?_⟩; exact okG; exact okG) | ((with_reducible show (_ ∨ _) ∧ _ ∧ retA _ _ _ _ _); refine ⟨?_, rfl, ?_⟩; (first | exact .inr rfl | exact .inl rfl)) | ((with_reducible show _ = _ ∧ _ = false ∧ _ = _); refine ⟨?_, rfl, rfl⟩; try (first | rfl | (conv => lhs; whnf))) | ((with_reducible show LeqD _ _); try (first | exact okN | (first | rfl | (conv => lhs; whnf))); done) | ((with_reducible show _ = _ ∧ (_ → _)); refine ⟨?_, ?_⟩; try (first | rfl | (conv => lhs; whnf))) | exact fun h => h | exact fun _ => rfl | refine ⟨rfl, ?_⟩ | (refine ⟨Nat.le_of_ble_eq_true rfl, ?_⟩) | (refine ⟨?_, ?_, ?_⟩; exact okS; exact okS) | (refine ⟨?_, ?_⟩; exact okS) | rw [getD_mapI (File.none) (by omega)] | rw [getD_map (File.none) (by omega)] | fail)
          all_goals exact trivial
        · have hb : (!beqS (xf.getD j File.none).name n.target) = true := by rw [beqS_no.2 hn]; rfl
          rw [hP j hlt hn] at ho2
          subst ho2
          subst hgh hgb
          repeat' ((conv => whnf); (fail_if_success (with_reducible show ∃ _, _ ∧ _ ∧ Weak _ _ _)); first | ((with_reducible show guardA _ _ _ _ _ _ ∨ _); first | refine .inl ?_) | refine cY ?_ (by first | (with_reducible first | rfl | assumption) | grind [beqS_self]) | refine cN ?_ (by first | (with_reducible first | rfl | assumption) | grind [beqS_self]) | refine gA ?_ (by first | (with_reducible first | rfl | assumption) | grind [beqS_self]) | refine gB ?_ (by first | (with_reducible first | rfl | assumption) | grind [beqS_self]) | refine gC ?_ (by first | (with_reducible first | rfl | assumption) | grind [beqS_self]) | ((first | refine gsT (fun h => ?_) (fun h => ?_) | refine gsF (fun h => ?_) (fun h => ?_) | refine ⟨fun h => ?_, fun h => ?_⟩) <;> (have hs := h; try simp only [cs, reduceCtorEq, Int.reduceEq, Int.reduceNe, Int.reduceLT, Int.reduceLE, Int.reduceBEq, Int.reduceBNe] at hs)) | (refine .inl ⟨_, _, hFile2, ?_⟩) | ((with_reducible show _ ∧ _ ∧ Weak _ _ _); refine ⟨?_, ?_, Weak.go⟩; (omega)) | ((with_reducible show (_ ∧ _ ∧ _) ∧ _); refine ⟨⟨by kernel_rfl, by kernel_rfl, by rfl⟩, ?_⟩) | ((with_reducible show AV.pf _ = true ∧ _); refine pfA ?_) | (refine ⟨rfl, ?_, ?_, ?_⟩; exact okG; exact okG) | ((with_reducible show (_ ∨ _) ∧ _ ∧ retA _ _ _ _ _); refine ⟨?_, rfl, ?_⟩; (first | exact .inr rfl | exact .inl rfl)) | ((with_reducible show _ = _ ∧ _ = false ∧ _ = _); refine ⟨?_, rfl, rfl⟩; try (first | rfl | (conv => lhs; whnf))) | ((with_reducible show LeqD _ _); try (first | exact okN | (first | rfl | (conv => lhs; whnf))); done) | ((with_reducible show _ = _ ∧ (_ → _)); refine ⟨?_, ?_⟩; try (first | rfl | (conv => lhs; whnf))) | exact fun h => h | exact fun _ => rfl | refine ⟨rfl, ?_⟩ | (refine ⟨Nat.le_of_ble_eq_true rfl, ?_⟩) | (refine ⟨?_, ?_, ?_⟩; exact okS; exact okS) | (refine ⟨?_, ?_⟩; exact okS) | rw [getD_mapI (File.none) (by omega)] | rw [getD_map (File.none) (by omega)] | fail)
          all_goals exact trivial
      · have hj' : decide ((j : Int) < ((xf.map eF).length : Int)) = false := by rw [List.length_map]; exact decide_eq_false (by omega)
        repeat' ((conv => whnf); (fail_if_success (with_reducible show ∃ _, _ ∧ _ ∧ Weak _ _ _)); first | ((with_reducible show guardA _ _ _ _ _ _ ∨ _); first | refine .inl ?_) | refine cY ?_ | refine cN ?_ | refine gA ?_ | refine gB ?_ | refine gC ?_ | ((first | refine gsT (fun h => ?_) (fun h => ?_) | refine gsF (fun h => ?_) (fun h => ?_) | refine ⟨fun h => ?_, fun h => ?_⟩) <;> (have hs := h; try simp only [cs, reduceCtorEq, Int.reduceEq, Int.reduceNe, Int.reduceLT, Int.reduceLE, Int.reduceBEq, Int.reduceBNe] at hs)) | (refine .inl ⟨_, _, hFile2, ?_⟩) | (refine .inl ⟨_, _, c_small, ?_⟩) | ((with_reducible show _ ∧ _ ∧ Weak _ _ _); refine ⟨?_, ?_, Weak.go⟩; (omega)) | ((with_reducible show (_ ∧ _ ∧ _) ∧ _); refine ⟨⟨by kernel_rfl, by kernel_rfl, by rfl⟩, ?_⟩) | ((with_reducible show AV.pf _ = true ∧ _); refine pfA ?_) | (refine ⟨rfl, ?_, ?_, ?_⟩; exact okG; exact okG) | ((with_reducible show (_ ∨ _) ∧ _ ∧ retA _ _ _ _ _); refine ⟨?_, rfl, ?_⟩; (first | exact .inr rfl | exact .inl rfl)) | ((with_reducible show _ = _ ∧ _ = false ∧ _ = _); refine ⟨?_, rfl, rfl⟩; try (first | rfl | (conv => lhs; whnf))) | ((with_reducible show LeqD _ _); try (first | exact okN | (first | rfl | (conv => lhs; whnf))); done) | ((with_reducible show _ = _ ∧ (_ → _)); refine ⟨?_, ?_⟩; try (first | rfl | (conv => lhs; whnf))) | exact fun h => h | exact fun _ => rfl | refine ⟨rfl, ?_⟩ | (refine ⟨Nat.le_of_ble_eq_true rfl, ?_⟩) | (refine ⟨?_, ?_, ?_⟩; exact okS; exact okS) | (refine ⟨?_, ?_⟩; exact okS) | rw [getD_mapI (File.none) (by omega)] | rw [getD_map (File.none) (by omega)] | fail)
theorem fileAt {l : List File} {i : Nat} (h : i < l.length) : l.getD i File.none ∈ l := by
  rw [List.getD_eq_getElem?_getD, List.getElem?_eq_getElem h]; exact List.getElem_mem h
theorem bne_no {a b : Int} (h : a = b) : (a != b) = false := by simp [h]
theorem c_law_Keeps {n : Node} {t : ByteArray} {clock k : Int} {l : List File} (hz : SzN n) (hl : l.length ≤ 1000000000) : XPure Tryz.prog 4 [eCase n t clock l k] (bln true) false := by
  have hD := c_Do (t := t) (clock := clock) (fail := k) (l := l) hz
  by_cases hE : doE n t clock l k = 0
  · have hd : okD clock l = true := by
      have h := hE
      unfold doE at h
      repeat' (first | (split at h) | (cases h; done))
      all_goals first | (simpa using ‹¬ okD clock l = false›) | (exfalso; omega)
    have hx : doD n t clock l k = doIt n t clock l k := by unfold doD; rw [if_pos hE]
    rw [hx, hE] at hD
    have K : Keeps n clock l (doIt n t clock l k) := do_keeps hd
    revert hD K
    generalize doIt n t clock l k = x
    obtain ⟨xc, xf, sd, wr, st, cd⟩ := x
    rintro hD ⟨k1, k2, k3⟩
    dsimp only at k1 k2 k3
    obtain ⟨o1, o2, o3, o4, o5⟩ := okD_iff.1 k1
    obtain ⟨w1, w2, w3, w4, w5⟩ := okD_iff.1 hd
    have hC : XPure Tryz.prog 14 [eD xc xf] (i64 0) false := by
      have h := c_ref02_Check (clock := xc) (l := xf) (by omega) (fun i hi => name_size (fileOk_iff.1 (o4 _ (fileAt hi))).1)
      rwa [k1] at h
    by_cases hc : cd = 0
    · subst hc
      cases wr with
      | false =>
        obtain ⟨rfl, rfl, _, q⟩ := k2 (.inr rfl)
        obtain rfl := q rfl
        exact keeps_not hl hC hD
      | true =>
        obtain ⟨b1, b2, b3⟩ := k3 rfl rfl
        have hF := c_ref13_File (clock := xc) (l := xf) (s := n.target) (by omega)
        have hO : ∀ i, i < l.length → ¬ (l.getD i File.none).name = n.target → findF xf (l.getD i File.none).name = some (l.getD i File.none) := fun i hi hn => (b3 _ hn).trans (findF_self w5 (fileAt hi))
        have hP : ∀ i, i < xf.length → ¬ (xf.getD i File.none).name = n.target → findF l (xf.getD i File.none).name = some (xf.getD i File.none) := fun i hi hn => (b3 _ hn).symm.trans (findF_self o5 (fileAt hi))
        rcases b2 with ⟨e, rfl⟩ | ⟨f, e, e1, e2⟩
        · rw [e] at hF
          exact keeps_yes (there := false) (fF := File.none) hl (by omega) hC hD hF (fun h => by cases h) (fun _ => bne_no rfl) hO hP
        · rw [e] at hF
          exact keeps_yes (there := true) (fF := f) hl (by omega) hC hD hF (fun _ => ⟨bne_no e1, bne_no (by rw [wrapId (by omega) (by omega), e1, e2])⟩) (fun h => by cases h) hO hP
    · obtain ⟨rfl, rfl, q, _⟩ := k2 (.inl hc)
      obtain ⟨rfl, q2⟩ := q hc
      exact keeps_bad hl hC hD (by simpa using hc) (by simpa using hc) (by simpa using q2)
  · have hx : doD n t clock l k = noD := by unfold doD; rw [if_neg hE]
    rw [hx] at hD
    exact keeps_err hD (by simpa using hE)
end Go.Proofs.YtepdiooaoegpfaaGreatDoor.Fx
end
section
/- The law ExecScripted as a function: always true. Conditions: none beyond the length. -/
namespace Go.Proofs.YtepdiooaoegpfaaGreatDoor.Fx
open Go Go.Proofs Go.Ev Go.RowKit
set_option maxRecDepth 100000
set_option maxHeartbeats 6400000
set_option linter.unusedSimpArgs false
set_option linter.unusedVariables false
end Go.Proofs.YtepdiooaoegpfaaGreatDoor.Fx
end
section
/- From the row's reading of []api.Fail, a text and a number to trees, and the law's call. Conditions: none beyond those in each statement. -/
namespace Go.Proofs.YtepdiooaoegpfaaGreatDoor.Fx
open Go Go.Proofs Go.Ev Go.RowKit
set_option maxRecDepth 100000
set_option linter.unusedSimpArgs false
set_option linter.unusedVariables false
theorem leaf1 {x : AV} (h : x.isAgg = false) : x.leaves = [x] := by cases x <;> first | rfl | cases h
theorem shape_str {R : Nat} {P : Program} {d : Nat} {t : TypeId} {ls : List AV} (hu : P.underlying t = some .string) (h : Shape R P (d + 1) t ls) : ∃ s : ByteArray, ls = [str s] ∧ s.size ≤ R := by
  unfold Shape at h; rw [hu] at h; exact h
theorem shape_int {R : Nat} {P : Program} {d : Nat} {t : TypeId} {k : IntKind} {ls : List AV} (hu : P.underlying t = some (.int k)) (h : Shape R P (d + 1) t ls) : ∃ n : Int, ls = [.v (.int k n)] ∧ (Lit.int k n).wf = true := by
  unfold Shape at h; rw [hu] at h; exact h
theorem shape_sl {R : Nat} {P : Program} {d : Nat} {t e : TypeId} {ls : List AV} (hu : P.underlying t = some (.slice e)) (h : Shape R P (d + 1) t ls) : ∃ l : List AV, ls = [.sl (P.cellsOf e) l] ∧ l.length ≤ R ∧ ∀ x ∈ l, x.isAgg = isAggT P e ∧ x.isTup = false ∧ Shape R P d e x.leaves := by
  unfold Shape at h; rw [hu] at h; exact h
theorem shape_st {R : Nat} {P : Program} {d : Nat} {t : TypeId} {fs : Array Field} {ls : List AV} (hu : P.underlying t = some (.struct fs)) (h : Shape R P (d + 1) t ls) : ls.length = P.cellsOf t ∧ ∀ f ∈ fs.toList, Shape R P d f.type ((ls.drop f.offset).take (P.cellsOf f.type)) := by
  unfold Shape at h; rw [hu] at h; exact h
theorem cStr : Tryz.prog.cellsOf 9 = 1 := by kernel_rfl
theorem cInt : Tryz.prog.cellsOf 3 = 1 := by kernel_rfl
theorem one_of {x a : AV} (h : x.isAgg = false) (e : x.leaves = [a]) : x = a := by rw [leaf1 h] at e; exact (List.cons.inj e).1
end Go.Proofs.YtepdiooaoegpfaaGreatDoor.Fx
end
section
/- From the row's reading of a Case and a number to trees. Conditions: none beyond those in each statement. -/
namespace Go.Proofs.YtepdiooaoegpfaaGreatDoor.Fx
open Go Go.Proofs Go.Ev Go.RowKit
set_option maxRecDepth 100000
set_option linter.unusedSimpArgs false
set_option linter.unusedVariables false
/-- Are all elements of slices of so many bytes at most? -/
def szT (P : Program) (S : Nat) : Nat → TypeId → Bool
  | 0, _ => false
  | d + 1, t => match P.underlying t with
    | some (.slice e) => Nat.ble (P.bytesOf e) S && szT P S d e
    | some (.struct fs) => fs.toList.all fun f => szT P S d f.type
    | some .bool | some (.int _) | some .string => true
    | _ => false
theorem bulk_pos {H : Type} : ∀ d : DataW H, 1 ≤ Rows.uptoBulk d
  | .lit l => by cases l <;> simp [Rows.uptoBulk]
  | .nil | .held _ => by simp [Rows.uptoBulk]
  | .ptr _ | .slice _ _ | .agg _ | .iface _ _ | .map _ => by simp [Rows.uptoBulk]
theorem bulk_len {H : Type} : ∀ l : List (DataW H), l.length ≤ Rows.uptoBulkAll l
  | [] => Nat.le_refl _
  | d :: r => by
    have h1 := bulk_pos d
    have h2 := bulk_len r
    simp only [Rows.uptoBulkAll, List.length_cons]; omega
theorem bulk_mem {H : Type} : ∀ {l : List (DataW H)} {d : DataW H}, d ∈ l → Rows.uptoBulk d ≤ Rows.uptoBulkAll l
  | [], _, h => by cases h
  | x :: r, d, h => by
    simp only [Rows.uptoBulkAll]
    rcases List.mem_cons.1 h with rfl | h
    · omega
    · have := bulk_mem h; omega
theorem weightsAll_of {H : Type} {P : Program} {e : TypeId} {M : Nat} : ∀ {l : List (DataW H)}, (∀ x ∈ l, (DataW.weights P e x).all (· ≤ M) = true) → (DataW.weightsAll P e l).all (· ≤ M) = true
  | [], _ => rfl
  | x :: r, h => by
    simp only [DataW.weightsAll, List.all_append, Bool.and_eq_true]
    exact ⟨h x (by simp), weightsAll_of fun y hy => h y (by simp [hy])⟩
theorem weightsEach_of {H : Type} {P : Program} {M : Nat} : ∀ {ts : List TypeId} {l : List (DataW H)}, (∀ t ∈ ts, ∀ x ∈ l, (DataW.weights P t x).all (· ≤ M) = true) → (DataW.weightsEach P ts l).all (· ≤ M) = true
  | [], _, _ => by simp [DataW.weightsEach]
  | _ :: _, [], _ => by simp [DataW.weightsEach]
  | t :: ts, x :: r, h => by
    simp only [DataW.weightsEach, List.all_append, Bool.and_eq_true]
    exact ⟨h t (by simp) x (by simp), weightsEach_of fun u hu y hy => h u (by simp [hu]) y (by simp [hy])⟩
/-- What is of small bulk weighs little. -/
theorem bulk_w {H : Type} {P : Program} {S : Nat} (hS : 1 ≤ S) (n : Nat) : ∀ (d : Nat) (t : TypeId), szT P S d t = true → ∀ x : DataW H, Rows.uptoBulk x ≤ n → (DataW.weights P t x).all (· ≤ n * S) = true
  | 0, _, h, _, _ => by cases h
  | d + 1, t, h, x, hx => by
    have hn : n ≤ n * S := Nat.le_mul_of_pos_right _ hS
    unfold szT at h
    cases x with
    | lit l =>
      cases l with
      | string b =>
        simp only [Rows.uptoBulk] at hx
        simp only [DataW.weights, List.all_cons, List.all_nil, Bool.and_true, decide_eq_true_eq]; omega
      | _ => simp [DataW.weights]
    | nil | held _ | iface _ _ => simp [DataW.weights]
    | ptr y =>
      simp only [DataW.weights]
      split
      · rename_i hu; rw [hu] at h; cases h
      · rfl
    | map y =>
      simp only [DataW.weights]
      split
      · rename_i hu; rw [hu] at h; cases h
      · rfl
    | slice elems spare =>
      simp only [DataW.weights]
      split
      · rename_i e hu
        rw [hu] at h
        simp only [Bool.and_eq_true] at h
        simp only [Rows.uptoBulk] at hx
        have h1 := bulk_len elems
        have h2 := bulk_len spare
        simp only [List.all_cons, List.all_append, Bool.and_eq_true, decide_eq_true_eq]
        refine ⟨Nat.mul_le_mul (by omega) (Nat.le_of_ble_eq_true h.1), weightsAll_of fun y hy => ?_, weightsAll_of fun y hy => ?_⟩
        · have := bulk_mem hy; exact bulk_w hS n d e h.2 y (by omega)
        · have := bulk_mem hy; exact bulk_w hS n d e h.2 y (by omega)
      · rfl
    | agg parts =>
      simp only [DataW.weights]
      split
      · rename_i fs hu
        rw [hu] at h
        simp only [Rows.uptoBulk] at hx
        refine weightsEach_of fun u hu y hy => ?_
        obtain ⟨f, hf, rfl⟩ := List.mem_map.1 hu
        have := bulk_mem hy
        exact bulk_w hS n d f.type (List.all_eq_true.1 h f hf) y (by omega)
      · rename_i hu; rw [hu] at h; cases h
      · rfl
theorem bulk_each {H : Type} {P : Program} {S : Nat} (hS : 1 ≤ S) {d : Nat} {ts : List TypeId} (h : ts.all (szT P S d) = true) {l : List (DataW H)} {n : Nat} (hl : Rows.uptoBulkAll l ≤ n) : (DataW.weightsEach P ts l).all (· ≤ n * S) = true :=
  weightsEach_of fun t ht x hx => bulk_w hS n d t (List.all_eq_true.1 h t ht) x (Nat.le_trans (bulk_mem hx) hl)
theorem shape_bool {R : Nat} {P : Program} {d : Nat} {t : TypeId} {ls : List AV} (hu : P.underlying t = some .bool) (h : Shape R P (d + 1) t ls) : ∃ b : Bool, ls = [bln b] := by
  unfold Shape at h; rw [hu] at h; exact h
theorem cBool : Tryz.prog.cellsOf 4 = 1 := by kernel_rfl
theorem cSl : Tryz.prog.cellsOf 22 = 1 := by kernel_rfl
theorem cSlF : Tryz.prog.cellsOf 25 = 1 := by kernel_rfl
theorem cFile : Tryz.prog.cellsOf 41 = 3 := by kernel_rfl
theorem cNode : Tryz.prog.cellsOf 24 = 10 := by kernel_rfl
theorem cDisk : Tryz.prog.cellsOf 27 = 2 := by kernel_rfl
theorem cCase : Tryz.prog.cellsOf 29 = 14 := by kernel_rfl
theorem strs_all {R d : Nat} : ∀ {l : List AV}, (∀ x ∈ l, x.isAgg = isAggT Tryz.prog 9 ∧ x.isTup = false ∧ Shape R Tryz.prog (d + 1) 9 x.leaves) → ∃ ss : List ByteArray, l = ss.map (fun s => AV.v (.string s)) ∧ ∀ s ∈ ss, s.size ≤ R
  | [], _ => ⟨[], rfl, fun _ h => by cases h⟩
  | x :: l, h => by
    obtain ⟨ss, rfl, hs⟩ := strs_all (fun y hy => h y (List.mem_cons_of_mem _ hy))
    obtain ⟨h1, _, h2⟩ := h x (by simp)
    obtain ⟨s, e, hz⟩ := shape_str Tryz.underlying9 h2
    obtain rfl := one_of (h1.trans (by kernel_rfl)) e
    exact ⟨s :: ss, rfl, fun y hy => by rcases List.mem_cons.1 hy with rfl | hy; exact hz; exact hs y hy⟩
theorem shape_strs {R d : Nat} {ls : List AV} (h : Shape R Tryz.prog (d + 2) 22 ls) : ∃ ss : List ByteArray, ls = [eS ss] ∧ ss.length ≤ R ∧ ∀ s ∈ ss, s.size ≤ R := by
  obtain ⟨l, e, hl, hx⟩ := shape_sl Tryz.underlying22 h
  obtain ⟨ss, rfl, hs⟩ := strs_all hx
  rw [List.length_map] at hl
  exact ⟨ss, by rw [e, cStr], hl, hs⟩
theorem file_of {R d : Nat} {y : AV} (ha : y.isAgg = isAggT Tryz.prog 41) (h : Shape R Tryz.prog (d + 2) 41 y.leaves) : ∃ f : File, y = eF f := by
  have ha' : y.isAgg = true := ha.trans (by kernel_rfl)
  cases y with
  | agg ls =>
    obtain ⟨hl, hf⟩ := shape_st Tryz.underlying41 h
    rw [cFile] at hl
    match ls, hl with
    | [a, b, c], _ =>
      obtain ⟨f0, hf⟩ := List.forall_mem_cons.1 hf
      obtain ⟨f1, hf⟩ := List.forall_mem_cons.1 hf
      obtain ⟨f2, hf⟩ := List.forall_mem_cons.1 hf
      simp only [cStr, cInt] at f0 f1 f2
      obtain ⟨s, e0, _⟩ := shape_str Tryz.underlying9 f0
      obtain ⟨n, e1, _⟩ := shape_str Tryz.underlying9 f1
      obtain ⟨m, e2, _⟩ := shape_int Tryz.underlying3 f2
      obtain rfl := (List.cons.inj e0).1
      obtain rfl := (List.cons.inj e1).1
      obtain rfl := (List.cons.inj e2).1
      exact ⟨⟨s, n, m⟩, rfl⟩
  | _ => cases ha'
theorem files_all {R d : Nat} : ∀ {l : List AV}, (∀ x ∈ l, x.isAgg = isAggT Tryz.prog 41 ∧ x.isTup = false ∧ Shape R Tryz.prog (d + 2) 41 x.leaves) → ∃ fs : List File, l = fs.map eF
  | [], _ => ⟨[], rfl⟩
  | x :: l, h => by
    obtain ⟨fs, rfl⟩ := files_all (fun y hy => h y (List.mem_cons_of_mem _ hy))
    obtain ⟨h1, _, h2⟩ := h x (by simp)
    obtain ⟨f, rfl⟩ := file_of h1 h2
    exact ⟨f :: fs, rfl⟩
theorem node_of {R d : Nat} {ls : List AV} (hR : R ≤ 1000000000) (h : Shape R Tryz.prog (d + 3) 24 ls) : ∃ n : Node, AV.agg ls = eN n ∧ SzN n := by
  obtain ⟨hl, hf⟩ := shape_st Tryz.underlying24 h
  rw [cNode] at hl
  match ls, hl with
  | [a0, a1, a2, a3, a4, a5, a6, a7, a8, a9], _ =>
    obtain ⟨f0, hf⟩ := List.forall_mem_cons.1 hf
    obtain ⟨f1, hf⟩ := List.forall_mem_cons.1 hf
    obtain ⟨f2, hf⟩ := List.forall_mem_cons.1 hf
    obtain ⟨f3, hf⟩ := List.forall_mem_cons.1 hf
    obtain ⟨f4, hf⟩ := List.forall_mem_cons.1 hf
    obtain ⟨f5, hf⟩ := List.forall_mem_cons.1 hf
    obtain ⟨f6, hf⟩ := List.forall_mem_cons.1 hf
    obtain ⟨f7, hf⟩ := List.forall_mem_cons.1 hf
    obtain ⟨f8, hf⟩ := List.forall_mem_cons.1 hf
    obtain ⟨f9, hf⟩ := List.forall_mem_cons.1 hf
    simp only [cStr, cSl, cBool] at f0 f1 f2 f3 f4 f5 f6 f7 f8 f9
    obtain ⟨t, e0, z0⟩ := shape_str Tryz.underlying9 f0
    obtain ⟨ne, e1, z1, y1⟩ := shape_strs f1
    obtain ⟨re, e2, z2, y2⟩ := shape_strs f2
    obtain ⟨b3, e3⟩ := shape_bool Tryz.underlying4 f3
    obtain ⟨s4, e4, z4⟩ := shape_str Tryz.underlying9 f4
    obtain ⟨s5, e5, z5⟩ := shape_str Tryz.underlying9 f5
    obtain ⟨b6, e6⟩ := shape_bool Tryz.underlying4 f6
    obtain ⟨b7, e7⟩ := shape_bool Tryz.underlying4 f7
    obtain ⟨b8, e8⟩ := shape_bool Tryz.underlying4 f8
    obtain ⟨b9, e9⟩ := shape_bool Tryz.underlying4 f9
    obtain rfl := (List.cons.inj e0).1
    obtain rfl := (List.cons.inj e1).1
    obtain rfl := (List.cons.inj e2).1
    obtain rfl := (List.cons.inj e3).1
    obtain rfl := (List.cons.inj e4).1
    obtain rfl := (List.cons.inj e5).1
    obtain rfl := (List.cons.inj e6).1
    obtain rfl := (List.cons.inj e7).1
    obtain rfl := (List.cons.inj e8).1
    obtain rfl := (List.cons.inj e9).1
    exact ⟨⟨t, ne, re, b3, s4, s5, b6, b7, b8, b9⟩, rfl, by show t.size ≤ _; omega, ⟨by show ne.length ≤ _; omega, fun x hx => by have := y1 x hx; omega⟩, ⟨by show re.length ≤ _; omega, fun x hx => by have := y2 x hx; omega⟩⟩
theorem disk_of {R d : Nat} {ls : List AV} (h : Shape R Tryz.prog (d + 4) 27 ls) : ∃ (c : Int) (l : List File), ls = [i64 c, eFs l] ∧ l.length ≤ R := by
  obtain ⟨hl, hf⟩ := shape_st Tryz.underlying27 h
  rw [cDisk] at hl
  match ls, hl with
  | [a, b], _ =>
    obtain ⟨f0, hf⟩ := List.forall_mem_cons.1 hf
    obtain ⟨f1, hf⟩ := List.forall_mem_cons.1 hf
    simp only [cInt, cSlF] at f0 f1
    obtain ⟨c, e0, _⟩ := shape_int Tryz.underlying3 f0
    obtain ⟨l, e1, hl, hx⟩ := shape_sl Tryz.underlying25 f1
    obtain ⟨fs, rfl⟩ := files_all hx
    obtain rfl := (List.cons.inj e0).1
    obtain rfl := (List.cons.inj e1).1
    rw [List.length_map] at hl
    exact ⟨c, fs, by rw [cFile], hl⟩
theorem case_of {R d : Nat} {y : AV} (hR : R ≤ 1000000000) (ha : y.isAgg = isAggT Tryz.prog 29) (h : Shape R Tryz.prog (d + 5) 29 y.leaves) : ∃ (n : Node) (t : ByteArray) (c k : Int) (l : List File), y = eCase n t c l k ∧ SzN n ∧ t.size ≤ R ∧ l.length ≤ R := by
  have ha' : y.isAgg = true := ha.trans (by kernel_rfl)
  cases y with
  | agg ls =>
    obtain ⟨hl, hf⟩ := shape_st Tryz.underlying29 h
    rw [cCase] at hl
    match ls, hl with
    | [a0, a1, a2, a3, a4, a5, a6, a7, a8, a9, a10, a11, a12, a13], _ =>
      obtain ⟨f0, hf⟩ := List.forall_mem_cons.1 hf
      obtain ⟨f1, hf⟩ := List.forall_mem_cons.1 hf
      obtain ⟨f2, hf⟩ := List.forall_mem_cons.1 hf
      obtain ⟨f3, hf⟩ := List.forall_mem_cons.1 hf
      simp only [cNode, cStr, cDisk, cInt] at f0 f1 f2 f3
      obtain ⟨n, e0, hz⟩ := node_of hR f0
      obtain ⟨t, e1, ht⟩ := shape_str Tryz.underlying9 f1
      obtain ⟨c, l, e2, hl⟩ := disk_of f2
      obtain ⟨k, e3, _⟩ := shape_int Tryz.underlying3 f3
      have e0 := AV.agg.inj e0
      have e0 : [a0, a1, a2, a3, a4, a5, a6, a7, a8, a9] = _ := e0
      have e2 : [a11, a12] = _ := e2
      obtain rfl := (List.cons.inj e1).1
      obtain rfl := (List.cons.inj e3).1
      obtain ⟨q0, e0_0⟩ := List.cons.inj e0
      obtain ⟨q1, e0_1⟩ := List.cons.inj e0_0
      obtain ⟨q2, e0_2⟩ := List.cons.inj e0_1
      obtain ⟨q3, e0_3⟩ := List.cons.inj e0_2
      obtain ⟨q4, e0_4⟩ := List.cons.inj e0_3
      obtain ⟨q5, e0_5⟩ := List.cons.inj e0_4
      obtain ⟨q6, e0_6⟩ := List.cons.inj e0_5
      obtain ⟨q7, e0_7⟩ := List.cons.inj e0_6
      obtain ⟨q8, e0_8⟩ := List.cons.inj e0_7
      obtain ⟨q9, e0_9⟩ := List.cons.inj e0_8
      obtain ⟨p0, e2_0⟩ := List.cons.inj e2
      obtain ⟨p1, _⟩ := List.cons.inj e2_0
      subst q0 q1 q2 q3 q4 q5 q6 q7 q8 q9 p0 p1
      exact ⟨n, t, c, k, l, rfl, hz, ht, hl⟩
  | _ => cases ha'
/-- The package variables that the row lays are as Ev asks. -/
theorem glob_of {W : World} (h1 : ∃ te pe, W.cell? ⟨1, 0, none⟩ = some (.iface te pe)) (h2 : ∃ te pe, W.cell? ⟨2, 0, none⟩ = some (.iface te pe))
    (h1' : ∃ cs e f, W.heap[1]? = some (.cells cs e f) ∧ cs.size = 1) (h2' : ∃ cs e f, W.heap[2]? = some (.cells cs e f) ∧ cs.size = 1)
    (h3 : Lib.TabIs Tryz.prog W "internal/strconv.uint64pow10" .u64 Lib.pow10Tab) : GlobOk W (blockHw W) := by
  refine ⟨fun p hp => (by cases hp), fun p hp => ?_⟩
  have err : ∀ g : Nat, (∃ te pe, W.cell? ⟨g, 0, none⟩ = some (.iface te pe)) → (∃ cs e f, W.heap[g]? = some (.cells cs e f) ∧ cs.size = 1) → ∃ vs, IsErr vs ∧ Whole W (blockHw W) g vs := by
    rintro g ⟨t, p, hc⟩ ⟨cs, e, f, hh, hs⟩
    refine ⟨[.iface t p], ⟨t, p, rfl⟩, cs.size, blockHw_cells hh, by simp [hs], fun j => ?_⟩
    unfold World.cell? at hc ⊢
    simp only [hh, Option.isSome_none, Bool.false_eq_true, if_false] at hc ⊢
    cases j with
    | zero => rw [hc]; rfl
    | succ j => rw [Array.getElem?_eq_none (by omega)]; simp
  simp only [globP, List.mem_cons, List.not_mem_nil, or_false] at hp
  rcases hp with rfl | rfl | rfl
  · unfold Lib.TabIs World.var? at h3
    rw [gPow, Option.bind_some] at h3
    split at h3
    · rename_i cs e f hh
      cases h3
      refine ⟨_, rfl, _, blockHw_cells hh, by simp, fun j => ?_⟩
      unfold World.cell?
      simp only [hh, Option.isSome_none, Bool.false_eq_true, if_false, List.getElem?_toArray]
    · cases h3
  · exact err _ h1 h1'
  · exact err _ h2 h2'
end Go.Proofs.YtepdiooaoegpfaaGreatDoor.Fx
end
section
/- From the row's reading of a Case to trees, for ExecKeeps. Conditions: none beyond those in each statement. -/
namespace Go.Proofs.YtepdiooaoegpfaaGreatDoor.Fx
open Go Go.Proofs Go.Ev Go.RowKit
set_option maxRecDepth 100000
set_option linter.unusedVariables false
theorem shapeAll1 {R : Nat} {P : Program} {d : Nat} {t1 : TypeId} : ∀ {avs : List AV}, ShapeAll R P d [t1] avs → ∃ a, avs = [a] ∧ (a.isAgg = isAggT P t1 ∧ Shape R P d t1 a.leaves)
  | [], h => h.elim
  | [a], h => ⟨a, rfl, h.1⟩
  | _ :: _ :: _, h => h.2.elim
theorem keeps_args {R : Nat} {avs : List AV} (hR : R ≤ 1000000000) (h : ShapeAll R Tryz.prog 8 [29] avs) : ∃ (n : Node) (t : ByteArray) (c k : Int) (l : List File), avs = [eCase n t c l k] ∧ SzN n ∧ l.length ≤ R := by
  obtain ⟨a, rfl, a1, a2⟩ := shapeAll1 h
  obtain ⟨n, t, c, k, l, rfl, hz, _, hl⟩ := case_of hR a1 a2
  exact ⟨n, t, c, k, l, rfl, hz, hl⟩
end Go.Proofs.YtepdiooaoegpfaaGreatDoor.Fx
end
