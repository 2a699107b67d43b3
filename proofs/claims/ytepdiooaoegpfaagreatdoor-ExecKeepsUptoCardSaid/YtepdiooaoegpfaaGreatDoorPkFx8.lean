/- Written by programs of this session: laws and contracts that the law's proof stands on, merged into one text. Conditions: none beyond those in each statement. -/
import Derived.Test.YtepdiooaoegpfaaGreatDoorPkFx7
import Derived.Test.YtepdiooaoegpfaaGreatDoorPkFx6
section
/- Words as a command, by the program; and both readings whole. Conditions: those in each statement. -/
namespace Go.Proofs.YtepdiooaoegpfaaGreatDoor.Fx
open Go Go.Proofs Go.Ev Go.RowKit
set_option maxRecDepth 100000
set_option maxHeartbeats 1600000
set_option linter.unusedSimpArgs false
set_option linter.unusedVariables false
theorem c_CloneN {l : List ByteArray} {x : AV} (hl : l.length ≤ 1000000000) (h : LeqD x (eS l)) : XPure Tryz.prog 89 [x] (eS l) false := (c_CloneS hl).nils (LeqDL.cons h (LeqDL.refl _))
theorem c_countB {op n : Int} {b : Bool} (h8 : 1 ≤ op ∧ op ≤ 8) (h : manyOk op n = b) : XPure Tryz.prog 90 [i64 op, i64 n] (bln b) false := h ▸ c_cmd_count h8
theorem c_filesB {l : List ByteArray} {x : AV} {b : Bool} (hl : l.length ≤ 1000000000) (hz : ∀ i, i < l.length → (l.getD i .empty).size ≤ 140737488355328) (h : l.all isName = b) (hx : LeqD x (eS l)) : XPure Tryz.prog 93 [x] (i64 (errIf b 3)) false := h ▸ (c_cmd_files hl hz).nils (LeqDL.cons hx (LeqDL.refl _))
theorem c_IndexB {w : ByteArray} {op k : Int} (ho : opFrom w 1 8 = op) (hk : op - 1 = k) : XPure Tryz.prog 68 [eS heads1, str w] (i64 k) false := by
  have h := c_Index (l := heads1) (s := w) (Nat.le_of_ble_eq_true rfl)
  have := find_op w
  rwa [show findN heads1 w 0 = k from by omega] at h
theorem szc {d : ByteArray} {src : List ByteArray} (hd : d.size ≤ 140737488355328) (hz : ∀ i, i < src.length → (src.getD i .empty).size ≤ 140737488355328) : ∀ i, i < (d :: src).length → ((d :: src).getD i .empty).size ≤ 140737488355328
  | 0, _ => hd
  | i + 1, h => hz i (by simpa using h)
theorem parse_badB {ws : List ByteArray} {b : Bool} (h : parseE ws = 3) (hb : b = false) : LeqD (.tup [.agg [i64 0, str ⟨#[]⟩, nilv, nilv, i64 0], i64 (errIf b 3)]) (.tup [(parseC ws).av, i64 (parseE ws)]) := by
  subst hb; exact parse_bad h (by decide)
theorem cP_1 {w a b : ByteArray} (ho : opFrom w 1 8 = 1) (ha : a.size ≤ 140737488355328) (hb : b.size ≤ 140737488355328) : XPure Tryz.prog 67 [eS (w :: [a, b])] (.tup [(parseC (w :: [a, b])).av, i64 (parseE (w :: [a, b]))]) false := by
  have hE := parseE_k (w := w) (l := [a, b]) (Nat.le_of_ble_eq_true rfl) ho rfl (by decide)
  have hB : cmFiles (cmOf 1 [a, b]) = [a, b].all isName := by show (isName b && (isName a && true)) = (isName a && (isName b && true)); cases isName a <;> cases isName b <;> rfl
  refine XPure.bodyN ⟨_, Tryz.func67, rfl, by kernel_rfl⟩ Tryz.func67 rfl (Nat.le_of_ble_eq_true (by rfl)) (pf_of1 rfl) fun env => ?_
  repeat' ((conv => whnf); (fail_if_success (with_reducible show LeqD _ _)); (fail_if_success (with_reducible show ∃ _, _ ∧ _ ∧ Weak _ _ _)); first | ((with_reducible show guardA _ _ _ _ _ _ ∨ _); first | (refine .inr ?_; (conv => whnf); refine ⟨_, ?_, fun h => rfl, rfl, ?_⟩; ((conv => whnf); first | exact trivial | (refine ⟨?_, trivial⟩; exact okG))) | (refine .inr ?_; (conv => whnf); refine ⟨_, trivial, fun h => ⟨?_, ?_, ?_, rfl⟩, rfl, ?_⟩; (first | exact h | rfl); exact okG; exact okG) | refine .inl ?_) | refine cY ?_ (by first | (with_reducible first | rfl | assumption) | decide) | refine cN ?_ (by first | (with_reducible first | rfl | assumption) | decide) | refine gA ?_ (by first | (with_reducible first | rfl | assumption) | decide) | refine gB ?_ (by first | (with_reducible first | rfl | assumption) | decide) | refine gC ?_ (by first | (with_reducible first | rfl | assumption) | decide) | ((first | refine gsT (fun h => ?_) (fun h => ?_) | refine gsF (fun h => ?_) (fun h => ?_) | refine ⟨fun h => ?_, fun h => ?_⟩) <;> (have hs := h; try simp only [cs, reduceCtorEq, Int.reduceEq, Int.reduceNe, Int.reduceLT, Int.reduceLE, Int.reduceBEq, Int.reduceBNe] at hs)) | (refine .inl ⟨_, _, c_heads, ?_⟩) | (refine .inl ⟨_, _, c_IndexB ho rfl, ?_⟩) | (refine .inl ⟨_, _, c_CloneN (l := [a, b]) (by first | omega | (simp only [List.length_cons, List.length_nil]; omega)) okL, ?_⟩) | (refine .inl ⟨_, _, c_countB (op := 1) (b := true) (by decide) (rfl), ?_⟩) | (refine .inl ⟨_, _, c_filesB (l := [a, b]) (b := cmFiles (cmOf 1 [a, b])) (Nat.le_of_ble_eq_true rfl) (sz2 ha hb) hB.symm okL, ?_⟩) | ((with_reducible show _ ∧ _ ∧ Weak _ _ _); refine ⟨?_, ?_, Weak.go⟩; (omega)) | (refine ⟨_, _, c_heads, ?_⟩) | (refine ⟨_, _, c_IndexB ho rfl, ?_⟩) | (refine ⟨_, _, c_CloneN (l := [a, b]) (by first | omega | (simp only [List.length_cons, List.length_nil]; omega)) okL, ?_⟩) | (refine ⟨_, _, c_countB (op := 1) (b := true) (by decide) (rfl), ?_⟩) | (refine ⟨_, _, c_filesB (l := [a, b]) (b := cmFiles (cmOf 1 [a, b])) (Nat.le_of_ble_eq_true rfl) (sz2 ha hb) hB.symm okL, ?_⟩) | (first | (refine XW.draw (id := 5) (m := 8) (by kernel_rfl) (by kernel_rfl) (by rfl) ?_) | (refine XW.drawW (id := 15) (M := 7) (p := 1) (W := [5, 6]) (by kernel_rfl) (by kernel_rfl) ?_) | ((with_reducible show _ ∧ allW _ _); refine ⟨?_, ?_⟩) | exact trivial) | ((with_reducible show (_ ∧ _ ∧ _) ∧ _); refine ⟨⟨by kernel_rfl, by kernel_rfl, by rfl⟩, ?_⟩) | ((with_reducible show AV.pf _ = true ∧ _); refine pfA ?_) | (refine ⟨rfl, ?_, ?_, ?_⟩; exact okG; exact okG) | ((with_reducible show (_ ∨ _) ∧ _ ∧ retA _ _ _ _ _); refine ⟨?_, rfl, ?_⟩; (first | exact .inr rfl | exact .inl rfl)) | ((with_reducible show _ = _ ∧ _ = false ∧ _ = _); refine ⟨?_, rfl, rfl⟩; try (first | rfl | (conv => lhs; whnf))) | ((with_reducible show _ = _ ∧ (_ → _)); refine ⟨?_, ?_⟩; try (first | rfl | (conv => lhs; whnf))) | exact fun h => h | exact fun _ => rfl | refine ⟨rfl, ?_⟩ | (refine ⟨Nat.le_of_ble_eq_true rfl, ?_⟩) | (refine ⟨?_, ?_, ?_⟩; exact okS; exact okS) | (refine ⟨?_, ?_⟩; exact okS) | fail)
  all_goals try (exfalso; simp only [List.length_cons, List.length_nil, List.length_append, List.length_map, List.length_drop, List.length_take] at hs; omega)
  · have hq : cmFiles (cmOf 1 [a, b]) = false := by cases hc : cmFiles (cmOf 1 [a, b]); rfl; exact absurd (by rw [hc]; rfl) hs
    exact parse_badB (hE.trans (if_neg (by rw [hq]; simp))) hq
  · have h0 := hE.trans (if_pos (errIf_0.1 hs))
    exact parse_good (c := ⟨1, b, [a], [], 0⟩) h0 (parseC_of ho h0) okL okL
theorem cP_2 {w d : ByteArray} {src : List ByteArray} (ho : opFrom w 1 8 = 2) (h1 : 1 ≤ src.length) (h2 : src.length ≤ 64) (hd : d.size ≤ 140737488355328) (hz : ∀ i, i < src.length → (src.getD i .empty).size ≤ 140737488355328) : XPure Tryz.prog 67 [eS (w :: (d :: src))] (.tup [(parseC (w :: (d :: src))).av, i64 (parseE (w :: (d :: src)))]) false := by
  have hE := parseE_k (w := w) (l := (d :: src)) (by simp only [List.length_cons]; omega) ho (by simp [manyOk]; omega) (by decide)
  have hB : cmFiles (cmOf 2 (d :: src)) = (d :: src).all isName := rfl
  refine XPure.bodyN ⟨_, Tryz.func67, rfl, by kernel_rfl⟩ Tryz.func67 rfl (Nat.le_of_ble_eq_true (by rfl)) (pf_of1 rfl) fun env => ?_
  repeat' ((conv => whnf); (fail_if_success (with_reducible show LeqD _ _)); (fail_if_success (with_reducible show ∃ _, _ ∧ _ ∧ Weak _ _ _)); first | ((with_reducible show guardA _ _ _ _ _ _ ∨ _); first | (refine .inr ?_; (conv => whnf); refine ⟨_, ?_, fun h => rfl, rfl, ?_⟩; ((conv => whnf); first | exact trivial | (refine ⟨?_, trivial⟩; exact okG))) | (refine .inr ?_; (conv => whnf); refine ⟨_, trivial, fun h => ⟨?_, ?_, ?_, rfl⟩, rfl, ?_⟩; (first | exact h | rfl); exact okG; exact okG) | refine .inl ?_) | refine cY ?_ (by first | (with_reducible first | rfl | assumption) | decide) | refine cN ?_ (by first | (with_reducible first | rfl | assumption) | decide) | refine gA ?_ (by first | (with_reducible first | rfl | assumption) | decide) | refine gB ?_ (by first | (with_reducible first | rfl | assumption) | decide) | refine gC ?_ (by first | (with_reducible first | rfl | assumption) | decide) | ((first | refine gsT (fun h => ?_) (fun h => ?_) | refine gsF (fun h => ?_) (fun h => ?_) | refine ⟨fun h => ?_, fun h => ?_⟩) <;> (have hs := h; try simp only [cs, reduceCtorEq, Int.reduceEq, Int.reduceNe, Int.reduceLT, Int.reduceLE, Int.reduceBEq, Int.reduceBNe] at hs)) | (refine .inl ⟨_, _, c_heads, ?_⟩) | (refine .inl ⟨_, _, c_IndexB ho rfl, ?_⟩) | (refine .inl ⟨_, _, c_CloneN (l := (d :: src)) (by first | omega | (simp only [List.length_cons, List.length_nil]; omega)) okL, ?_⟩) | (refine .inl ⟨_, _, c_countB (op := 2) (b := true) (by decide) (by simp [manyOk]; omega), ?_⟩) | (refine .inl ⟨_, _, c_filesB (l := (d :: src)) (b := cmFiles (cmOf 2 (d :: src))) (by simp only [List.length_cons]; omega) (szc hd hz) hB.symm okL, ?_⟩) | ((with_reducible show _ ∧ _ ∧ Weak _ _ _); refine ⟨?_, ?_, Weak.go⟩; (omega)) | (refine ⟨_, _, c_heads, ?_⟩) | (refine ⟨_, _, c_IndexB ho rfl, ?_⟩) | (refine ⟨_, _, c_CloneN (l := (d :: src)) (by first | omega | (simp only [List.length_cons, List.length_nil]; omega)) okL, ?_⟩) | (refine ⟨_, _, c_countB (op := 2) (b := true) (by decide) (by simp [manyOk]; omega), ?_⟩) | (refine ⟨_, _, c_filesB (l := (d :: src)) (b := cmFiles (cmOf 2 (d :: src))) (by simp only [List.length_cons]; omega) (szc hd hz) hB.symm okL, ?_⟩) | (first | (refine XW.draw (id := 5) (m := 8) (by kernel_rfl) (by kernel_rfl) (by rfl) ?_) | (refine XW.drawW (id := 17) (M := 7) (p := 1) (W := [5, 6]) (by kernel_rfl) (by kernel_rfl) ?_) | ((with_reducible show _ ∧ allW _ _); refine ⟨?_, ?_⟩) | exact trivial) | ((with_reducible show (_ ∧ _ ∧ _) ∧ _); refine ⟨⟨by kernel_rfl, by kernel_rfl, by rfl⟩, ?_⟩) | ((with_reducible show AV.pf _ = true ∧ _); refine pfA ?_) | (refine ⟨rfl, ?_, ?_, ?_⟩; exact okG; exact okG) | ((with_reducible show (_ ∨ _) ∧ _ ∧ retA _ _ _ _ _); refine ⟨?_, rfl, ?_⟩; (first | exact .inr rfl | exact .inl rfl)) | ((with_reducible show _ = _ ∧ _ = false ∧ _ = _); refine ⟨?_, rfl, rfl⟩; try (first | rfl | (conv => lhs; whnf))) | ((with_reducible show _ = _ ∧ (_ → _)); refine ⟨?_, ?_⟩; try (first | rfl | (conv => lhs; whnf))) | exact fun h => h | exact fun _ => rfl | refine ⟨rfl, ?_⟩ | (refine ⟨Nat.le_of_ble_eq_true rfl, ?_⟩) | (refine ⟨?_, ?_, ?_⟩; exact okS; exact okS) | (refine ⟨?_, ?_⟩; exact okS) | fail)
  all_goals try (exfalso; simp only [List.length_cons, List.length_nil, List.length_append, List.length_map, List.length_drop, List.length_take] at hs; omega)
  · have hq : cmFiles (cmOf 2 (d :: src)) = false := by cases hc : cmFiles (cmOf 2 (d :: src)); rfl; exact absurd (by rw [hc]; rfl) hs
    exact parse_badB (hE.trans (if_neg (by rw [hq]; simp))) hq
  · have h0 := hE.trans (if_pos (errIf_0.1 hs))
    exact parse_good (c := ⟨2, d, src, [], 0⟩) h0 (parseC_of ho h0) okL okL
theorem cP_3 {w d : ByteArray} {ws : List ByteArray} (ho : opFrom w 1 8 = 3) (h2 : ws.length ≤ 512) (hd : d.size ≤ 140737488355328) : XPure Tryz.prog 67 [eS (w :: (d :: ws))] (.tup [(parseC (w :: (d :: ws))).av, i64 (parseE (w :: (d :: ws)))]) false := by
  have hE := parseE_k (w := w) (l := (d :: ws)) (by simp only [List.length_cons]; omega) ho (by simp [manyOk]; omega) (by decide)
  have hB : cmFiles (cmOf 3 (d :: ws)) = [d].all isName := by show (isName d && true) = (isName d && true); rfl
  refine XPure.bodyN ⟨_, Tryz.func67, rfl, by kernel_rfl⟩ Tryz.func67 rfl (Nat.le_of_ble_eq_true (by rfl)) (pf_of1 rfl) fun env => ?_
  repeat' ((conv => whnf); (fail_if_success (with_reducible show LeqD _ _)); (fail_if_success (with_reducible show ∃ _, _ ∧ _ ∧ Weak _ _ _)); first | ((with_reducible show guardA _ _ _ _ _ _ ∨ _); first | (refine .inr ?_; (conv => whnf); refine ⟨_, ?_, fun h => rfl, rfl, ?_⟩; ((conv => whnf); first | exact trivial | (refine ⟨?_, trivial⟩; exact okG))) | (refine .inr ?_; (conv => whnf); refine ⟨_, trivial, fun h => ⟨?_, ?_, ?_, rfl⟩, rfl, ?_⟩; (first | exact h | rfl); exact okG; exact okG) | refine .inl ?_) | refine cY ?_ (by first | (with_reducible first | rfl | assumption) | decide) | refine cN ?_ (by first | (with_reducible first | rfl | assumption) | decide) | refine gA ?_ (by first | (with_reducible first | rfl | assumption) | decide) | refine gB ?_ (by first | (with_reducible first | rfl | assumption) | decide) | refine gC ?_ (by first | (with_reducible first | rfl | assumption) | decide) | ((first | refine gsT (fun h => ?_) (fun h => ?_) | refine gsF (fun h => ?_) (fun h => ?_) | refine ⟨fun h => ?_, fun h => ?_⟩) <;> (have hs := h; try simp only [cs, reduceCtorEq, Int.reduceEq, Int.reduceNe, Int.reduceLT, Int.reduceLE, Int.reduceBEq, Int.reduceBNe] at hs)) | (refine .inl ⟨_, _, c_heads, ?_⟩) | (refine .inl ⟨_, _, c_IndexB ho rfl, ?_⟩) | (refine .inl ⟨_, _, c_CloneN (l := (d :: ws)) (by first | omega | (simp only [List.length_cons, List.length_nil]; omega)) okL, ?_⟩) | (refine .inl ⟨_, _, c_countB (op := 3) (b := true) (by decide) (by simp [manyOk]; omega), ?_⟩) | (refine .inl ⟨_, _, c_filesB (l := [d]) (b := cmFiles (cmOf 3 (d :: ws))) (Nat.le_of_ble_eq_true rfl) (sz1 hd) hB.symm okL, ?_⟩) | ((with_reducible show _ ∧ _ ∧ Weak _ _ _); refine ⟨?_, ?_, Weak.go⟩; (omega)) | (refine ⟨_, _, c_heads, ?_⟩) | (refine ⟨_, _, c_IndexB ho rfl, ?_⟩) | (refine ⟨_, _, c_CloneN (l := (d :: ws)) (by first | omega | (simp only [List.length_cons, List.length_nil]; omega)) okL, ?_⟩) | (refine ⟨_, _, c_countB (op := 3) (b := true) (by decide) (by simp [manyOk]; omega), ?_⟩) | (refine ⟨_, _, c_filesB (l := [d]) (b := cmFiles (cmOf 3 (d :: ws))) (Nat.le_of_ble_eq_true rfl) (sz1 hd) hB.symm okL, ?_⟩) | (first | (refine XW.draw (id := 5) (m := 8) (by kernel_rfl) (by kernel_rfl) (by rfl) ?_) | (refine XW.drawW (id := 19) (M := 7) (p := 1) (W := [5, 6]) (by kernel_rfl) (by kernel_rfl) ?_) | ((with_reducible show _ ∧ allW _ _); refine ⟨?_, ?_⟩) | exact trivial) | ((with_reducible show (_ ∧ _ ∧ _) ∧ _); refine ⟨⟨by kernel_rfl, by kernel_rfl, by rfl⟩, ?_⟩) | ((with_reducible show AV.pf _ = true ∧ _); refine pfA ?_) | (refine ⟨rfl, ?_, ?_, ?_⟩; exact okG; exact okG) | ((with_reducible show (_ ∨ _) ∧ _ ∧ retA _ _ _ _ _); refine ⟨?_, rfl, ?_⟩; (first | exact .inr rfl | exact .inl rfl)) | ((with_reducible show _ = _ ∧ _ = false ∧ _ = _); refine ⟨?_, rfl, rfl⟩; try (first | rfl | (conv => lhs; whnf))) | ((with_reducible show _ = _ ∧ (_ → _)); refine ⟨?_, ?_⟩; try (first | rfl | (conv => lhs; whnf))) | exact fun h => h | exact fun _ => rfl | refine ⟨rfl, ?_⟩ | (refine ⟨Nat.le_of_ble_eq_true rfl, ?_⟩) | (refine ⟨?_, ?_, ?_⟩; exact okS; exact okS) | (refine ⟨?_, ?_⟩; exact okS) | fail)
  all_goals try (exfalso; simp only [List.length_cons, List.length_nil, List.length_append, List.length_map, List.length_drop, List.length_take] at hs; omega)
  · have hq : cmFiles (cmOf 3 (d :: ws)) = false := by cases hc : cmFiles (cmOf 3 (d :: ws)); rfl; exact absurd (by rw [hc]; rfl) hs
    exact parse_badB (hE.trans (if_neg (by rw [hq]; simp))) hq
  · have h0 := hE.trans (if_pos (errIf_0.1 hs))
    exact parse_good (c := ⟨3, d, [], ws, 0⟩) h0 (parseC_of ho h0) okL okL
theorem cP_4 {w d : ByteArray} (ho : opFrom w 1 8 = 4) (hd : d.size ≤ 140737488355328) : XPure Tryz.prog 67 [eS (w :: [d])] (.tup [(parseC (w :: [d])).av, i64 (parseE (w :: [d]))]) false := by
  have hE := parseE_k (w := w) (l := [d]) (Nat.le_of_ble_eq_true rfl) ho rfl (by decide)
  have hB : cmFiles (cmOf 4 [d]) = [d].all isName := rfl
  refine XPure.bodyN ⟨_, Tryz.func67, rfl, by kernel_rfl⟩ Tryz.func67 rfl (Nat.le_of_ble_eq_true (by rfl)) (pf_of1 rfl) fun env => ?_
  repeat' ((conv => whnf); (fail_if_success (with_reducible show LeqD _ _)); (fail_if_success (with_reducible show ∃ _, _ ∧ _ ∧ Weak _ _ _)); first | ((with_reducible show guardA _ _ _ _ _ _ ∨ _); first | (refine .inr ?_; (conv => whnf); refine ⟨_, ?_, fun h => rfl, rfl, ?_⟩; ((conv => whnf); first | exact trivial | (refine ⟨?_, trivial⟩; exact okG))) | (refine .inr ?_; (conv => whnf); refine ⟨_, trivial, fun h => ⟨?_, ?_, ?_, rfl⟩, rfl, ?_⟩; (first | exact h | rfl); exact okG; exact okG) | refine .inl ?_) | refine cY ?_ (by first | (with_reducible first | rfl | assumption) | decide) | refine cN ?_ (by first | (with_reducible first | rfl | assumption) | decide) | refine gA ?_ (by first | (with_reducible first | rfl | assumption) | decide) | refine gB ?_ (by first | (with_reducible first | rfl | assumption) | decide) | refine gC ?_ (by first | (with_reducible first | rfl | assumption) | decide) | ((first | refine gsT (fun h => ?_) (fun h => ?_) | refine gsF (fun h => ?_) (fun h => ?_) | refine ⟨fun h => ?_, fun h => ?_⟩) <;> (have hs := h; try simp only [cs, reduceCtorEq, Int.reduceEq, Int.reduceNe, Int.reduceLT, Int.reduceLE, Int.reduceBEq, Int.reduceBNe] at hs)) | (refine .inl ⟨_, _, c_heads, ?_⟩) | (refine .inl ⟨_, _, c_IndexB ho rfl, ?_⟩) | (refine .inl ⟨_, _, c_CloneN (l := [d]) (by first | omega | (simp only [List.length_cons, List.length_nil]; omega)) okL, ?_⟩) | (refine .inl ⟨_, _, c_countB (op := 4) (b := true) (by decide) (rfl), ?_⟩) | (refine .inl ⟨_, _, c_filesB (l := [d]) (b := cmFiles (cmOf 4 [d])) (Nat.le_of_ble_eq_true rfl) (sz1 hd) hB.symm okL, ?_⟩) | ((with_reducible show _ ∧ _ ∧ Weak _ _ _); refine ⟨?_, ?_, Weak.go⟩; (omega)) | (refine ⟨_, _, c_heads, ?_⟩) | (refine ⟨_, _, c_IndexB ho rfl, ?_⟩) | (refine ⟨_, _, c_CloneN (l := [d]) (by first | omega | (simp only [List.length_cons, List.length_nil]; omega)) okL, ?_⟩) | (refine ⟨_, _, c_countB (op := 4) (b := true) (by decide) (rfl), ?_⟩) | (refine ⟨_, _, c_filesB (l := [d]) (b := cmFiles (cmOf 4 [d])) (Nat.le_of_ble_eq_true rfl) (sz1 hd) hB.symm okL, ?_⟩) | (first | (refine XW.draw (id := 5) (m := 8) (by kernel_rfl) (by kernel_rfl) (by rfl) ?_) | ((with_reducible show _ ∧ allW _ _); refine ⟨?_, ?_⟩) | exact trivial) | ((with_reducible show (_ ∧ _ ∧ _) ∧ _); refine ⟨⟨by kernel_rfl, by kernel_rfl, by rfl⟩, ?_⟩) | ((with_reducible show AV.pf _ = true ∧ _); refine pfA ?_) | (refine ⟨rfl, ?_, ?_, ?_⟩; exact okG; exact okG) | ((with_reducible show (_ ∨ _) ∧ _ ∧ retA _ _ _ _ _); refine ⟨?_, rfl, ?_⟩; (first | exact .inr rfl | exact .inl rfl)) | ((with_reducible show _ = _ ∧ _ = false ∧ _ = _); refine ⟨?_, rfl, rfl⟩; try (first | rfl | (conv => lhs; whnf))) | ((with_reducible show _ = _ ∧ (_ → _)); refine ⟨?_, ?_⟩; try (first | rfl | (conv => lhs; whnf))) | exact fun h => h | exact fun _ => rfl | refine ⟨rfl, ?_⟩ | (refine ⟨Nat.le_of_ble_eq_true rfl, ?_⟩) | (refine ⟨?_, ?_, ?_⟩; exact okS; exact okS) | (refine ⟨?_, ?_⟩; exact okS) | fail)
  all_goals try (exfalso; simp only [List.length_cons, List.length_nil, List.length_append, List.length_map, List.length_drop, List.length_take] at hs; omega)
  · have hq : cmFiles (cmOf 4 [d]) = false := by cases hc : cmFiles (cmOf 4 [d]); rfl; exact absurd (by rw [hc]; rfl) hs
    exact parse_badB (hE.trans (if_neg (by rw [hq]; simp))) hq
  · have h0 := hE.trans (if_pos (errIf_0.1 hs))
    exact parse_good (c := ⟨4, d, [], [], 0⟩) h0 (parseC_of ho h0) okL okL
theorem cP_5 {w d : ByteArray} (ho : opFrom w 1 8 = 5) (hd : d.size ≤ 140737488355328) : XPure Tryz.prog 67 [eS (w :: [d])] (.tup [(parseC (w :: [d])).av, i64 (parseE (w :: [d]))]) false := by
  have hE := parseE_k (w := w) (l := [d]) (Nat.le_of_ble_eq_true rfl) ho rfl (by decide)
  have hB : cmFiles (cmOf 5 [d]) = [d].all isName := rfl
  refine XPure.bodyN ⟨_, Tryz.func67, rfl, by kernel_rfl⟩ Tryz.func67 rfl (Nat.le_of_ble_eq_true (by rfl)) (pf_of1 rfl) fun env => ?_
  repeat' ((conv => whnf); (fail_if_success (with_reducible show LeqD _ _)); (fail_if_success (with_reducible show ∃ _, _ ∧ _ ∧ Weak _ _ _)); first | ((with_reducible show guardA _ _ _ _ _ _ ∨ _); first | (refine .inr ?_; (conv => whnf); refine ⟨_, ?_, fun h => rfl, rfl, ?_⟩; ((conv => whnf); first | exact trivial | (refine ⟨?_, trivial⟩; exact okG))) | (refine .inr ?_; (conv => whnf); refine ⟨_, trivial, fun h => ⟨?_, ?_, ?_, rfl⟩, rfl, ?_⟩; (first | exact h | rfl); exact okG; exact okG) | refine .inl ?_) | refine cY ?_ (by first | (with_reducible first | rfl | assumption) | decide) | refine cN ?_ (by first | (with_reducible first | rfl | assumption) | decide) | refine gA ?_ (by first | (with_reducible first | rfl | assumption) | decide) | refine gB ?_ (by first | (with_reducible first | rfl | assumption) | decide) | refine gC ?_ (by first | (with_reducible first | rfl | assumption) | decide) | ((first | refine gsT (fun h => ?_) (fun h => ?_) | refine gsF (fun h => ?_) (fun h => ?_) | refine ⟨fun h => ?_, fun h => ?_⟩) <;> (have hs := h; try simp only [cs, reduceCtorEq, Int.reduceEq, Int.reduceNe, Int.reduceLT, Int.reduceLE, Int.reduceBEq, Int.reduceBNe] at hs)) | (refine .inl ⟨_, _, c_heads, ?_⟩) | (refine .inl ⟨_, _, c_IndexB ho rfl, ?_⟩) | (refine .inl ⟨_, _, c_CloneN (l := [d]) (by first | omega | (simp only [List.length_cons, List.length_nil]; omega)) okL, ?_⟩) | (refine .inl ⟨_, _, c_countB (op := 5) (b := true) (by decide) (rfl), ?_⟩) | (refine .inl ⟨_, _, c_filesB (l := [d]) (b := cmFiles (cmOf 5 [d])) (Nat.le_of_ble_eq_true rfl) (sz1 hd) hB.symm okL, ?_⟩) | ((with_reducible show _ ∧ _ ∧ Weak _ _ _); refine ⟨?_, ?_, Weak.go⟩; (omega)) | (refine ⟨_, _, c_heads, ?_⟩) | (refine ⟨_, _, c_IndexB ho rfl, ?_⟩) | (refine ⟨_, _, c_CloneN (l := [d]) (by first | omega | (simp only [List.length_cons, List.length_nil]; omega)) okL, ?_⟩) | (refine ⟨_, _, c_countB (op := 5) (b := true) (by decide) (rfl), ?_⟩) | (refine ⟨_, _, c_filesB (l := [d]) (b := cmFiles (cmOf 5 [d])) (Nat.le_of_ble_eq_true rfl) (sz1 hd) hB.symm okL, ?_⟩) | (first | (refine XW.draw (id := 5) (m := 8) (by kernel_rfl) (by kernel_rfl) (by rfl) ?_) | ((with_reducible show _ ∧ allW _ _); refine ⟨?_, ?_⟩) | exact trivial) | ((with_reducible show (_ ∧ _ ∧ _) ∧ _); refine ⟨⟨by kernel_rfl, by kernel_rfl, by rfl⟩, ?_⟩) | ((with_reducible show AV.pf _ = true ∧ _); refine pfA ?_) | (refine ⟨rfl, ?_, ?_, ?_⟩; exact okG; exact okG) | ((with_reducible show (_ ∨ _) ∧ _ ∧ retA _ _ _ _ _); refine ⟨?_, rfl, ?_⟩; (first | exact .inr rfl | exact .inl rfl)) | ((with_reducible show _ = _ ∧ _ = false ∧ _ = _); refine ⟨?_, rfl, rfl⟩; try (first | rfl | (conv => lhs; whnf))) | ((with_reducible show _ = _ ∧ (_ → _)); refine ⟨?_, ?_⟩; try (first | rfl | (conv => lhs; whnf))) | exact fun h => h | exact fun _ => rfl | refine ⟨rfl, ?_⟩ | (refine ⟨Nat.le_of_ble_eq_true rfl, ?_⟩) | (refine ⟨?_, ?_, ?_⟩; exact okS; exact okS) | (refine ⟨?_, ?_⟩; exact okS) | fail)
  all_goals try (exfalso; simp only [List.length_cons, List.length_nil, List.length_append, List.length_map, List.length_drop, List.length_take] at hs; omega)
  · have hq : cmFiles (cmOf 5 [d]) = false := by cases hc : cmFiles (cmOf 5 [d]); rfl; exact absurd (by rw [hc]; rfl) hs
    exact parse_badB (hE.trans (if_neg (by rw [hq]; simp))) hq
  · have h0 := hE.trans (if_pos (errIf_0.1 hs))
    exact parse_good (c := ⟨5, d, [], [], 0⟩) h0 (parseC_of ho h0) okL okL
theorem cP_6 {w s : ByteArray} (ho : opFrom w 1 8 = 6) (hd : s.size ≤ 140737488355328) : XPure Tryz.prog 67 [eS (w :: [s])] (.tup [(parseC (w :: [s])).av, i64 (parseE (w :: [s]))]) false := by
  have hE := parseE_k (w := w) (l := [s]) (Nat.le_of_ble_eq_true rfl) ho rfl (by decide)
  have hB : cmFiles (cmOf 6 [s]) = [s].all isName := rfl
  refine XPure.bodyN ⟨_, Tryz.func67, rfl, by kernel_rfl⟩ Tryz.func67 rfl (Nat.le_of_ble_eq_true (by rfl)) (pf_of1 rfl) fun env => ?_
  repeat' ((conv => whnf); (fail_if_success (with_reducible show LeqD _ _)); (fail_if_success (with_reducible show ∃ _, _ ∧ _ ∧ Weak _ _ _)); first | ((with_reducible show guardA _ _ _ _ _ _ ∨ _); first | (refine .inr ?_; (conv => whnf); refine ⟨_, ?_, fun h => rfl, rfl, ?_⟩; ((conv => whnf); first | exact trivial | (refine ⟨?_, trivial⟩; exact okG))) | (refine .inr ?_; (conv => whnf); refine ⟨_, trivial, fun h => ⟨?_, ?_, ?_, rfl⟩, rfl, ?_⟩; (first | exact h | rfl); exact okG; exact okG) | refine .inl ?_) | refine cY ?_ (by first | (with_reducible first | rfl | assumption) | decide) | refine cN ?_ (by first | (with_reducible first | rfl | assumption) | decide) | refine gA ?_ (by first | (with_reducible first | rfl | assumption) | decide) | refine gB ?_ (by first | (with_reducible first | rfl | assumption) | decide) | refine gC ?_ (by first | (with_reducible first | rfl | assumption) | decide) | ((first | refine gsT (fun h => ?_) (fun h => ?_) | refine gsF (fun h => ?_) (fun h => ?_) | refine ⟨fun h => ?_, fun h => ?_⟩) <;> (have hs := h; try simp only [cs, reduceCtorEq, Int.reduceEq, Int.reduceNe, Int.reduceLT, Int.reduceLE, Int.reduceBEq, Int.reduceBNe] at hs)) | (refine .inl ⟨_, _, c_heads, ?_⟩) | (refine .inl ⟨_, _, c_IndexB ho rfl, ?_⟩) | (refine .inl ⟨_, _, c_CloneN (l := [s]) (by first | omega | (simp only [List.length_cons, List.length_nil]; omega)) okL, ?_⟩) | (refine .inl ⟨_, _, c_countB (op := 6) (b := true) (by decide) (rfl), ?_⟩) | (refine .inl ⟨_, _, c_filesB (l := [s]) (b := cmFiles (cmOf 6 [s])) (Nat.le_of_ble_eq_true rfl) (sz1 hd) hB.symm okL, ?_⟩) | ((with_reducible show _ ∧ _ ∧ Weak _ _ _); refine ⟨?_, ?_, Weak.go⟩; (omega)) | (refine ⟨_, _, c_heads, ?_⟩) | (refine ⟨_, _, c_IndexB ho rfl, ?_⟩) | (refine ⟨_, _, c_CloneN (l := [s]) (by first | omega | (simp only [List.length_cons, List.length_nil]; omega)) okL, ?_⟩) | (refine ⟨_, _, c_countB (op := 6) (b := true) (by decide) (rfl), ?_⟩) | (refine ⟨_, _, c_filesB (l := [s]) (b := cmFiles (cmOf 6 [s])) (Nat.le_of_ble_eq_true rfl) (sz1 hd) hB.symm okL, ?_⟩) | (first | (refine XW.draw (id := 5) (m := 8) (by kernel_rfl) (by kernel_rfl) (by rfl) ?_) | ((with_reducible show _ ∧ allW _ _); refine ⟨?_, ?_⟩) | exact trivial) | ((with_reducible show (_ ∧ _ ∧ _) ∧ _); refine ⟨⟨by kernel_rfl, by kernel_rfl, by rfl⟩, ?_⟩) | ((with_reducible show AV.pf _ = true ∧ _); refine pfA ?_) | (refine ⟨rfl, ?_, ?_, ?_⟩; exact okG; exact okG) | ((with_reducible show (_ ∨ _) ∧ _ ∧ retA _ _ _ _ _); refine ⟨?_, rfl, ?_⟩; (first | exact .inr rfl | exact .inl rfl)) | ((with_reducible show _ = _ ∧ _ = false ∧ _ = _); refine ⟨?_, rfl, rfl⟩; try (first | rfl | (conv => lhs; whnf))) | ((with_reducible show _ = _ ∧ (_ → _)); refine ⟨?_, ?_⟩; try (first | rfl | (conv => lhs; whnf))) | exact fun h => h | exact fun _ => rfl | refine ⟨rfl, ?_⟩ | (refine ⟨Nat.le_of_ble_eq_true rfl, ?_⟩) | (refine ⟨?_, ?_, ?_⟩; exact okS; exact okS) | (refine ⟨?_, ?_⟩; exact okS) | fail)
  all_goals try (exfalso; simp only [List.length_cons, List.length_nil, List.length_append, List.length_map, List.length_drop, List.length_take] at hs; omega)
  · have hq : cmFiles (cmOf 6 [s]) = false := by cases hc : cmFiles (cmOf 6 [s]); rfl; exact absurd (by rw [hc]; rfl) hs
    exact parse_badB (hE.trans (if_neg (by rw [hq]; simp))) hq
  · have h0 := hE.trans (if_pos (errIf_0.1 hs))
    exact parse_good (c := ⟨6, ⟨#[]⟩, [s], [], 0⟩) h0 (parseC_of ho h0) okL okL
theorem cP_8 {w : ByteArray} {ws : List ByteArray} (ho : opFrom w 1 8 = 8) (h2 : ws.length ≤ 512) : XPure Tryz.prog 67 [eS (w :: ws)] (.tup [(parseC (w :: ws)).av, i64 (parseE (w :: ws))]) false := by
  have hE := parseE_k (w := w) (l := ws) (by omega) ho (by simp [manyOk]; omega) (by decide)
  have hB : cmFiles (cmOf 8 ws) = [].all isName := rfl
  refine XPure.bodyN ⟨_, Tryz.func67, rfl, by kernel_rfl⟩ Tryz.func67 rfl (Nat.le_of_ble_eq_true (by rfl)) (pf_of1 rfl) fun env => ?_
  repeat' ((conv => whnf); (fail_if_success (with_reducible show LeqD _ _)); (fail_if_success (with_reducible show ∃ _, _ ∧ _ ∧ Weak _ _ _)); first | ((with_reducible show guardA _ _ _ _ _ _ ∨ _); first | (refine .inr ?_; (conv => whnf); refine ⟨_, ?_, fun h => rfl, rfl, ?_⟩; ((conv => whnf); first | exact trivial | (refine ⟨?_, trivial⟩; exact okG))) | (refine .inr ?_; (conv => whnf); refine ⟨_, trivial, fun h => ⟨?_, ?_, ?_, rfl⟩, rfl, ?_⟩; (first | exact h | rfl); exact okG; exact okG) | refine .inl ?_) | refine cY ?_ (by first | (with_reducible first | rfl | assumption) | decide) | refine cN ?_ (by first | (with_reducible first | rfl | assumption) | decide) | refine gA ?_ (by first | (with_reducible first | rfl | assumption) | decide) | refine gB ?_ (by first | (with_reducible first | rfl | assumption) | decide) | refine gC ?_ (by first | (with_reducible first | rfl | assumption) | decide) | ((first | refine gsT (fun h => ?_) (fun h => ?_) | refine gsF (fun h => ?_) (fun h => ?_) | refine ⟨fun h => ?_, fun h => ?_⟩) <;> (have hs := h; try simp only [cs, reduceCtorEq, Int.reduceEq, Int.reduceNe, Int.reduceLT, Int.reduceLE, Int.reduceBEq, Int.reduceBNe] at hs)) | (refine .inl ⟨_, _, c_heads, ?_⟩) | (refine .inl ⟨_, _, c_IndexB ho rfl, ?_⟩) | (refine .inl ⟨_, _, c_CloneN (l := ws) (by first | omega | (simp only [List.length_cons, List.length_nil]; omega)) okL, ?_⟩) | (refine .inl ⟨_, _, c_countB (op := 8) (b := true) (by decide) (by simp [manyOk]; omega), ?_⟩) | (refine .inl ⟨_, _, c_filesB (l := []) (b := cmFiles (cmOf 8 ws)) (Nat.le_of_ble_eq_true rfl) (szE) hB.symm okL, ?_⟩) | ((with_reducible show _ ∧ _ ∧ Weak _ _ _); refine ⟨?_, ?_, Weak.go⟩; (omega)) | (refine ⟨_, _, c_heads, ?_⟩) | (refine ⟨_, _, c_IndexB ho rfl, ?_⟩) | (refine ⟨_, _, c_CloneN (l := ws) (by first | omega | (simp only [List.length_cons, List.length_nil]; omega)) okL, ?_⟩) | (refine ⟨_, _, c_countB (op := 8) (b := true) (by decide) (by simp [manyOk]; omega), ?_⟩) | (refine ⟨_, _, c_filesB (l := []) (b := cmFiles (cmOf 8 ws)) (Nat.le_of_ble_eq_true rfl) (szE) hB.symm okL, ?_⟩) | (first | (refine XW.draw (id := 5) (m := 8) (by kernel_rfl) (by kernel_rfl) (by rfl) ?_) | ((with_reducible show _ ∧ allW _ _); refine ⟨?_, ?_⟩) | exact trivial) | ((with_reducible show (_ ∧ _ ∧ _) ∧ _); refine ⟨⟨by kernel_rfl, by kernel_rfl, by rfl⟩, ?_⟩) | ((with_reducible show AV.pf _ = true ∧ _); refine pfA ?_) | (refine ⟨rfl, ?_, ?_, ?_⟩; exact okG; exact okG) | ((with_reducible show (_ ∨ _) ∧ _ ∧ retA _ _ _ _ _); refine ⟨?_, rfl, ?_⟩; (first | exact .inr rfl | exact .inl rfl)) | ((with_reducible show _ = _ ∧ _ = false ∧ _ = _); refine ⟨?_, rfl, rfl⟩; try (first | rfl | (conv => lhs; whnf))) | ((with_reducible show _ = _ ∧ (_ → _)); refine ⟨?_, ?_⟩; try (first | rfl | (conv => lhs; whnf))) | exact fun h => h | exact fun _ => rfl | refine ⟨rfl, ?_⟩ | (refine ⟨Nat.le_of_ble_eq_true rfl, ?_⟩) | (refine ⟨?_, ?_, ?_⟩; exact okS; exact okS) | (refine ⟨?_, ?_⟩; exact okS) | fail)
  all_goals try (exfalso; simp only [List.length_cons, List.length_nil, List.length_append, List.length_map, List.length_drop, List.length_take] at hs; omega)
  · have hq : cmFiles (cmOf 8 ws) = false := by cases hc : cmFiles (cmOf 8 ws); rfl; exact absurd (by rw [hc]; rfl) hs
    exact parse_badB (hE.trans (if_neg (by rw [hq]; simp))) hq
  · have h0 := hE.trans (if_pos (errIf_0.1 hs))
    exact parse_good (c := ⟨8, ⟨#[]⟩, [], ws, 0⟩) h0 (parseC_of ho h0) okL okL
theorem cP_7a {w : ByteArray} (ho : opFrom w 1 8 = 7) : XPure Tryz.prog 67 [eS [w]] (.tup [(parseC [w]).av, i64 (parseE [w])]) false := by
  have hE := parseE_7 (w := w) (l := []) (Nat.le_of_ble_eq_true rfl) ho rfl
  refine XPure.bodyN ⟨_, Tryz.func67, rfl, by kernel_rfl⟩ Tryz.func67 rfl (Nat.le_of_ble_eq_true (by rfl)) (pf_of1 rfl) fun env => ?_
  repeat' ((conv => whnf); (fail_if_success (with_reducible show LeqD _ _)); (fail_if_success (with_reducible show ∃ _, _ ∧ _ ∧ Weak _ _ _)); first | ((with_reducible show guardA _ _ _ _ _ _ ∨ _); first | (refine .inr ?_; (conv => whnf); refine ⟨_, ?_, fun h => rfl, rfl, ?_⟩; ((conv => whnf); first | exact trivial | (refine ⟨?_, trivial⟩; exact okG))) | (refine .inr ?_; (conv => whnf); refine ⟨_, trivial, fun h => ⟨?_, ?_, ?_, rfl⟩, rfl, ?_⟩; (first | exact h | rfl); exact okG; exact okG) | refine .inl ?_) | refine cY ?_ (by first | (with_reducible first | rfl | assumption) | decide) | refine cN ?_ (by first | (with_reducible first | rfl | assumption) | decide) | refine gA ?_ (by first | (with_reducible first | rfl | assumption) | decide) | refine gB ?_ (by first | (with_reducible first | rfl | assumption) | decide) | refine gC ?_ (by first | (with_reducible first | rfl | assumption) | decide) | ((first | refine gsT (fun h => ?_) (fun h => ?_) | refine gsF (fun h => ?_) (fun h => ?_) | refine ⟨fun h => ?_, fun h => ?_⟩) <;> (have hs := h; try simp only [cs, reduceCtorEq, Int.reduceEq, Int.reduceNe, Int.reduceLT, Int.reduceLE, Int.reduceBEq, Int.reduceBNe] at hs)) | (refine .inl ⟨_, _, c_heads, ?_⟩) | (refine .inl ⟨_, _, c_IndexB ho rfl, ?_⟩) | (refine .inl ⟨_, _, c_CloneN (l := []) (Nat.le_of_ble_eq_true rfl) okL, ?_⟩) | (refine .inl ⟨_, _, c_countB (op := 7) (b := true) (by decide) rfl, ?_⟩) | (refine .inl ⟨_, _, c_filesB (l := []) (b := true) (Nat.le_of_ble_eq_true rfl) szE rfl okL, ?_⟩) | ((with_reducible show _ ∧ _ ∧ Weak _ _ _); refine ⟨?_, ?_, Weak.go⟩; (omega)) | (refine ⟨_, _, c_heads, ?_⟩) | (refine ⟨_, _, c_IndexB ho rfl, ?_⟩) | (refine ⟨_, _, c_CloneN (l := []) (Nat.le_of_ble_eq_true rfl) okL, ?_⟩) | (refine ⟨_, _, c_countB (op := 7) (b := true) (by decide) rfl, ?_⟩) | (refine ⟨_, _, c_filesB (l := []) (b := true) (Nat.le_of_ble_eq_true rfl) szE rfl okL, ?_⟩) | (first | (refine XW.draw (id := 5) (m := 8) (by kernel_rfl) (by kernel_rfl) (by rfl) ?_) | ((with_reducible show _ ∧ allW _ _); refine ⟨?_, ?_⟩) | exact trivial) | ((with_reducible show (_ ∧ _ ∧ _) ∧ _); refine ⟨⟨by kernel_rfl, by kernel_rfl, by rfl⟩, ?_⟩) | ((with_reducible show AV.pf _ = true ∧ _); refine pfA ?_) | (refine ⟨rfl, ?_, ?_, ?_⟩; exact okG; exact okG) | ((with_reducible show (_ ∨ _) ∧ _ ∧ retA _ _ _ _ _); refine ⟨?_, rfl, ?_⟩; (first | exact .inr rfl | exact .inl rfl)) | ((with_reducible show _ = _ ∧ _ = false ∧ _ = _); refine ⟨?_, rfl, rfl⟩; try (first | rfl | (conv => lhs; whnf))) | ((with_reducible show _ = _ ∧ (_ → _)); refine ⟨?_, ?_⟩; try (first | rfl | (conv => lhs; whnf))) | exact fun h => h | exact fun _ => rfl | refine ⟨rfl, ?_⟩ | (refine ⟨Nat.le_of_ble_eq_true rfl, ?_⟩) | (refine ⟨?_, ?_, ?_⟩; exact okS; exact okS) | (refine ⟨?_, ?_⟩; exact okS) | fail)
  all_goals try (exfalso; simp only [List.length_cons, List.length_nil, List.length_append, List.length_map, List.length_drop, List.length_take] at hs; omega)
  · have h0 : parseE [w] = 0 := hE.trans rfl
    exact parse_good (c := ⟨7, ⟨#[]⟩, [], [], 1⟩) h0 (parseC_of ho h0) okL okL
theorem cP_7e {w s : ByteArray} (ho : opFrom w 1 8 = 7) (hd : s.size ≤ 140737488355328) (hA : ∀ v, Lib.atoiAll s.data.toList ≠ .ok v) : XPure Tryz.prog 67 [eS [w, s]] (.tup [(parseC [w, s]).av, i64 (parseE [w, s])]) false := by
  have hE : parseE [w, s] = 160 := (parseE_7 (w := w) (l := [s]) (Nat.le_of_ble_eq_true rfl) ho rfl).trans (if_pos (failN_err hA))
  refine XPure.bodyN ⟨_, Tryz.func67, rfl, by kernel_rfl⟩ Tryz.func67 rfl (Nat.le_of_ble_eq_true (by rfl)) (pf_of1 rfl) fun env => ?_
  repeat' ((conv => whnf); (fail_if_success (with_reducible show LeqD _ _)); (fail_if_success (with_reducible show ∃ _, _ ∧ _ ∧ Weak _ _ _)); first | ((with_reducible show guardA _ _ _ _ _ _ ∨ _); first | (refine .inr ?_; (conv => whnf); refine ⟨_, ?_, fun h => rfl, rfl, ?_⟩; ((conv => whnf); first | exact trivial | (refine ⟨?_, trivial⟩; exact okG))) | (refine .inr ?_; (conv => whnf); refine ⟨_, trivial, fun h => ⟨?_, ?_, ?_, rfl⟩, rfl, ?_⟩; (first | exact h | rfl); exact okG; exact okG) | refine .inl ?_) | refine cY ?_ (by first | (with_reducible first | rfl | assumption) | decide) | refine cN ?_ (by first | (with_reducible first | rfl | assumption) | decide) | refine gA ?_ (by first | (with_reducible first | rfl | assumption) | decide) | refine gB ?_ (by first | (with_reducible first | rfl | assumption) | decide) | refine gC ?_ (by first | (with_reducible first | rfl | assumption) | decide) | ((first | refine gsT (fun h => ?_) (fun h => ?_) | refine gsF (fun h => ?_) (fun h => ?_) | refine ⟨fun h => ?_, fun h => ?_⟩) <;> (have hs := h; try simp only [cs, reduceCtorEq, Int.reduceEq, Int.reduceNe, Int.reduceLT, Int.reduceLE, Int.reduceBEq, Int.reduceBNe] at hs)) | (refine .inl ⟨_, _, c_heads, ?_⟩) | (refine .inl ⟨_, _, c_IndexB ho rfl, ?_⟩) | (refine .inl ⟨_, _, c_CloneN (l := [s]) (Nat.le_of_ble_eq_true rfl) okL, ?_⟩) | (refine .inl ⟨_, _, c_countB (op := 7) (b := true) (by decide) rfl, ?_⟩) | (refine .inl ⟨_, _, c_Atoi_err hd hA, ?_⟩) | ((with_reducible show _ ∧ _ ∧ Weak _ _ _); refine ⟨?_, ?_, Weak.go⟩; (omega)) | (refine ⟨_, _, c_heads, ?_⟩) | (refine ⟨_, _, c_IndexB ho rfl, ?_⟩) | (refine ⟨_, _, c_CloneN (l := [s]) (Nat.le_of_ble_eq_true rfl) okL, ?_⟩) | (refine ⟨_, _, c_countB (op := 7) (b := true) (by decide) rfl, ?_⟩) | (refine ⟨_, _, c_Atoi_err hd hA, ?_⟩) | (first | (refine XW.draw (id := 5) (m := 8) (by kernel_rfl) (by kernel_rfl) (by rfl) ?_) | (refine XW.draw (id := 31) (m := 16) (by kernel_rfl) (by kernel_rfl) (by rfl) ?_) | ((with_reducible show _ ∧ allW _ _); refine ⟨?_, ?_⟩) | exact trivial) | ((with_reducible show (_ ∧ _ ∧ _) ∧ _); refine ⟨⟨by kernel_rfl, by kernel_rfl, by rfl⟩, ?_⟩) | ((with_reducible show AV.pf _ = true ∧ _); refine pfA ?_) | (refine ⟨rfl, ?_, ?_, ?_⟩; exact okG; exact okG) | ((with_reducible show (_ ∨ _) ∧ _ ∧ retA _ _ _ _ _); refine ⟨?_, rfl, ?_⟩; (first | exact .inr rfl | exact .inl rfl)) | ((with_reducible show _ = _ ∧ _ = false ∧ _ = _); refine ⟨?_, rfl, rfl⟩; try (first | rfl | (conv => lhs; whnf))) | ((with_reducible show _ = _ ∧ (_ → _)); refine ⟨?_, ?_⟩; try (first | rfl | (conv => lhs; whnf))) | exact fun h => h | exact fun _ => rfl | refine ⟨rfl, ?_⟩ | (refine ⟨Nat.le_of_ble_eq_true rfl, ?_⟩) | (refine ⟨?_, ?_, ?_⟩; exact okS; exact okS) | (refine ⟨?_, ?_⟩; exact okS) | fail)
  all_goals try (exfalso; simp only [List.length_cons, List.length_nil, List.length_append, List.length_map, List.length_drop, List.length_take] at hs; omega)
  exact parse_bad hE (by decide)
theorem cP_7o {w s : ByteArray} {v : Int} (ho : opFrom w 1 8 = 7) (hd : s.size ≤ 140737488355328) (hA : Lib.atoiAll s.data.toList = .ok v) (h0 : -9223372036854775808 ≤ v) (h1 : v ≤ 9223372036854775807) : XPure Tryz.prog 67 [eS [w, s]] (.tup [(parseC [w, s]).av, i64 (parseE [w, s])]) false := by
  have hE : parseE [w, s] = if failN s = 0 then 160 else 0 := parseE_7 (w := w) (l := [s]) (Nat.le_of_ble_eq_true rfl) ho rfl
  have hF := failN_ok hA
  refine XPure.bodyN ⟨_, Tryz.func67, rfl, by kernel_rfl⟩ Tryz.func67 rfl (Nat.le_of_ble_eq_true (by rfl)) (pf_of1 rfl) fun env => ?_
  repeat' ((conv => whnf); (fail_if_success (with_reducible show LeqD _ _)); (fail_if_success (with_reducible show ∃ _, _ ∧ _ ∧ Weak _ _ _)); first | ((with_reducible show guardA _ _ _ _ _ _ ∨ _); first | (refine .inr ?_; (conv => whnf); refine ⟨_, ?_, fun h => rfl, rfl, ?_⟩; ((conv => whnf); first | exact trivial | (refine ⟨?_, trivial⟩; exact okG))) | (refine .inr ?_; (conv => whnf); refine ⟨_, trivial, fun h => ⟨?_, ?_, ?_, rfl⟩, rfl, ?_⟩; (first | exact h | rfl); exact okG; exact okG) | refine .inl ?_) | refine cY ?_ (by first | (with_reducible first | rfl | assumption) | decide) | refine cN ?_ (by first | (with_reducible first | rfl | assumption) | decide) | refine gA ?_ (by first | (with_reducible first | rfl | assumption) | decide) | refine gB ?_ (by first | (with_reducible first | rfl | assumption) | decide) | refine gC ?_ (by first | (with_reducible first | rfl | assumption) | decide) | ((first | refine gsT (fun h => ?_) (fun h => ?_) | refine gsF (fun h => ?_) (fun h => ?_) | refine ⟨fun h => ?_, fun h => ?_⟩) <;> (have hs := h; try simp only [cs, reduceCtorEq, Int.reduceEq, Int.reduceNe, Int.reduceLT, Int.reduceLE, Int.reduceBEq, Int.reduceBNe] at hs)) | (refine .inl ⟨_, _, c_heads, ?_⟩) | (refine .inl ⟨_, _, c_IndexB ho rfl, ?_⟩) | (refine .inl ⟨_, _, c_CloneN (l := [s]) (Nat.le_of_ble_eq_true rfl) okL, ?_⟩) | (refine .inl ⟨_, _, c_countB (op := 7) (b := true) (by decide) rfl, ?_⟩) | (refine .inl ⟨_, _, c_Atoi_ok hd hA, ?_⟩) | (refine .inl ⟨_, _, c_Itoa h0 h1, ?_⟩) | (refine .inl ⟨_, _, c_filesB (l := []) (b := true) (Nat.le_of_ble_eq_true rfl) szE rfl okL, ?_⟩) | ((with_reducible show _ ∧ _ ∧ Weak _ _ _); refine ⟨?_, ?_, Weak.go⟩; (omega)) | (refine ⟨_, _, c_heads, ?_⟩) | (refine ⟨_, _, c_IndexB ho rfl, ?_⟩) | (refine ⟨_, _, c_CloneN (l := [s]) (Nat.le_of_ble_eq_true rfl) okL, ?_⟩) | (refine ⟨_, _, c_countB (op := 7) (b := true) (by decide) rfl, ?_⟩) | (refine ⟨_, _, c_Atoi_ok hd hA, ?_⟩) | (refine ⟨_, _, c_Itoa h0 h1, ?_⟩) | (refine ⟨_, _, c_filesB (l := []) (b := true) (Nat.le_of_ble_eq_true rfl) szE rfl okL, ?_⟩) | (first | (refine XW.draw (id := 5) (m := 8) (by kernel_rfl) (by kernel_rfl) (by rfl) ?_) | (refine XW.draw (id := 31) (m := 16) (by kernel_rfl) (by kernel_rfl) (by rfl) ?_) | ((with_reducible show _ ∧ allW _ _); refine ⟨?_, ?_⟩) | exact trivial) | ((with_reducible show (_ ∧ _ ∧ _) ∧ _); refine ⟨⟨by kernel_rfl, by kernel_rfl, by rfl⟩, ?_⟩) | ((with_reducible show AV.pf _ = true ∧ _); refine pfA ?_) | (refine ⟨rfl, ?_, ?_, ?_⟩; exact okG; exact okG) | ((with_reducible show (_ ∨ _) ∧ _ ∧ retA _ _ _ _ _); refine ⟨?_, rfl, ?_⟩; (first | exact .inr rfl | exact .inl rfl)) | ((with_reducible show _ = _ ∧ _ = false ∧ _ = _); refine ⟨?_, rfl, rfl⟩; try (first | rfl | (conv => lhs; whnf))) | ((with_reducible show _ = _ ∧ (_ → _)); refine ⟨?_, ?_⟩; try (first | rfl | (conv => lhs; whnf))) | exact fun h => h | exact fun _ => rfl | refine ⟨rfl, ?_⟩ | (refine ⟨Nat.le_of_ble_eq_true rfl, ?_⟩) | (refine ⟨?_, ?_, ?_⟩; exact okS; exact okS) | (refine ⟨?_, ?_⟩; exact okS) | fail)
  all_goals try (exfalso; simp only [List.length_cons, List.length_nil, List.length_append, List.length_map, List.length_drop, List.length_take] at hs; omega)
  · exact parse_bad (hE.trans (if_pos (hF.trans (if_neg (by rintro ⟨q1, q2, q3⟩; rcases hs with (g | g) | g; exact g q1; omega; omega))))) (by decide)
  · have hv : failN s = v := hF.trans (if_pos ⟨hs.1.1, hs.1.2, hs.2⟩)
    have h0 := hE.trans (if_neg (by rw [hv]; omega))
    exact parse_good (c := ⟨7, ⟨#[]⟩, [], [], v⟩) h0 ((parseC_of ho h0).trans (by show Cm.mk 7 ⟨#[]⟩ [] [] (failN s) = _; rw [hv])) okL okL
  · exact parse_bad (hE.trans (if_pos (hF.trans (if_neg (by rintro ⟨q1, q2, q3⟩; rcases hs with g | g; exact g q1; omega))))) (by decide)
  · exact parse_bad (hE.trans (if_pos (hF.trans (if_neg (by rintro ⟨q1, q2, q3⟩; exact hs q1))))) (by decide)
theorem cP_7b {w s : ByteArray} (ho : opFrom w 1 8 = 7) (hd : s.size ≤ 140737488355328) : XPure Tryz.prog 67 [eS [w, s]] (.tup [(parseC [w, s]).av, i64 (parseE [w, s])]) false := by
  by_cases hA : ∃ v, Lib.atoiAll s.data.toList = .ok v
  · obtain ⟨v, hA⟩ := hA
    obtain ⟨h0, h1⟩ := Lib.atoiAll_bounds hA
    exact cP_7o ho hd hA h0 h1
  · exact cP_7e ho hd (fun v e => hA ⟨v, e⟩)
theorem cP_bad {w : ByteArray} {l : List ByteArray} {op : Int} (hl : l.length ≤ 513) (ho : opFrom w 1 8 = op) (hm : manyOk op l.length = false) : XPure Tryz.prog 67 [eS (w :: l)] (.tup [(parseC (w :: l)).av, i64 (parseE (w :: l))]) false := by
  have hE : parseE (w :: l) = 160 := by rw [parseE_of hl ho, if_pos hm]
  have h8 := opFrom_cases w
  rw [ho] at h8
  have hw : IntKind.i64.wrap ((op - 1) + 1) = op := by rw [wrapId (by omega) (by omega)]; omega
  refine XPure.bodyN ⟨_, Tryz.func67, rfl, by kernel_rfl⟩ Tryz.func67 rfl (Nat.le_of_ble_eq_true (by rfl)) (pf_of1 rfl) fun env => ?_
  repeat' ((conv => whnf); (fail_if_success (with_reducible show LeqD _ _)); (fail_if_success (with_reducible show ∃ _, _ ∧ _ ∧ Weak _ _ _)); first | ((with_reducible show guardA _ _ _ _ _ _ ∨ _); first | (refine .inr ?_; (conv => whnf); refine ⟨_, ?_, fun h => rfl, rfl, ?_⟩; ((conv => whnf); first | exact trivial | (refine ⟨?_, trivial⟩; exact okG))) | (refine .inr ?_; (conv => whnf); refine ⟨_, trivial, fun h => ⟨?_, ?_, ?_, rfl⟩, rfl, ?_⟩; (first | exact h | rfl); exact okG; exact okG) | refine .inl ?_) | refine cY ?_ (by first | (with_reducible first | rfl | assumption) | decide) | refine cN ?_ (by first | (with_reducible first | rfl | assumption) | decide) | refine gA ?_ (by first | (with_reducible first | rfl | assumption) | decide) | refine gB ?_ (by first | (with_reducible first | rfl | assumption) | decide) | refine gC ?_ (by first | (with_reducible first | rfl | assumption) | decide) | ((first | refine gsT (fun h => ?_) (fun h => ?_) | refine gsF (fun h => ?_) (fun h => ?_) | refine ⟨fun h => ?_, fun h => ?_⟩) <;> (have hs := h; try simp only [cs, reduceCtorEq, Int.reduceEq, Int.reduceNe, Int.reduceLT, Int.reduceLE, Int.reduceBEq, Int.reduceBNe] at hs)) | (refine .inl ⟨_, _, c_heads, ?_⟩) | (refine .inl ⟨_, _, c_IndexB ho rfl, ?_⟩) | (refine .inl ⟨_, _, c_CloneN (l := l) (by omega) okL, ?_⟩) | (refine .inl ⟨_, _, c_countB (op := op) (b := false) (by omega) (by rw [← hm]; congr 1; simp), ?_⟩) | ((with_reducible show _ ∧ _ ∧ Weak _ _ _); refine ⟨?_, ?_, Weak.go⟩; (omega)) | (refine ⟨_, _, c_heads, ?_⟩) | (refine ⟨_, _, c_IndexB ho rfl, ?_⟩) | (refine ⟨_, _, c_CloneN (l := l) (by omega) okL, ?_⟩) | (refine ⟨_, _, c_countB (op := op) (b := false) (by omega) (by rw [← hm]; congr 1; simp), ?_⟩) | (first | (refine XW.draw (id := 5) (m := 8) (by kernel_rfl) (by kernel_rfl) (by rfl) ?_) | rw [hw]) | ((with_reducible show (_ ∧ _ ∧ _) ∧ _); refine ⟨⟨by kernel_rfl, by kernel_rfl, by rfl⟩, ?_⟩) | ((with_reducible show AV.pf _ = true ∧ _); refine pfA ?_) | (refine ⟨rfl, ?_, ?_, ?_⟩; exact okG; exact okG) | ((with_reducible show (_ ∨ _) ∧ _ ∧ retA _ _ _ _ _); refine ⟨?_, rfl, ?_⟩; (first | exact .inr rfl | exact .inl rfl)) | ((with_reducible show _ = _ ∧ _ = false ∧ _ = _); refine ⟨?_, rfl, rfl⟩; try (first | rfl | (conv => lhs; whnf))) | ((with_reducible show _ = _ ∧ (_ → _)); refine ⟨?_, ?_⟩; try (first | rfl | (conv => lhs; whnf))) | exact fun h => h | exact fun _ => rfl | refine ⟨rfl, ?_⟩ | (refine ⟨Nat.le_of_ble_eq_true rfl, ?_⟩) | (refine ⟨?_, ?_, ?_⟩; exact okS; exact okS) | (refine ⟨?_, ?_⟩; exact okS) | fail)
  all_goals try (exfalso; simp only [List.length_cons, List.length_nil, List.length_append, List.length_map, List.length_drop, List.length_take] at hs; omega)
  all_goals exact parse_bad hE (by decide)
theorem cP_long {ws : List ByteArray} (h : 514 < ws.length) : XPure Tryz.prog 67 [eS ws] (.tup [(parseC ws).av, i64 (parseE ws)]) false := by
  have hE : parseE ws = 2 := by unfold parseE; rw [if_pos h]
  refine XPure.bodyN ⟨_, Tryz.func67, rfl, by kernel_rfl⟩ Tryz.func67 rfl (Nat.le_of_ble_eq_true (by rfl)) (pf_of1 rfl) fun env => ?_
  repeat' ((conv => whnf); (fail_if_success (with_reducible show LeqD _ _)); (fail_if_success (with_reducible show ∃ _, _ ∧ _ ∧ Weak _ _ _)); first | ((with_reducible show guardA _ _ _ _ _ _ ∨ _); first | (refine .inr ?_; (conv => whnf); refine ⟨_, ?_, fun h => rfl, rfl, ?_⟩; ((conv => whnf); first | exact trivial | (refine ⟨?_, trivial⟩; exact okG))) | (refine .inr ?_; (conv => whnf); refine ⟨_, trivial, fun h => ⟨?_, ?_, ?_, rfl⟩, rfl, ?_⟩; (first | exact h | rfl); exact okG; exact okG) | refine .inl ?_) | refine cY ?_ (by first | (with_reducible first | rfl | assumption) | decide) | refine cN ?_ (by first | (with_reducible first | rfl | assumption) | decide) | refine gA ?_ (by first | (with_reducible first | rfl | assumption) | decide) | refine gB ?_ (by first | (with_reducible first | rfl | assumption) | decide) | refine gC ?_ (by first | (with_reducible first | rfl | assumption) | decide) | ((first | refine gsT (fun h => ?_) (fun h => ?_) | refine gsF (fun h => ?_) (fun h => ?_) | refine ⟨fun h => ?_, fun h => ?_⟩) <;> (have hs := h; try simp only [cs, reduceCtorEq, Int.reduceEq, Int.reduceNe, Int.reduceLT, Int.reduceLE, Int.reduceBEq, Int.reduceBNe] at hs)) | ((with_reducible show _ ∧ _ ∧ Weak _ _ _); refine ⟨?_, ?_, Weak.go⟩; (omega)) | ((with_reducible show (_ ∧ _ ∧ _) ∧ _); refine ⟨⟨by kernel_rfl, by kernel_rfl, by rfl⟩, ?_⟩) | ((with_reducible show AV.pf _ = true ∧ _); refine pfA ?_) | (refine ⟨rfl, ?_, ?_, ?_⟩; exact okG; exact okG) | ((with_reducible show (_ ∨ _) ∧ _ ∧ retA _ _ _ _ _); refine ⟨?_, rfl, ?_⟩; (first | exact .inr rfl | exact .inl rfl)) | ((with_reducible show _ = _ ∧ _ = false ∧ _ = _); refine ⟨?_, rfl, rfl⟩; try (first | rfl | (conv => lhs; whnf))) | ((with_reducible show _ = _ ∧ (_ → _)); refine ⟨?_, ?_⟩; try (first | rfl | (conv => lhs; whnf))) | exact fun h => h | exact fun _ => rfl | refine ⟨rfl, ?_⟩ | (refine ⟨Nat.le_of_ble_eq_true rfl, ?_⟩) | (refine ⟨?_, ?_, ?_⟩; exact okS; exact okS) | (refine ⟨?_, ?_⟩; exact okS) | fail)
  · exact parse_bad hE (by decide)
  all_goals (exfalso; omega)
theorem cP_nil : XPure Tryz.prog 67 [eS []] (.tup [(parseC []).av, i64 (parseE [])]) false := by
  have hE : parseE [] = 9 := by unfold parseE; rfl
  refine XPure.bodyN ⟨_, Tryz.func67, rfl, by kernel_rfl⟩ Tryz.func67 rfl (Nat.le_of_ble_eq_true (by rfl)) (pf_of1 rfl) fun env => ?_
  repeat' ((conv => whnf); (fail_if_success (with_reducible show LeqD _ _)); (fail_if_success (with_reducible show ∃ _, _ ∧ _ ∧ Weak _ _ _)); first | ((with_reducible show guardA _ _ _ _ _ _ ∨ _); first | (refine .inr ?_; (conv => whnf); refine ⟨_, ?_, fun h => rfl, rfl, ?_⟩; ((conv => whnf); first | exact trivial | (refine ⟨?_, trivial⟩; exact okG))) | (refine .inr ?_; (conv => whnf); refine ⟨_, trivial, fun h => ⟨?_, ?_, ?_, rfl⟩, rfl, ?_⟩; (first | exact h | rfl); exact okG; exact okG) | refine .inl ?_) | refine cY ?_ (by first | (with_reducible first | rfl | assumption) | decide) | refine cN ?_ (by first | (with_reducible first | rfl | assumption) | decide) | refine gA ?_ (by first | (with_reducible first | rfl | assumption) | decide) | refine gB ?_ (by first | (with_reducible first | rfl | assumption) | decide) | refine gC ?_ (by first | (with_reducible first | rfl | assumption) | decide) | ((first | refine gsT (fun h => ?_) (fun h => ?_) | refine gsF (fun h => ?_) (fun h => ?_) | refine ⟨fun h => ?_, fun h => ?_⟩) <;> (have hs := h; try simp only [cs, reduceCtorEq, Int.reduceEq, Int.reduceNe, Int.reduceLT, Int.reduceLE, Int.reduceBEq, Int.reduceBNe] at hs)) | ((with_reducible show _ ∧ _ ∧ Weak _ _ _); refine ⟨?_, ?_, Weak.go⟩; (omega)) | ((with_reducible show (_ ∧ _ ∧ _) ∧ _); refine ⟨⟨by kernel_rfl, by kernel_rfl, by rfl⟩, ?_⟩) | ((with_reducible show AV.pf _ = true ∧ _); refine pfA ?_) | (refine ⟨rfl, ?_, ?_, ?_⟩; exact okG; exact okG) | ((with_reducible show (_ ∨ _) ∧ _ ∧ retA _ _ _ _ _); refine ⟨?_, rfl, ?_⟩; (first | exact .inr rfl | exact .inl rfl)) | ((with_reducible show _ = _ ∧ _ = false ∧ _ = _); refine ⟨?_, rfl, rfl⟩; try (first | rfl | (conv => lhs; whnf))) | ((with_reducible show _ = _ ∧ (_ → _)); refine ⟨?_, ?_⟩; try (first | rfl | (conv => lhs; whnf))) | exact fun h => h | exact fun _ => rfl | refine ⟨rfl, ?_⟩ | (refine ⟨Nat.le_of_ble_eq_true rfl, ?_⟩) | (refine ⟨?_, ?_, ?_⟩; exact okS; exact okS) | (refine ⟨?_, ?_⟩; exact okS) | fail)
  exact parse_bad hE (by decide)
end Go.Proofs.YtepdiooaoegpfaaGreatDoor.Fx
end
section
/- The document's reading of a quoted word. Conditions: those in each statement. -/
namespace Go.Proofs.YtepdiooaoegpfaaGreatDoor.Fx
open Go Go.Proofs Go.Ev Go.RowKit Go.Proofs.YtepdiooaoegpfaaGreatDoor.Sup
set_option maxRecDepth 100000
set_option maxHeartbeats 1600000
set_option linter.unusedSimpArgs false
set_option linter.unusedVariables false
end Go.Proofs.YtepdiooaoegpfaaGreatDoor.Fx
end
section
/- The document's reading of a line's words. Conditions: those in each statement. -/
namespace Go.Proofs.YtepdiooaoegpfaaGreatDoor.Fx
open Go Go.Proofs Go.Ev Go.RowKit Go.Proofs.YtepdiooaoegpfaaGreatDoor.Sup
set_option maxRecDepth 100000
set_option maxHeartbeats 1600000
set_option linter.unusedSimpArgs false
set_option linter.unusedVariables false
end Go.Proofs.YtepdiooaoegpfaaGreatDoor.Fx
end
section
/- Words, and lines, as commands: the program and the document answer the same. Conditions: those in each statement. -/
namespace Go.Proofs.YtepdiooaoegpfaaGreatDoor.Fx
open Go Go.Proofs Go.Ev Go.RowKit Go.Proofs.YtepdiooaoegpfaaGreatDoor.Sup
set_option maxRecDepth 100000
set_option maxHeartbeats 1600000
set_option linter.unusedSimpArgs false
set_option linter.unusedVariables false
abbrev SzW (ws : List ByteArray) : Prop := ∀ i, i < ws.length → (ws.getD i .empty).size ≤ 140737488355328
theorem len2 {l : List ByteArray} (h : (l.length : Int) = 2) : ∃ a b, l = [a, b] := by
  match l, h with
  | [a, b], _ => exact ⟨a, b, rfl⟩
theorem len1 {l : List ByteArray} (h : (l.length : Int) = 1) : ∃ a, l = [a] := by
  match l, h with
  | [a], _ => exact ⟨a, rfl⟩
theorem lenS {l : List ByteArray} (h : 1 ≤ (l.length : Int)) : ∃ a r, l = a :: r := by
  match l, h with
  | a :: r, _ => exact ⟨a, r, rfl⟩
/-- What operands may stand behind an operation. -/
theorem shapes {w : ByteArray} {l : List ByteArray} (hm : manyOk (opFrom w 1 8) l.length = true) : (∃ a b, opFrom w 1 8 = 1 ∧ l = [a, b]) ∨ (∃ d src, opFrom w 1 8 = 2 ∧ l = d :: src ∧ 1 ≤ src.length ∧ src.length ≤ 64) ∨ (∃ d ws, opFrom w 1 8 = 3 ∧ l = d :: ws ∧ ws.length ≤ 512) ∨ (∃ d, opFrom w 1 8 = 4 ∧ l = [d]) ∨ (∃ d, opFrom w 1 8 = 5 ∧ l = [d]) ∨ (∃ s, opFrom w 1 8 = 6 ∧ l = [s]) ∨ (opFrom w 1 8 = 7 ∧ l = []) ∨ (∃ s, opFrom w 1 8 = 7 ∧ l = [s]) ∨ (opFrom w 1 8 = 8 ∧ l.length ≤ 512) := by
  rcases opFrom_cases w with h | h | h | h | h | h | h | h | h <;> rw [h] at hm ⊢ <;> simp [manyOk] at hm
  · obtain ⟨a, b, rfl⟩ := len2 (l := l) (by omega)
    exact .inl ⟨a, b, rfl, rfl⟩
  · obtain ⟨a, r, rfl⟩ := lenS (l := l) (by omega)
    simp only [List.length_cons] at hm
    exact .inr (.inl ⟨a, r, rfl, rfl, by omega, by omega⟩)
  · obtain ⟨a, r, rfl⟩ := lenS (l := l) (by omega)
    simp only [List.length_cons] at hm
    exact .inr (.inr (.inl ⟨a, r, rfl, rfl, by omega⟩))
  · obtain ⟨a, rfl⟩ := len1 (l := l) (by omega)
    exact .inr (.inr (.inr (.inl ⟨a, rfl, rfl⟩)))
  · obtain ⟨a, rfl⟩ := len1 (l := l) (by omega)
    exact .inr (.inr (.inr (.inr (.inl ⟨a, rfl, rfl⟩))))
  · obtain ⟨a, rfl⟩ := len1 (l := l) (by omega)
    exact .inr (.inr (.inr (.inr (.inr (.inl ⟨a, rfl, rfl⟩)))))
  · match l, hm with
    | [], _ => exact .inr (.inr (.inr (.inr (.inr (.inr (.inl ⟨rfl, rfl⟩))))))
    | [s], _ => exact .inr (.inr (.inr (.inr (.inr (.inr (.inr (.inl ⟨s, rfl, rfl⟩)))))))
    | _ :: _ :: _, h => simp only [List.length_cons] at h; omega
  · exact .inr (.inr (.inr (.inr (.inr (.inr (.inr (.inr ⟨rfl, by omega⟩)))))))
theorem SzW.tail {w : ByteArray} {l : List ByteArray} (h : SzW (w :: l)) : SzW l := fun i hi => h (i + 1) (by simpa using hi)
theorem SzW.head {w : ByteArray} {l : List ByteArray} (h : SzW (w :: l)) : w.size ≤ 140737488355328 := h 0 (by simp)
theorem c_cmd_Parse {ws : List ByteArray} (hz : SzW ws) : XPure Tryz.prog 67 [eS ws] (.tup [(parseC ws).av, i64 (parseE ws)]) false := by
  by_cases hl : 514 < ws.length
  · exact cP_long hl
  cases ws with
  | nil => exact cP_nil
  | cons w l =>
    simp only [List.length_cons] at hl
    have hz' := hz.tail
    cases hm : manyOk (opFrom w 1 8) l.length with
    | false => exact cP_bad (by omega) rfl hm
    | true =>
      rcases shapes hm with ⟨a, b, ho, rfl⟩ | ⟨d, src, ho, rfl, h1, h2⟩ | ⟨d, ws, ho, rfl, h2⟩ | ⟨d, ho, rfl⟩ | ⟨d, ho, rfl⟩ | ⟨s, ho, rfl⟩ | ⟨ho, rfl⟩ | ⟨s, ho, rfl⟩ | ⟨ho, h2⟩
      · exact cP_1 ho hz'.head hz'.tail.head
      · exact cP_2 ho h1 h2 hz'.head hz'.tail
      · exact cP_3 ho h2 hz'.head
      · exact cP_4 ho hz'.head
      · exact cP_5 ho hz'.head
      · exact cP_6 ho hz'.head
      · exact cP_7a ho
      · exact cP_7b ho hz'.head
      · exact cP_8 ho h2
theorem lexq_len : ∀ (l acc : List UInt8) (p : Nat) (w : List UInt8) (q : Nat), lexq l acc p = some (w, q) → w.length ≤ acc.length + l.length
  | [], _, _, _, _, h => by simp [lexq] at h
  | [c], acc, p, w, q, h => by
    rw [lexq_cons] at h
    split at h
    · cases h; simp
    · split at h
      · cases h
      · split at h
        · cases h
        · simp [lexq] at h
  | c :: d :: t, acc, p, w, q, h => by
    rw [lexq_cons] at h
    simp only at h
    split at h
    · cases h; simp
    · split at h
      · cases h
      · split at h
        · split at h
          · have := lexq_len _ _ _ _ _ h; simp only [List.length_cons, List.length_append, List.length_nil] at this ⊢; omega
          · split at h
            · have := lexq_len _ _ _ _ _ h; simp only [List.length_cons, List.length_append, List.length_nil] at this ⊢; omega
            · split at h
              · have := lexq_len _ _ _ _ _ h; simp only [List.length_cons, List.length_append, List.length_nil] at this ⊢; omega
              · cases h
        · have := lexq_len _ _ _ _ _ h; simp only [List.length_cons, List.length_append, List.length_nil] at this ⊢; omega
theorem wordsF_small : ∀ (k : Nat) (s : ByteArray) (i : Nat) (out r : List ByteArray), (∀ x ∈ out, x.size ≤ s.size) → wordsF k s i out = some r → ∀ x ∈ r, x.size ≤ s.size
  | 0, s, i, out, r, h, e => by simp only [wordsF, Option.some.injEq] at e; subst e; exact h
  | k + 1, s, i, out, r, h, e => by
    have app : ∀ y : ByteArray, y.size ≤ s.size → ∀ x ∈ out ++ [y], x.size ≤ s.size := fun y hy x hx => by
      rcases List.mem_append.1 hx with hx | hx
      · exact h x hx
      · rw [List.mem_singleton.1 hx]; exact hy
    rw [wordsF] at e
    split at e
    · split at e
      · exact wordsF_small k s _ out r h e
      · split at e
        · split at e
          · cases e
          · rename_i w q hq
            split at e
            · cases e
            · refine wordsF_small k s _ _ r (app _ ?_) e
              have := lexq_len _ _ _ _ _ hq
              rw [List.length_drop, len_data] at this
              show w.length ≤ s.size
              simp only [List.length_nil] at this
              omega
        · obtain ⟨n, hn⟩ : ∃ n, (if Lib.indexAny (s.extract i s.size).data.toList [32, 9] < 0 then s.size - i else (Lib.indexAny (s.extract i s.size).data.toList [32, 9]).toNat) = n := ⟨_, rfl⟩
          simp only [hn] at e
          split at e
          · cases e
          · refine wordsF_small k s _ _ r (app _ ?_) e
            rw [ByteArray.size_extract]; omega
    · simp only [Option.some.injEq] at e; subst e; exact h
theorem wordsV_small {t : ByteArray} : SzW (wordsV t) := by
  intro i hi
  rw [List.getD_eq_getElem?_getD, List.getElem?_eq_getElem hi]
  have hm : (wordsV t)[i] ∈ wordsV t := List.getElem_mem hi
  revert hm
  generalize (wordsV t)[i] = x
  intro hm
  show x.size ≤ _
  unfold wordsV at hm
  split at hm
  · cases hm
  · cases hL : wordsL t with
    | none => rw [hL] at hm; cases hm
    | some r =>
      rw [hL] at hm
      have := wordsF_small _ _ _ _ _ (by intro x hx; cases hx) hL x hm
      omega
/-- What a line says as a command. -/
@[irreducible] def lineE (t : ByteArray) : Int := if wordsE t = 0 then parseE (wordsV t) else wordsE t
@[irreducible] def lineC (t : ByteArray) : Cm := if wordsE t = 0 then parseC (wordsV t) else Cm.zero
theorem line_good {t : ByteArray} (h : wordsE t = 0) : lineE t = parseE (wordsV t) ∧ lineC t = parseC (wordsV t) := by
  unfold lineE lineC; exact ⟨if_pos h, if_pos h⟩
theorem line_bad {t : ByteArray} {e : Int} (h : wordsE t = e) (he : e ≠ 0) : LeqD (.tup [.agg [i64 0, str ⟨#[]⟩, nilv, nilv, i64 0], i64 e]) (.tup [(lineC t).av, i64 (lineE t)]) := by
  have h1 : lineE t = e := by unfold lineE; rw [if_neg (by rw [h]; exact he), h]
  have h2 : lineC t = Cm.zero := by unfold lineC; rw [if_neg (by rw [h]; exact he)]
  rw [h1, h2]
  repeat' (first | exact LeqD.nil (by decide) | exact LeqD.refl _ | exact LeqDL.refl _ | refine LeqDL.cons ?_ ?_ | refine LeqD.agg ?_ | refine LeqD.tup ?_)
theorem line_ok {t : ByteArray} (h : wordsE t = 0) : LeqD (.tup [(parseC (wordsV t)).av, i64 (parseE (wordsV t))]) (.tup [(lineC t).av, i64 (lineE t)]) := by
  obtain ⟨h1, h2⟩ := line_good h
  rw [h1, h2]; exact LeqD.refl _
theorem c_cmd_Line {t : ByteArray} : XPure Tryz.prog 44 [str t] (.tup [(lineC t).av, i64 (lineE t)]) false := by
  refine XPure.bodyN ⟨_, Tryz.func44, rfl, by kernel_rfl⟩ Tryz.func44 rfl (Nat.le_of_ble_eq_true (by rfl)) (pf_of1 rfl) fun env => ?_
  repeat' ((conv => whnf); (fail_if_success (with_reducible show LeqD _ _)); (fail_if_success (with_reducible show ∃ _, _ ∧ _ ∧ Weak _ _ _)); first | ((with_reducible show guardA _ _ _ _ _ _ ∨ _); first | (refine .inr ?_; (conv => whnf); refine ⟨_, ?_, fun h => rfl, rfl, ?_⟩; ((conv => whnf); first | exact trivial | (refine ⟨?_, trivial⟩; exact okG))) | (refine .inr ?_; (conv => whnf); refine ⟨_, trivial, fun h => ⟨?_, ?_, ?_, rfl⟩, rfl, ?_⟩; (first | exact h | rfl); exact okG; exact okG) | refine .inl ?_) | refine cY ?_ | refine cN ?_ | refine gA ?_ | refine gB ?_ | refine gC ?_ | ((first | refine gsT (fun h => ?_) (fun h => ?_) | refine gsF (fun h => ?_) (fun h => ?_) | refine ⟨fun h => ?_, fun h => ?_⟩) <;> (have hs := h; try simp only [cs, reduceCtorEq, Int.reduceEq, Int.reduceNe, Int.reduceLT, Int.reduceLE, Int.reduceBEq, Int.reduceBNe] at hs)) | (refine .inl ⟨_, _, c_lex_Words, ?_⟩) | (refine .inl ⟨_, _, c_cmd_Parse wordsV_small, ?_⟩) | ((with_reducible show _ ∧ _ ∧ Weak _ _ _); refine ⟨?_, ?_, Weak.go⟩; (omega)) | ((with_reducible show (_ ∧ _ ∧ _) ∧ _); refine ⟨⟨by kernel_rfl, by kernel_rfl, by rfl⟩, ?_⟩) | ((with_reducible show AV.pf _ = true ∧ _); refine pfA ?_) | (refine ⟨rfl, ?_, ?_, ?_⟩; exact okG; exact okG) | ((with_reducible show (_ ∨ _) ∧ _ ∧ retA _ _ _ _ _); refine ⟨?_, rfl, ?_⟩; (first | exact .inr rfl | exact .inl rfl)) | ((with_reducible show _ = _ ∧ _ = false ∧ _ = _); refine ⟨?_, rfl, rfl⟩; try (first | rfl | (conv => lhs; whnf))) | ((with_reducible show _ = _ ∧ (_ → _)); refine ⟨?_, ?_⟩; try (first | rfl | (conv => lhs; whnf))) | exact fun h => h | exact fun _ => rfl | refine ⟨rfl, ?_⟩ | (refine ⟨Nat.le_of_ble_eq_true rfl, ?_⟩) | (refine ⟨?_, ?_, ?_⟩; exact okS; exact okS) | (refine ⟨?_, ?_⟩; exact okS) | fail)
  · exact line_bad rfl hs
  · exact line_ok hs
end Go.Proofs.YtepdiooaoegpfaaGreatDoor.Fx
end
