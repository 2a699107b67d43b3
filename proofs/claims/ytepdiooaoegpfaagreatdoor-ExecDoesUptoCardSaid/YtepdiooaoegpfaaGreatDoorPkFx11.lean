/- Written by programs of this session: laws and contracts that the law's proof stands on, merged into one text. Conditions: none beyond those in each statement. -/
import Derived.Test.YtepdiooaoegpfaaGreatDoorPkFx10
import Derived.Test.YtepdiooaoegpfaaGreatDoorPkFx9
section
/- Words as a command, by the program; and both readings whole. Conditions: those in each statement. -/
namespace Go.Proofs.YtepdiooaoegpfaaGreatDoor.Fx
open Go Go.Proofs Go.Ev Go.RowKit
set_option maxRecDepth 100000
set_option maxHeartbeats 1600000
set_option linter.unusedSimpArgs false
set_option linter.unusedVariables false
theorem c_CloneN {l : List ByteArray} {x : AV} (hl : l.length ≤ 1000000000) (h : LeqD x (eS l)) : XPure Tryz.prog 89 [x] (eS l) false := (c_CloneS hl).nils (LeqDL.cons h (LeqDL.refl _))
theorem c_countB {op n : Int} {b : Bool} (h8 : 1 ≤ op ∧ op ≤ 8) (h : manyOk op n = b) : XPure Tryz.prog 90 [i64 op, i64 n] (bln b) false := h ▸ c_cmd_count h8
theorem c_filesB {l : List ByteArray} {x : AV} {b : Bool} (hl : l.length ≤ 1000000000) (hz : ∀ i, i < l.length → (l.getD i .empty).size ≤ 140737488355328) (h : l.all isName = b) (hx : LeqD x (eS l)) : XPure Tryz.prog 93 [x] (i64 (errIf b 3)) false := h ▸ (c_cmd_files hl hz).nils (LeqDL.cons hx (LeqDL.refl _))
theorem c_IndexB {w : ByteArray} {op k : Int} (ho : opFrom w 1 8 = op) (hk : op - 1 = k) : XPure Tryz.prog 68 [eS heads1, str w] (i64 k) false := by
  have h := c_Index (l := heads1) (s := w) (Nat.le_of_ble_eq_true rfl)
  have := find_op w
  rwa [show findN heads1 w 0 = k from by omega] at h
theorem szc {d : ByteArray} {src : List ByteArray} (hd : d.size ≤ 140737488355328) (hz : ∀ i, i < src.length → (src.getD i .empty).size ≤ 140737488355328) : ∀ i, i < (d :: src).length → ((d :: src).getD i .empty).size ≤ 140737488355328
  | 0, _ => hd
  | i + 1, h => hz i (by simpa using h)
theorem parse_badB {ws : List ByteArray} {b : Bool} (h : parseE ws = 3) (hb : b = false) : LeqD (.tup [.agg [i64 0, str ⟨#[]⟩, nilv, nilv, i64 0], i64 (errIf b 3)]) (.tup [(parseC ws).av, i64 (parseE ws)]) := by
  subst hb; exact parse_bad h (by decide)
theorem cP_1 {w a b : ByteArray} (ho : opFrom w 1 8 = 1) (ha : a.size ≤ 140737488355328) (hb : b.size ≤ 140737488355328) : XPure Tryz.prog 67 [eS (w :: [a, b])] (.tup [(parseC (w :: [a, b])).av, i64 (parseE (w :: [a, b]))]) false := by
  have hE := parseE_k (w := w) (l := [a, b]) (Nat.le_of_ble_eq_true rfl) ho rfl (by decide)
  have hB : cmFiles (cmOf 1 [a, b]) = [a, b].all isName := by show (isName b && (isName a && true)) = (isName a && (isName b && true)); cases isName a <;> cases isName b <;> rfl
  refine XPure.bodyN ⟨_, Tryz.func67, rfl, by kernel_rfl⟩ Tryz.func67 rfl (Nat.le_of_ble_eq_true (by rfl)) (pf_of1 rfl) fun env => ?_
  repeat' ((conv => whnf); (fail_if_success refine zC ?_); first | refine zSd ?_ | refine zB (fun h hs => ?_) (fun h hs => ?_) <;> try exact hs.elim | refine .inl ⟨_, _, c_heads, ?_⟩ | refine .inl ⟨_, _, c_IndexB ho rfl, ?_⟩ | refine .inl ⟨_, _, c_CloneN (l := [a, b]) (by first | omega | (simp only [List.length_cons, List.length_nil]; omega)) okL, ?_⟩ | refine .inl ⟨_, _, c_countB (op := 1) (b := true) (by decide) (rfl), ?_⟩ | refine .inl ⟨_, _, c_filesB (l := [a, b]) (b := cmFiles (cmOf 1 [a, b])) (Nat.le_of_ble_eq_true rfl) (sz2 ha hb) hB.symm okL, ?_⟩ | refine ⟨_, _, c_heads, ?_⟩ | refine ⟨_, _, c_IndexB ho rfl, ?_⟩ | refine ⟨_, _, c_CloneN (l := [a, b]) (by first | omega | (simp only [List.length_cons, List.length_nil]; omega)) okL, ?_⟩ | refine ⟨_, _, c_countB (op := 1) (b := true) (by decide) (rfl), ?_⟩ | refine ⟨_, _, c_filesB (l := [a, b]) (b := cmFiles (cmOf 1 [a, b])) (Nat.le_of_ble_eq_true rfl) (sz2 ha hb) hB.symm okL, ?_⟩ | (first | (refine XW.draw (id := 5) (m := 8) (by kernel_rfl) (by kernel_rfl) (by rfl) ?_) | (refine XW.drawW (id := 15) (M := 7) (p := 1) (W := [5, 6]) (by kernel_rfl) (by kernel_rfl) ?_) | ((with_reducible show _ ∧ allW _ _); refine ⟨?_, ?_⟩) | exact trivial) | exact zElw | refine zZlw ?_ | fail)
  all_goals try (exfalso; simp only [List.length_cons, List.length_nil, List.length_append, List.length_map, List.length_drop, List.length_take] at hs; omega)
  · have hq : cmFiles (cmOf 1 [a, b]) = false := by cases hc : cmFiles (cmOf 1 [a, b]); rfl; exact absurd (by rw [hc]; rfl) hs
    exact parse_badB (hE.trans (if_neg (by rw [hq]; simp))) hq
  · have h0 := hE.trans (if_pos (errIf_0.1 hs))
    exact parse_good (c := ⟨1, b, [a], [], 0⟩) h0 (parseC_of ho h0) okL okL
theorem cP_2 {w d : ByteArray} {src : List ByteArray} (ho : opFrom w 1 8 = 2) (h1 : 1 ≤ src.length) (h2 : src.length ≤ 64) (hd : d.size ≤ 140737488355328) (hz : ∀ i, i < src.length → (src.getD i .empty).size ≤ 140737488355328) : XPure Tryz.prog 67 [eS (w :: (d :: src))] (.tup [(parseC (w :: (d :: src))).av, i64 (parseE (w :: (d :: src)))]) false := by
  have hE := parseE_k (w := w) (l := (d :: src)) (by simp only [List.length_cons]; omega) ho (by simp [manyOk]; omega) (by decide)
  have hB : cmFiles (cmOf 2 (d :: src)) = (d :: src).all isName := rfl
  refine XPure.bodyN ⟨_, Tryz.func67, rfl, by kernel_rfl⟩ Tryz.func67 rfl (Nat.le_of_ble_eq_true (by rfl)) (pf_of1 rfl) fun env => ?_
  repeat' ((conv => whnf); (fail_if_success refine zC ?_); first | refine zSd ?_ | refine zB (fun h hs => ?_) (fun h hs => ?_) <;> try exact hs.elim | refine .inl ⟨_, _, c_heads, ?_⟩ | refine .inl ⟨_, _, c_IndexB ho rfl, ?_⟩ | refine .inl ⟨_, _, c_CloneN (l := (d :: src)) (by first | omega | (simp only [List.length_cons, List.length_nil]; omega)) okL, ?_⟩ | refine .inl ⟨_, _, c_countB (op := 2) (b := true) (by decide) (by simp [manyOk]; omega), ?_⟩ | refine .inl ⟨_, _, c_filesB (l := (d :: src)) (b := cmFiles (cmOf 2 (d :: src))) (by simp only [List.length_cons]; omega) (szc hd hz) hB.symm okL, ?_⟩ | refine ⟨_, _, c_heads, ?_⟩ | refine ⟨_, _, c_IndexB ho rfl, ?_⟩ | refine ⟨_, _, c_CloneN (l := (d :: src)) (by first | omega | (simp only [List.length_cons, List.length_nil]; omega)) okL, ?_⟩ | refine ⟨_, _, c_countB (op := 2) (b := true) (by decide) (by simp [manyOk]; omega), ?_⟩ | refine ⟨_, _, c_filesB (l := (d :: src)) (b := cmFiles (cmOf 2 (d :: src))) (by simp only [List.length_cons]; omega) (szc hd hz) hB.symm okL, ?_⟩ | (first | (refine XW.draw (id := 5) (m := 8) (by kernel_rfl) (by kernel_rfl) (by rfl) ?_) | (refine XW.drawW (id := 17) (M := 7) (p := 1) (W := [5, 6]) (by kernel_rfl) (by kernel_rfl) ?_) | ((with_reducible show _ ∧ allW _ _); refine ⟨?_, ?_⟩) | exact trivial) | exact zElw | refine zZlw ?_ | fail)
  all_goals try (exfalso; simp only [List.length_cons, List.length_nil, List.length_append, List.length_map, List.length_drop, List.length_take] at hs; omega)
  · have hq : cmFiles (cmOf 2 (d :: src)) = false := by cases hc : cmFiles (cmOf 2 (d :: src)); rfl; exact absurd (by rw [hc]; rfl) hs
    exact parse_badB (hE.trans (if_neg (by rw [hq]; simp))) hq
  · have h0 := hE.trans (if_pos (errIf_0.1 hs))
    exact parse_good (c := ⟨2, d, src, [], 0⟩) h0 (parseC_of ho h0) okL okL
theorem cP_3 {w d : ByteArray} {ws : List ByteArray} (ho : opFrom w 1 8 = 3) (h2 : ws.length ≤ 512) (hd : d.size ≤ 140737488355328) : XPure Tryz.prog 67 [eS (w :: (d :: ws))] (.tup [(parseC (w :: (d :: ws))).av, i64 (parseE (w :: (d :: ws)))]) false := by
  have hE := parseE_k (w := w) (l := (d :: ws)) (by simp only [List.length_cons]; omega) ho (by simp [manyOk]; omega) (by decide)
  have hB : cmFiles (cmOf 3 (d :: ws)) = [d].all isName := by show (isName d && true) = (isName d && true); rfl
  refine XPure.bodyN ⟨_, Tryz.func67, rfl, by kernel_rfl⟩ Tryz.func67 rfl (Nat.le_of_ble_eq_true (by rfl)) (pf_of1 rfl) fun env => ?_
  repeat' ((conv => whnf); (fail_if_success refine zC ?_); first | refine zSd ?_ | refine zB (fun h hs => ?_) (fun h hs => ?_) <;> try exact hs.elim | refine .inl ⟨_, _, c_heads, ?_⟩ | refine .inl ⟨_, _, c_IndexB ho rfl, ?_⟩ | refine .inl ⟨_, _, c_CloneN (l := (d :: ws)) (by first | omega | (simp only [List.length_cons, List.length_nil]; omega)) okL, ?_⟩ | refine .inl ⟨_, _, c_countB (op := 3) (b := true) (by decide) (by simp [manyOk]; omega), ?_⟩ | refine .inl ⟨_, _, c_filesB (l := [d]) (b := cmFiles (cmOf 3 (d :: ws))) (Nat.le_of_ble_eq_true rfl) (sz1 hd) hB.symm okL, ?_⟩ | refine ⟨_, _, c_heads, ?_⟩ | refine ⟨_, _, c_IndexB ho rfl, ?_⟩ | refine ⟨_, _, c_CloneN (l := (d :: ws)) (by first | omega | (simp only [List.length_cons, List.length_nil]; omega)) okL, ?_⟩ | refine ⟨_, _, c_countB (op := 3) (b := true) (by decide) (by simp [manyOk]; omega), ?_⟩ | refine ⟨_, _, c_filesB (l := [d]) (b := cmFiles (cmOf 3 (d :: ws))) (Nat.le_of_ble_eq_true rfl) (sz1 hd) hB.symm okL, ?_⟩ | (first | (refine XW.draw (id := 5) (m := 8) (by kernel_rfl) (by kernel_rfl) (by rfl) ?_) | (refine XW.drawW (id := 19) (M := 7) (p := 1) (W := [5, 6]) (by kernel_rfl) (by kernel_rfl) ?_) | ((with_reducible show _ ∧ allW _ _); refine ⟨?_, ?_⟩) | exact trivial) | exact zElw | refine zZlw ?_ | fail)
  all_goals try (exfalso; simp only [List.length_cons, List.length_nil, List.length_append, List.length_map, List.length_drop, List.length_take] at hs; omega)
  · have hq : cmFiles (cmOf 3 (d :: ws)) = false := by cases hc : cmFiles (cmOf 3 (d :: ws)); rfl; exact absurd (by rw [hc]; rfl) hs
    exact parse_badB (hE.trans (if_neg (by rw [hq]; simp))) hq
  · have h0 := hE.trans (if_pos (errIf_0.1 hs))
    exact parse_good (c := ⟨3, d, [], ws, 0⟩) h0 (parseC_of ho h0) okL okL
theorem cP_4 {w d : ByteArray} (ho : opFrom w 1 8 = 4) (hd : d.size ≤ 140737488355328) : XPure Tryz.prog 67 [eS (w :: [d])] (.tup [(parseC (w :: [d])).av, i64 (parseE (w :: [d]))]) false := by
  have hE := parseE_k (w := w) (l := [d]) (Nat.le_of_ble_eq_true rfl) ho rfl (by decide)
  have hB : cmFiles (cmOf 4 [d]) = [d].all isName := rfl
  refine XPure.bodyN ⟨_, Tryz.func67, rfl, by kernel_rfl⟩ Tryz.func67 rfl (Nat.le_of_ble_eq_true (by rfl)) (pf_of1 rfl) fun env => ?_
  repeat' ((conv => whnf); (fail_if_success refine zC ?_); first | refine zSd ?_ | refine zB (fun h hs => ?_) (fun h hs => ?_) <;> try exact hs.elim | refine .inl ⟨_, _, c_heads, ?_⟩ | refine .inl ⟨_, _, c_IndexB ho rfl, ?_⟩ | refine .inl ⟨_, _, c_CloneN (l := [d]) (by first | omega | (simp only [List.length_cons, List.length_nil]; omega)) okL, ?_⟩ | refine .inl ⟨_, _, c_countB (op := 4) (b := true) (by decide) (rfl), ?_⟩ | refine .inl ⟨_, _, c_filesB (l := [d]) (b := cmFiles (cmOf 4 [d])) (Nat.le_of_ble_eq_true rfl) (sz1 hd) hB.symm okL, ?_⟩ | refine ⟨_, _, c_heads, ?_⟩ | refine ⟨_, _, c_IndexB ho rfl, ?_⟩ | refine ⟨_, _, c_CloneN (l := [d]) (by first | omega | (simp only [List.length_cons, List.length_nil]; omega)) okL, ?_⟩ | refine ⟨_, _, c_countB (op := 4) (b := true) (by decide) (rfl), ?_⟩ | refine ⟨_, _, c_filesB (l := [d]) (b := cmFiles (cmOf 4 [d])) (Nat.le_of_ble_eq_true rfl) (sz1 hd) hB.symm okL, ?_⟩ | (first | (refine XW.draw (id := 5) (m := 8) (by kernel_rfl) (by kernel_rfl) (by rfl) ?_) | ((with_reducible show _ ∧ allW _ _); refine ⟨?_, ?_⟩) | exact trivial) | exact zElw | refine zZlw ?_ | fail)
  all_goals try (exfalso; simp only [List.length_cons, List.length_nil, List.length_append, List.length_map, List.length_drop, List.length_take] at hs; omega)
  · have hq : cmFiles (cmOf 4 [d]) = false := by cases hc : cmFiles (cmOf 4 [d]); rfl; exact absurd (by rw [hc]; rfl) hs
    exact parse_badB (hE.trans (if_neg (by rw [hq]; simp))) hq
  · have h0 := hE.trans (if_pos (errIf_0.1 hs))
    exact parse_good (c := ⟨4, d, [], [], 0⟩) h0 (parseC_of ho h0) okL okL
theorem cP_5 {w d : ByteArray} (ho : opFrom w 1 8 = 5) (hd : d.size ≤ 140737488355328) : XPure Tryz.prog 67 [eS (w :: [d])] (.tup [(parseC (w :: [d])).av, i64 (parseE (w :: [d]))]) false := by
  have hE := parseE_k (w := w) (l := [d]) (Nat.le_of_ble_eq_true rfl) ho rfl (by decide)
  have hB : cmFiles (cmOf 5 [d]) = [d].all isName := rfl
  refine XPure.bodyN ⟨_, Tryz.func67, rfl, by kernel_rfl⟩ Tryz.func67 rfl (Nat.le_of_ble_eq_true (by rfl)) (pf_of1 rfl) fun env => ?_
  repeat' ((conv => whnf); (fail_if_success refine zC ?_); first | refine zSd ?_ | refine zB (fun h hs => ?_) (fun h hs => ?_) <;> try exact hs.elim | refine .inl ⟨_, _, c_heads, ?_⟩ | refine .inl ⟨_, _, c_IndexB ho rfl, ?_⟩ | refine .inl ⟨_, _, c_CloneN (l := [d]) (by first | omega | (simp only [List.length_cons, List.length_nil]; omega)) okL, ?_⟩ | refine .inl ⟨_, _, c_countB (op := 5) (b := true) (by decide) (rfl), ?_⟩ | refine .inl ⟨_, _, c_filesB (l := [d]) (b := cmFiles (cmOf 5 [d])) (Nat.le_of_ble_eq_true rfl) (sz1 hd) hB.symm okL, ?_⟩ | refine ⟨_, _, c_heads, ?_⟩ | refine ⟨_, _, c_IndexB ho rfl, ?_⟩ | refine ⟨_, _, c_CloneN (l := [d]) (by first | omega | (simp only [List.length_cons, List.length_nil]; omega)) okL, ?_⟩ | refine ⟨_, _, c_countB (op := 5) (b := true) (by decide) (rfl), ?_⟩ | refine ⟨_, _, c_filesB (l := [d]) (b := cmFiles (cmOf 5 [d])) (Nat.le_of_ble_eq_true rfl) (sz1 hd) hB.symm okL, ?_⟩ | (first | (refine XW.draw (id := 5) (m := 8) (by kernel_rfl) (by kernel_rfl) (by rfl) ?_) | ((with_reducible show _ ∧ allW _ _); refine ⟨?_, ?_⟩) | exact trivial) | exact zElw | refine zZlw ?_ | fail)
  all_goals try (exfalso; simp only [List.length_cons, List.length_nil, List.length_append, List.length_map, List.length_drop, List.length_take] at hs; omega)
  · have hq : cmFiles (cmOf 5 [d]) = false := by cases hc : cmFiles (cmOf 5 [d]); rfl; exact absurd (by rw [hc]; rfl) hs
    exact parse_badB (hE.trans (if_neg (by rw [hq]; simp))) hq
  · have h0 := hE.trans (if_pos (errIf_0.1 hs))
    exact parse_good (c := ⟨5, d, [], [], 0⟩) h0 (parseC_of ho h0) okL okL
theorem cP_6 {w s : ByteArray} (ho : opFrom w 1 8 = 6) (hd : s.size ≤ 140737488355328) : XPure Tryz.prog 67 [eS (w :: [s])] (.tup [(parseC (w :: [s])).av, i64 (parseE (w :: [s]))]) false := by
  have hE := parseE_k (w := w) (l := [s]) (Nat.le_of_ble_eq_true rfl) ho rfl (by decide)
  have hB : cmFiles (cmOf 6 [s]) = [s].all isName := rfl
  refine XPure.bodyN ⟨_, Tryz.func67, rfl, by kernel_rfl⟩ Tryz.func67 rfl (Nat.le_of_ble_eq_true (by rfl)) (pf_of1 rfl) fun env => ?_
  repeat' ((conv => whnf); (fail_if_success refine zC ?_); first | refine zSd ?_ | refine zB (fun h hs => ?_) (fun h hs => ?_) <;> try exact hs.elim | refine .inl ⟨_, _, c_heads, ?_⟩ | refine .inl ⟨_, _, c_IndexB ho rfl, ?_⟩ | refine .inl ⟨_, _, c_CloneN (l := [s]) (by first | omega | (simp only [List.length_cons, List.length_nil]; omega)) okL, ?_⟩ | refine .inl ⟨_, _, c_countB (op := 6) (b := true) (by decide) (rfl), ?_⟩ | refine .inl ⟨_, _, c_filesB (l := [s]) (b := cmFiles (cmOf 6 [s])) (Nat.le_of_ble_eq_true rfl) (sz1 hd) hB.symm okL, ?_⟩ | refine ⟨_, _, c_heads, ?_⟩ | refine ⟨_, _, c_IndexB ho rfl, ?_⟩ | refine ⟨_, _, c_CloneN (l := [s]) (by first | omega | (simp only [List.length_cons, List.length_nil]; omega)) okL, ?_⟩ | refine ⟨_, _, c_countB (op := 6) (b := true) (by decide) (rfl), ?_⟩ | refine ⟨_, _, c_filesB (l := [s]) (b := cmFiles (cmOf 6 [s])) (Nat.le_of_ble_eq_true rfl) (sz1 hd) hB.symm okL, ?_⟩ | (first | (refine XW.draw (id := 5) (m := 8) (by kernel_rfl) (by kernel_rfl) (by rfl) ?_) | ((with_reducible show _ ∧ allW _ _); refine ⟨?_, ?_⟩) | exact trivial) | exact zElw | refine zZlw ?_ | fail)
  all_goals try (exfalso; simp only [List.length_cons, List.length_nil, List.length_append, List.length_map, List.length_drop, List.length_take] at hs; omega)
  · have hq : cmFiles (cmOf 6 [s]) = false := by cases hc : cmFiles (cmOf 6 [s]); rfl; exact absurd (by rw [hc]; rfl) hs
    exact parse_badB (hE.trans (if_neg (by rw [hq]; simp))) hq
  · have h0 := hE.trans (if_pos (errIf_0.1 hs))
    exact parse_good (c := ⟨6, ⟨#[]⟩, [s], [], 0⟩) h0 (parseC_of ho h0) okL okL
theorem cP_8 {w : ByteArray} {ws : List ByteArray} (ho : opFrom w 1 8 = 8) (h2 : ws.length ≤ 512) : XPure Tryz.prog 67 [eS (w :: ws)] (.tup [(parseC (w :: ws)).av, i64 (parseE (w :: ws))]) false := by
  have hE := parseE_k (w := w) (l := ws) (by omega) ho (by simp [manyOk]; omega) (by decide)
  have hB : cmFiles (cmOf 8 ws) = [].all isName := rfl
  refine XPure.bodyN ⟨_, Tryz.func67, rfl, by kernel_rfl⟩ Tryz.func67 rfl (Nat.le_of_ble_eq_true (by rfl)) (pf_of1 rfl) fun env => ?_
  repeat' ((conv => whnf); (fail_if_success refine zC ?_); first | refine zSd ?_ | refine zB (fun h hs => ?_) (fun h hs => ?_) <;> try exact hs.elim | refine .inl ⟨_, _, c_heads, ?_⟩ | refine .inl ⟨_, _, c_IndexB ho rfl, ?_⟩ | refine .inl ⟨_, _, c_CloneN (l := ws) (by first | omega | (simp only [List.length_cons, List.length_nil]; omega)) okL, ?_⟩ | refine .inl ⟨_, _, c_countB (op := 8) (b := true) (by decide) (by simp [manyOk]; omega), ?_⟩ | refine .inl ⟨_, _, c_filesB (l := []) (b := cmFiles (cmOf 8 ws)) (Nat.le_of_ble_eq_true rfl) (szE) hB.symm okL, ?_⟩ | refine ⟨_, _, c_heads, ?_⟩ | refine ⟨_, _, c_IndexB ho rfl, ?_⟩ | refine ⟨_, _, c_CloneN (l := ws) (by first | omega | (simp only [List.length_cons, List.length_nil]; omega)) okL, ?_⟩ | refine ⟨_, _, c_countB (op := 8) (b := true) (by decide) (by simp [manyOk]; omega), ?_⟩ | refine ⟨_, _, c_filesB (l := []) (b := cmFiles (cmOf 8 ws)) (Nat.le_of_ble_eq_true rfl) (szE) hB.symm okL, ?_⟩ | (first | (refine XW.draw (id := 5) (m := 8) (by kernel_rfl) (by kernel_rfl) (by rfl) ?_) | ((with_reducible show _ ∧ allW _ _); refine ⟨?_, ?_⟩) | exact trivial) | exact zElw | refine zZlw ?_ | fail)
  all_goals try (exfalso; simp only [List.length_cons, List.length_nil, List.length_append, List.length_map, List.length_drop, List.length_take] at hs; omega)
  · have hq : cmFiles (cmOf 8 ws) = false := by cases hc : cmFiles (cmOf 8 ws); rfl; exact absurd (by rw [hc]; rfl) hs
    exact parse_badB (hE.trans (if_neg (by rw [hq]; simp))) hq
  · have h0 := hE.trans (if_pos (errIf_0.1 hs))
    exact parse_good (c := ⟨8, ⟨#[]⟩, [], ws, 0⟩) h0 (parseC_of ho h0) okL okL
theorem cP_7a {w : ByteArray} (ho : opFrom w 1 8 = 7) : XPure Tryz.prog 67 [eS [w]] (.tup [(parseC [w]).av, i64 (parseE [w])]) false := by
  have hE := parseE_7 (w := w) (l := []) (Nat.le_of_ble_eq_true rfl) ho rfl
  refine XPure.bodyN ⟨_, Tryz.func67, rfl, by kernel_rfl⟩ Tryz.func67 rfl (Nat.le_of_ble_eq_true (by rfl)) (pf_of1 rfl) fun env => ?_
  repeat' ((conv => whnf); (fail_if_success refine zC ?_); first | refine zSd ?_ | refine zB (fun h hs => ?_) (fun h hs => ?_) <;> try exact hs.elim | refine .inl ⟨_, _, c_heads, ?_⟩ | refine .inl ⟨_, _, c_IndexB ho rfl, ?_⟩ | refine .inl ⟨_, _, c_CloneN (l := []) (Nat.le_of_ble_eq_true rfl) okL, ?_⟩ | refine .inl ⟨_, _, c_countB (op := 7) (b := true) (by decide) rfl, ?_⟩ | refine .inl ⟨_, _, c_filesB (l := []) (b := true) (Nat.le_of_ble_eq_true rfl) szE rfl okL, ?_⟩ | refine ⟨_, _, c_heads, ?_⟩ | refine ⟨_, _, c_IndexB ho rfl, ?_⟩ | refine ⟨_, _, c_CloneN (l := []) (Nat.le_of_ble_eq_true rfl) okL, ?_⟩ | refine ⟨_, _, c_countB (op := 7) (b := true) (by decide) rfl, ?_⟩ | refine ⟨_, _, c_filesB (l := []) (b := true) (Nat.le_of_ble_eq_true rfl) szE rfl okL, ?_⟩ | (first | (refine XW.draw (id := 5) (m := 8) (by kernel_rfl) (by kernel_rfl) (by rfl) ?_) | ((with_reducible show _ ∧ allW _ _); refine ⟨?_, ?_⟩) | exact trivial) | exact zElw | refine zZlw ?_ | fail)
  all_goals try (exfalso; simp only [List.length_cons, List.length_nil, List.length_append, List.length_map, List.length_drop, List.length_take] at hs; omega)
  · have h0 : parseE [w] = 0 := hE.trans rfl
    exact parse_good (c := ⟨7, ⟨#[]⟩, [], [], 1⟩) h0 (parseC_of ho h0) okL okL
theorem cP_7e {w s : ByteArray} (ho : opFrom w 1 8 = 7) (hd : s.size ≤ 140737488355328) (hA : ∀ v, Lib.atoiAll s.data.toList ≠ .ok v) : XPure Tryz.prog 67 [eS [w, s]] (.tup [(parseC [w, s]).av, i64 (parseE [w, s])]) false := by
  have hE : parseE [w, s] = 160 := (parseE_7 (w := w) (l := [s]) (Nat.le_of_ble_eq_true rfl) ho rfl).trans (if_pos (failN_err hA))
  refine XPure.bodyN ⟨_, Tryz.func67, rfl, by kernel_rfl⟩ Tryz.func67 rfl (Nat.le_of_ble_eq_true (by rfl)) (pf_of1 rfl) fun env => ?_
  repeat' ((conv => whnf); (fail_if_success refine zC ?_); first | refine zSd ?_ | refine zB (fun h hs => ?_) (fun h hs => ?_) <;> try exact hs.elim | refine .inl ⟨_, _, c_heads, ?_⟩ | refine .inl ⟨_, _, c_IndexB ho rfl, ?_⟩ | refine .inl ⟨_, _, c_CloneN (l := [s]) (Nat.le_of_ble_eq_true rfl) okL, ?_⟩ | refine .inl ⟨_, _, c_countB (op := 7) (b := true) (by decide) rfl, ?_⟩ | refine .inl ⟨_, _, c_Atoi_err hd hA, ?_⟩ | refine ⟨_, _, c_heads, ?_⟩ | refine ⟨_, _, c_IndexB ho rfl, ?_⟩ | refine ⟨_, _, c_CloneN (l := [s]) (Nat.le_of_ble_eq_true rfl) okL, ?_⟩ | refine ⟨_, _, c_countB (op := 7) (b := true) (by decide) rfl, ?_⟩ | refine ⟨_, _, c_Atoi_err hd hA, ?_⟩ | (first | (refine XW.draw (id := 5) (m := 8) (by kernel_rfl) (by kernel_rfl) (by rfl) ?_) | (refine XW.draw (id := 31) (m := 16) (by kernel_rfl) (by kernel_rfl) (by rfl) ?_) | ((with_reducible show _ ∧ allW _ _); refine ⟨?_, ?_⟩) | exact trivial) | exact zElw | refine zZlw ?_ | fail)
  all_goals try (exfalso; simp only [List.length_cons, List.length_nil, List.length_append, List.length_map, List.length_drop, List.length_take] at hs; omega)
  exact parse_bad hE (by decide)
theorem cP_7o {w s : ByteArray} {v : Int} (ho : opFrom w 1 8 = 7) (hd : s.size ≤ 140737488355328) (hA : Lib.atoiAll s.data.toList = .ok v) (h0 : -9223372036854775808 ≤ v) (h1 : v ≤ 9223372036854775807) : XPure Tryz.prog 67 [eS [w, s]] (.tup [(parseC [w, s]).av, i64 (parseE [w, s])]) false := by
  have hE : parseE [w, s] = if failN s = 0 then 160 else 0 := parseE_7 (w := w) (l := [s]) (Nat.le_of_ble_eq_true rfl) ho rfl
  have hF := failN_ok hA
  refine XPure.bodyN ⟨_, Tryz.func67, rfl, by kernel_rfl⟩ Tryz.func67 rfl (Nat.le_of_ble_eq_true (by rfl)) (pf_of1 rfl) fun env => ?_
  repeat' ((conv => whnf); (fail_if_success refine zC ?_); first | refine zSd ?_ | refine zB (fun h hs => ?_) (fun h hs => ?_) <;> try exact hs.elim | refine .inl ⟨_, _, c_heads, ?_⟩ | refine .inl ⟨_, _, c_IndexB ho rfl, ?_⟩ | refine .inl ⟨_, _, c_CloneN (l := [s]) (Nat.le_of_ble_eq_true rfl) okL, ?_⟩ | refine .inl ⟨_, _, c_countB (op := 7) (b := true) (by decide) rfl, ?_⟩ | refine .inl ⟨_, _, c_Atoi_ok hd hA, ?_⟩ | refine .inl ⟨_, _, c_Itoa h0 h1, ?_⟩ | refine .inl ⟨_, _, c_filesB (l := []) (b := true) (Nat.le_of_ble_eq_true rfl) szE rfl okL, ?_⟩ | refine ⟨_, _, c_heads, ?_⟩ | refine ⟨_, _, c_IndexB ho rfl, ?_⟩ | refine ⟨_, _, c_CloneN (l := [s]) (Nat.le_of_ble_eq_true rfl) okL, ?_⟩ | refine ⟨_, _, c_countB (op := 7) (b := true) (by decide) rfl, ?_⟩ | refine ⟨_, _, c_Atoi_ok hd hA, ?_⟩ | refine ⟨_, _, c_Itoa h0 h1, ?_⟩ | refine ⟨_, _, c_filesB (l := []) (b := true) (Nat.le_of_ble_eq_true rfl) szE rfl okL, ?_⟩ | (first | (refine XW.draw (id := 5) (m := 8) (by kernel_rfl) (by kernel_rfl) (by rfl) ?_) | (refine XW.draw (id := 31) (m := 16) (by kernel_rfl) (by kernel_rfl) (by rfl) ?_) | ((with_reducible show _ ∧ allW _ _); refine ⟨?_, ?_⟩) | exact trivial) | exact zElw | refine zZlw ?_ | fail)
  all_goals try (exfalso; simp only [List.length_cons, List.length_nil, List.length_append, List.length_map, List.length_drop, List.length_take] at hs; omega)
  · exact parse_bad (hE.trans (if_pos (hF.trans (if_neg (by rintro ⟨q1, q2, q3⟩; rcases hs with (g | g) | g; exact g q1; omega; omega))))) (by decide)
  · have hv : failN s = v := hF.trans (if_pos ⟨hs.1.1, hs.1.2, hs.2⟩)
    have h0 := hE.trans (if_neg (by rw [hv]; omega))
    exact parse_good (c := ⟨7, ⟨#[]⟩, [], [], v⟩) h0 ((parseC_of ho h0).trans (by show Cm.mk 7 ⟨#[]⟩ [] [] (failN s) = _; rw [hv])) okL okL
  · exact parse_bad (hE.trans (if_pos (hF.trans (if_neg (by rintro ⟨q1, q2, q3⟩; rcases hs with g | g; exact g q1; omega))))) (by decide)
  · exact parse_bad (hE.trans (if_pos (hF.trans (if_neg (by rintro ⟨q1, q2, q3⟩; exact hs q1))))) (by decide)
theorem cP_7b {w s : ByteArray} (ho : opFrom w 1 8 = 7) (hd : s.size ≤ 140737488355328) : XPure Tryz.prog 67 [eS [w, s]] (.tup [(parseC [w, s]).av, i64 (parseE [w, s])]) false := by
  by_cases hA : ∃ v, Lib.atoiAll s.data.toList = .ok v
  · obtain ⟨v, hA⟩ := hA
    obtain ⟨h0, h1⟩ := Lib.atoiAll_bounds hA
    exact cP_7o ho hd hA h0 h1
  · exact cP_7e ho hd (fun v e => hA ⟨v, e⟩)
theorem cP_bad {w : ByteArray} {l : List ByteArray} {op : Int} (hl : l.length ≤ 513) (ho : opFrom w 1 8 = op) (hm : manyOk op l.length = false) : XPure Tryz.prog 67 [eS (w :: l)] (.tup [(parseC (w :: l)).av, i64 (parseE (w :: l))]) false := by
  have hE : parseE (w :: l) = 160 := by rw [parseE_of hl ho, if_pos hm]
  have h8 := opFrom_cases w
  rw [ho] at h8
  have hw : IntKind.i64.wrap ((op - 1) + 1) = op := by rw [wrapId (by omega) (by omega)]; omega
  refine XPure.bodyN ⟨_, Tryz.func67, rfl, by kernel_rfl⟩ Tryz.func67 rfl (Nat.le_of_ble_eq_true (by rfl)) (pf_of1 rfl) fun env => ?_
  repeat' ((conv => whnf); (fail_if_success refine zC ?_); first | refine zSd ?_ | refine zB (fun h hs => ?_) (fun h hs => ?_) <;> try exact hs.elim | refine .inl ⟨_, _, c_heads, ?_⟩ | refine .inl ⟨_, _, c_IndexB ho rfl, ?_⟩ | refine .inl ⟨_, _, c_CloneN (l := l) (by omega) okL, ?_⟩ | refine .inl ⟨_, _, c_countB (op := op) (b := false) (by omega) (by rw [← hm]; congr 1; simp), ?_⟩ | refine ⟨_, _, c_heads, ?_⟩ | refine ⟨_, _, c_IndexB ho rfl, ?_⟩ | refine ⟨_, _, c_CloneN (l := l) (by omega) okL, ?_⟩ | refine ⟨_, _, c_countB (op := op) (b := false) (by omega) (by rw [← hm]; congr 1; simp), ?_⟩ | (first | (refine XW.draw (id := 5) (m := 8) (by kernel_rfl) (by kernel_rfl) (by rfl) ?_) | rw [hw]) | exact zElw | refine zZlw ?_ | fail)
  all_goals try (exfalso; simp only [List.length_cons, List.length_nil, List.length_append, List.length_map, List.length_drop, List.length_take] at hs; omega)
  all_goals exact parse_bad hE (by decide)
theorem cP_long {ws : List ByteArray} (h : 514 < ws.length) : XPure Tryz.prog 67 [eS ws] (.tup [(parseC ws).av, i64 (parseE ws)]) false := by
  have hE : parseE ws = 2 := by unfold parseE; rw [if_pos h]
  refine XPure.bodyN ⟨_, Tryz.func67, rfl, by kernel_rfl⟩ Tryz.func67 rfl (Nat.le_of_ble_eq_true (by rfl)) (pf_of1 rfl) fun env => ?_
  repeat' ((conv => whnf); (fail_if_success refine zC ?_); first | refine zSd ?_ | refine zB (fun h hs => ?_) (fun h hs => ?_) <;> try exact hs.elim | exact zElw | refine zZlw ?_ | fail)
  · exact parse_bad hE (by decide)
  all_goals (exfalso; omega)
theorem cP_nil : XPure Tryz.prog 67 [eS []] (.tup [(parseC []).av, i64 (parseE [])]) false := by
  have hE : parseE [] = 9 := by unfold parseE; rfl
  refine XPure.bodyN ⟨_, Tryz.func67, rfl, by kernel_rfl⟩ Tryz.func67 rfl (Nat.le_of_ble_eq_true (by rfl)) (pf_of1 rfl) fun env => ?_
  repeat' ((conv => whnf); (fail_if_success refine zC ?_); first | refine zSd ?_ | refine zB (fun h hs => ?_) (fun h hs => ?_) <;> try exact hs.elim | exact zElw | refine zZlw ?_ | fail)
  exact parse_bad hE (by decide)
end Go.Proofs.YtepdiooaoegpfaaGreatDoor.Fx
end
