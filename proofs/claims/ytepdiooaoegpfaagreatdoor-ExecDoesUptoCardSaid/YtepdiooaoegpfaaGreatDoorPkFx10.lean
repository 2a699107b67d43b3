/- Written by programs of this session: laws and contracts that the law's proof stands on, merged into one text. Conditions: none beyond those in each statement. -/
import Derived.Test.YtepdiooaoegpfaaGreatDoorPkFx8
import Derived.Test.YtepdiooaoegpfaaGreatDoorPkFx3
import Derived.Test.YtepdiooaoegpfaaGreatDoorPkFx4
section
/- The document's reading of words as a command. Conditions: those in each statement. -/
namespace Go.Proofs.YtepdiooaoegpfaaGreatDoor.Fx
open Go Go.Proofs Go.Ev Go.RowKit
set_option maxRecDepth 100000
set_option maxHeartbeats 1600000
set_option linter.unusedSimpArgs false
set_option linter.unusedVariables false
theorem statL_step {s : ByteArray} {n : Int} {i : Nat} (hi : i < s.size) : statL (s.data.toList.drop i) n i = if ((byteAt s i).toNat : Int) < 48 ∨ ((byteAt s i).toNat : Int) > 57 ∨ 2 < i ∨ (n = 0 ∧ ((byteAt s i).toNat : Int) = 48) then 0 else statL (s.data.toList.drop (i + 1)) (10 * n + (((byteAt s i).toNat : Int) - 48)) (i + 1) := by
  rw [drop_byte hi, statL]
theorem wrap8 {x : Int} (h0 : 0 ≤ x) (h1 : x < 256) : IntKind.u8.wrap x = x := by
  have : IntKind.u8.wrap x = x % 256 := rfl
  omega
theorem c_ref16_status {s : ByteArray} (hs : s.size ≤ 140737488355328) : XPure Tryz.prog 104 [str s] (i64 (failN s)) false := by
  rw [← stat_fail]
  refine XPure.body ⟨_, Tryz.func104, rfl, by kernel_rfl⟩ Tryz.func104 rfl (Nat.le_of_ble_eq_true (by rfl)) (pf_of1 rfl) fun env => ?_
  repeat' ((conv => whnf); (fail_if_success refine zC ?_); first | refine zS ?_ | refine zB (fun h hs => ?_) (fun h hs => ?_) <;> try exact hs.elim | exact zE | refine zZ ?_ | fail)
  refine XW.overL [0] (fun (p : Nat × Nat) => [(3, i64 p.2), (4, i64 p.1)]) (fun _ => []) (fun _ => []) (fun p => p.1 ≤ s.size ∧ p.1 ≤ 3 ∧ (p.1 = 0 → p.2 = 0) ∧ (p.1 = 1 → p.2 ≤ 9) ∧ (p.1 = 2 → p.2 ≤ 99) ∧ p.2 ≤ 999 ∧ statL (s.data.toList.drop p.1) p.2 p.1 = statL s.data.toList 0 0) (fun p => s.size - p.1) (0, 0) Weak.go ⟨Nat.zero_le _, by decide, fun _ => rfl, (by intro h; cases h), (by intro h; cases h), by decide, rfl⟩ ?_
  rintro ⟨i, n⟩ ⟨hi, h3, q0, q1, q2, q3, hA⟩
  dsimp only at hi h3 q0 q1 q2 q3 hA ⊢
  refine codeS ?_
  repeat' ((conv => whnf); (fail_if_success refine zC ?_); first | refine zS ?_ | refine zB (fun h hs => ?_) (fun h hs => ?_) <;> try exact hs.elim | exact zEw | refine zZw ?_ | fail)
  · rw [← hA, statL_step (by assumption), if_pos (by omega)]
  · rw [statL_step (by assumption), if_neg (by omega)] at hA
    conv => whnf
    rw [Int.toNat_natCast, wrap8 (by omega) (by omega), wrapId (x := ((byteAt s i).toNat : Int) - 48) (by omega) (by omega), wrapId (x := 10 * (n : Int)) (by omega) (by omega)]
    refine ⟨(i + 1, 10 * n + ((byteAt s i).toNat - 48)), by dsimp only; omega, ⟨by dsimp only; omega, by dsimp only; omega, by dsimp only; omega, by dsimp only; omega, by dsimp only; omega, by dsimp only; omega, ?_⟩, Weak.go⟩
    dsimp only
    rw [← hA]; congr 1; omega
  · rw [← hA, statL_step (by assumption), if_pos (by omega)]
  · rw [statL_step (by assumption), if_neg (by omega)] at hA
    conv => whnf
    rw [Int.toNat_natCast, wrap8 (by omega) (by omega), wrapId (x := ((byteAt s i).toNat : Int) - 48) (by omega) (by omega), wrapId (x := 10 * (n : Int)) (by omega) (by omega)]
    refine ⟨(i + 1, 10 * n + ((byteAt s i).toNat - 48)), by dsimp only; omega, ⟨by dsimp only; omega, by dsimp only; omega, by dsimp only; omega, by dsimp only; omega, by dsimp only; omega, by dsimp only; omega, ?_⟩, Weak.go⟩
    dsimp only
    rw [← hA]; congr 1; omega
  · rw [← hA, statL_step (by assumption), if_pos (by omega)]
  · rw [← hA, statL_step (by assumption), if_pos (by omega)]
  · rw [← hA, drop_end (by assumption), statL, if_pos (by omega)]
  · rw [← hA, drop_end (by assumption), statL, if_neg (by omega)]
theorem c_op {w : ByteArray} {op : Int} (ho : opFrom w 1 8 = op) : XPure Tryz.prog 102 [str w] (i64 op) false := ho ▸ c_ref16_op
theorem c_many {op n : Int} {b : Bool} (h : manyOk op n = b) : XPure Tryz.prog 103 [i64 op, i64 n] (bln b) false := h ▸ c_ref16_many
theorem c_filesN {op st : Int} {dst : ByteArray} {src words : List ByteArray} {sa wa : AV} (hd : dst.size ≤ 140737488355328) (hl : src.length ≤ 1000000000) (hz : ∀ i, i < src.length → (src.getD i .empty).size ≤ 140737488355328) (h1 : LeqD sa (eS src)) (h2 : LeqD wa (eS words)) :
    XPure Tryz.prog 105 [.agg [i64 op, str dst, sa, wa, i64 st]] (bln (cmFiles ⟨op, dst, src, words, st⟩)) false :=
  (c_ref16_files (words := words) (st := st) hd hl hz).nils (LeqDL.cons (LeqD.agg (LeqDL.cons (LeqD.refl _) (LeqDL.cons (LeqD.refl _) (LeqDL.cons h1 (LeqDL.cons h2 (LeqDL.refl _)))))) (LeqDL.refl _))
theorem szE : ∀ i, i < ([] : List ByteArray).length → (([] : List ByteArray).getD i .empty).size ≤ 140737488355328 := fun i h => absurd h (by simp)
theorem parseE_k {w : ByteArray} {l : List ByteArray} {op : Int} (hl : l.length ≤ 513) (ho : opFrom w 1 8 = op) (hm : manyOk op l.length = true) (h7 : op ≠ 7) : parseE (w :: l) = if cmFiles (cmOf op l) = true then 0 else 3 := by
  rw [parseE_of hl ho, if_neg (by rw [hm]; simp), if_neg (fun h => h7 h.1)]
theorem parseE_7 {w : ByteArray} {l : List ByteArray} (hl : l.length ≤ 513) (ho : opFrom w 1 8 = 7) (hm : manyOk 7 l.length = true) : parseE (w :: l) = if (cmOf 7 l).st = 0 then 160 else 0 := by
  rw [parseE_of hl ho, if_neg (by rw [hm]; simp)]
  by_cases h : (cmOf 7 l).st = 0
  · rw [if_pos ⟨rfl, h⟩, if_pos h]
  · rw [if_neg (fun q => h q.2), if_neg h]; rfl
theorem leq_sl {k : Nat} {l l' : List AV} (h : l = l') : LeqD (.sl k l) (.sl k l') := h ▸ LeqD.refl _
theorem okL {P : Prop} (h : P := by first | exact okN | ((conv => arg 1; whnf); refine leq_sl ?_; simp [List.take_take, List.take_of_length_le]; first | done | fail)) : P := h
theorem rP_bad {w : ByteArray} {l : List ByteArray} {op : Int} (hl : l.length ≤ 513) (ho : opFrom w 1 8 = op) (hm : manyOk op l.length = false) : XPure Tryz.prog 79 [eS (w :: l)] (.tup [(parseC (w :: l)).av, i64 (parseE (w :: l))]) false := by
  have hE : parseE (w :: l) = 160 := by rw [parseE_of hl ho, if_pos hm]
  refine XPure.bodyN ⟨_, Tryz.func79, rfl, by kernel_rfl⟩ Tryz.func79 rfl (Nat.le_of_ble_eq_true (by rfl)) (pf_of1 rfl) fun env => ?_
  repeat' ((conv => whnf); (fail_if_success refine zC ?_); first | refine zSd ?_ | refine zB (fun h hs => ?_) (fun h hs => ?_) <;> try exact hs.elim | refine .inl ⟨_, _, c_op ho, ?_⟩ | refine .inl ⟨_, _, c_many (op := op) (b := false) (by rw [← hm]; congr 1; simp), ?_⟩ | refine ⟨_, _, c_op ho, ?_⟩ | refine ⟨_, _, c_many (op := op) (b := false) (by rw [← hm]; congr 1; simp), ?_⟩ | ((fail_if_success (with_reducible show (∃ _ _, XPure _ _ _ _ _ ∧ _) ∨ _)); refine .inl ?_) | exact zElw | refine zZlw ?_ | fail)
  · exfalso; simp only [List.length_cons] at hs; omega
  · exfalso; simp only [List.length_cons] at hs; omega
  · exact parse_bad hE (by decide)
theorem rP_1 {w a b : ByteArray} (ho : opFrom w 1 8 = 1) (ha : a.size ≤ 140737488355328) (hb : b.size ≤ 140737488355328) : XPure Tryz.prog 79 [eS (w :: [a, b])] (.tup [(parseC (w :: [a, b])).av, i64 (parseE (w :: [a, b]))]) false := by
  have hE := parseE_k (w := w) (l := [a, b]) (Nat.le_of_ble_eq_true rfl) ho rfl (by decide)
  refine XPure.bodyN ⟨_, Tryz.func79, rfl, by kernel_rfl⟩ Tryz.func79 rfl (Nat.le_of_ble_eq_true (by rfl)) (pf_of1 rfl) fun env => ?_
  repeat' ((conv => whnf); (fail_if_success refine zC ?_); first | refine zSd ?_ | refine zB (fun h hs => ?_) (fun h hs => ?_) <;> try exact hs.elim | refine .inl ⟨_, _, c_op ho, ?_⟩ | refine .inl ⟨_, _, c_many (op := 1) (b := true) (rfl), ?_⟩ | refine .inl ⟨_, _, c_filesN (op := 1) (st := 0) (src := [a]) (words := []) hb (Nat.le_of_ble_eq_true rfl) (sz1 ha) okL okL, ?_⟩ | refine ⟨_, _, c_op ho, ?_⟩ | refine ⟨_, _, c_many (op := 1) (b := true) (rfl), ?_⟩ | refine ⟨_, _, c_filesN (op := 1) (st := 0) (src := [a]) (words := []) hb (Nat.le_of_ble_eq_true rfl) (sz1 ha) okL okL, ?_⟩ | ((fail_if_success (with_reducible show (∃ _ _, XPure _ _ _ _ _ ∧ _) ∨ _)); refine .inl ?_) | exact zElw | refine zZlw ?_ | fail)
  all_goals try (exfalso; simp only [List.length_cons, List.length_nil, List.length_append, List.length_map, List.length_drop, List.length_take] at hs; omega)
  · exact parse_bad (hE.trans (if_neg (by rw [show cmFiles (cmOf 1 [a, b]) = false from hs]; simp))) (by decide)
  · have h0 := hE.trans (if_pos (show cmFiles (cmOf 1 [a, b]) = true from hs))
    exact parse_good (c := ⟨1, b, [a], [], 0⟩) h0 (parseC_of ho h0) okL okL
theorem rP_2 {w d : ByteArray} {src : List ByteArray} (ho : opFrom w 1 8 = 2) (h1 : 1 ≤ src.length) (h2 : src.length ≤ 64) (hd : d.size ≤ 140737488355328) (hz : ∀ i, i < src.length → (src.getD i .empty).size ≤ 140737488355328) : XPure Tryz.prog 79 [eS (w :: d :: src)] (.tup [(parseC (w :: d :: src)).av, i64 (parseE (w :: d :: src))]) false := by
  have hE := parseE_k (w := w) (l := (d :: src)) (by simp only [List.length_cons]; omega) ho (by simp [manyOk]; omega) (by decide)
  refine XPure.bodyN ⟨_, Tryz.func79, rfl, by kernel_rfl⟩ Tryz.func79 rfl (Nat.le_of_ble_eq_true (by rfl)) (pf_of1 rfl) fun env => ?_
  repeat' ((conv => whnf); (fail_if_success refine zC ?_); first | refine zSd ?_ | refine zB (fun h hs => ?_) (fun h hs => ?_) <;> try exact hs.elim | refine .inl ⟨_, _, c_op ho, ?_⟩ | refine .inl ⟨_, _, c_many (op := 2) (b := true) (by simp [manyOk]; omega), ?_⟩ | refine .inl ⟨_, _, c_filesN (op := 2) (st := 0) (src := src) (words := []) hd (by omega) (hz) okL okL, ?_⟩ | refine ⟨_, _, c_op ho, ?_⟩ | refine ⟨_, _, c_many (op := 2) (b := true) (by simp [manyOk]; omega), ?_⟩ | refine ⟨_, _, c_filesN (op := 2) (st := 0) (src := src) (words := []) hd (by omega) (hz) okL okL, ?_⟩ | ((fail_if_success (with_reducible show (∃ _ _, XPure _ _ _ _ _ ∧ _) ∨ _)); refine .inl ?_) | exact zElw | refine zZlw ?_ | fail)
  all_goals try (exfalso; simp only [List.length_cons, List.length_nil, List.length_append, List.length_map, List.length_drop, List.length_take] at hs; omega)
  · exact parse_bad (hE.trans (if_neg (by rw [show cmFiles (cmOf 2 (d :: src)) = false from hs]; simp))) (by decide)
  · have h0 := hE.trans (if_pos (show cmFiles (cmOf 2 (d :: src)) = true from hs))
    exact parse_good (c := ⟨2, d, src, [], 0⟩) h0 (parseC_of ho h0) okL okL
theorem rP_3 {w d : ByteArray} {ws : List ByteArray} (ho : opFrom w 1 8 = 3) (h2 : ws.length ≤ 512) (hd : d.size ≤ 140737488355328) : XPure Tryz.prog 79 [eS (w :: d :: ws)] (.tup [(parseC (w :: d :: ws)).av, i64 (parseE (w :: d :: ws))]) false := by
  have hE := parseE_k (w := w) (l := (d :: ws)) (by simp only [List.length_cons]; omega) ho (by simp [manyOk]; omega) (by decide)
  refine XPure.bodyN ⟨_, Tryz.func79, rfl, by kernel_rfl⟩ Tryz.func79 rfl (Nat.le_of_ble_eq_true (by rfl)) (pf_of1 rfl) fun env => ?_
  repeat' ((conv => whnf); (fail_if_success refine zC ?_); first | refine zSd ?_ | refine zB (fun h hs => ?_) (fun h hs => ?_) <;> try exact hs.elim | refine .inl ⟨_, _, c_op ho, ?_⟩ | refine .inl ⟨_, _, c_many (op := 3) (b := true) (by simp [manyOk]; omega), ?_⟩ | refine .inl ⟨_, _, c_filesN (op := 3) (st := 0) (src := []) (words := ws) hd (Nat.le_of_ble_eq_true rfl) (szE) okL okL, ?_⟩ | refine ⟨_, _, c_op ho, ?_⟩ | refine ⟨_, _, c_many (op := 3) (b := true) (by simp [manyOk]; omega), ?_⟩ | refine ⟨_, _, c_filesN (op := 3) (st := 0) (src := []) (words := ws) hd (Nat.le_of_ble_eq_true rfl) (szE) okL okL, ?_⟩ | ((fail_if_success (with_reducible show (∃ _ _, XPure _ _ _ _ _ ∧ _) ∨ _)); refine .inl ?_) | exact zElw | refine zZlw ?_ | fail)
  all_goals try (exfalso; simp only [List.length_cons, List.length_nil, List.length_append, List.length_map, List.length_drop, List.length_take] at hs; omega)
  · exact parse_bad (hE.trans (if_neg (by rw [show cmFiles (cmOf 3 (d :: ws)) = false from hs]; simp))) (by decide)
  · have h0 := hE.trans (if_pos (show cmFiles (cmOf 3 (d :: ws)) = true from hs))
    exact parse_good (c := ⟨3, d, [], ws, 0⟩) h0 (parseC_of ho h0) okL okL
theorem rP_4 {w d : ByteArray} (ho : opFrom w 1 8 = 4) (hd : d.size ≤ 140737488355328) : XPure Tryz.prog 79 [eS (w :: [d])] (.tup [(parseC (w :: [d])).av, i64 (parseE (w :: [d]))]) false := by
  have hE := parseE_k (w := w) (l := [d]) (Nat.le_of_ble_eq_true rfl) ho rfl (by decide)
  refine XPure.bodyN ⟨_, Tryz.func79, rfl, by kernel_rfl⟩ Tryz.func79 rfl (Nat.le_of_ble_eq_true (by rfl)) (pf_of1 rfl) fun env => ?_
  repeat' ((conv => whnf); (fail_if_success refine zC ?_); first | refine zSd ?_ | refine zB (fun h hs => ?_) (fun h hs => ?_) <;> try exact hs.elim | refine .inl ⟨_, _, c_op ho, ?_⟩ | refine .inl ⟨_, _, c_many (op := 4) (b := true) (rfl), ?_⟩ | refine .inl ⟨_, _, c_filesN (op := 4) (st := 0) (src := []) (words := []) hd (Nat.le_of_ble_eq_true rfl) (szE) okL okL, ?_⟩ | refine ⟨_, _, c_op ho, ?_⟩ | refine ⟨_, _, c_many (op := 4) (b := true) (rfl), ?_⟩ | refine ⟨_, _, c_filesN (op := 4) (st := 0) (src := []) (words := []) hd (Nat.le_of_ble_eq_true rfl) (szE) okL okL, ?_⟩ | ((fail_if_success (with_reducible show (∃ _ _, XPure _ _ _ _ _ ∧ _) ∨ _)); refine .inl ?_) | exact zElw | refine zZlw ?_ | fail)
  all_goals try (exfalso; simp only [List.length_cons, List.length_nil, List.length_append, List.length_map, List.length_drop, List.length_take] at hs; omega)
  · exact parse_bad (hE.trans (if_neg (by rw [show cmFiles (cmOf 4 [d]) = false from hs]; simp))) (by decide)
  · have h0 := hE.trans (if_pos (show cmFiles (cmOf 4 [d]) = true from hs))
    exact parse_good (c := ⟨4, d, [], [], 0⟩) h0 (parseC_of ho h0) okL okL
theorem rP_5 {w d : ByteArray} (ho : opFrom w 1 8 = 5) (hd : d.size ≤ 140737488355328) : XPure Tryz.prog 79 [eS (w :: [d])] (.tup [(parseC (w :: [d])).av, i64 (parseE (w :: [d]))]) false := by
  have hE := parseE_k (w := w) (l := [d]) (Nat.le_of_ble_eq_true rfl) ho rfl (by decide)
  refine XPure.bodyN ⟨_, Tryz.func79, rfl, by kernel_rfl⟩ Tryz.func79 rfl (Nat.le_of_ble_eq_true (by rfl)) (pf_of1 rfl) fun env => ?_
  repeat' ((conv => whnf); (fail_if_success refine zC ?_); first | refine zSd ?_ | refine zB (fun h hs => ?_) (fun h hs => ?_) <;> try exact hs.elim | refine .inl ⟨_, _, c_op ho, ?_⟩ | refine .inl ⟨_, _, c_many (op := 5) (b := true) (rfl), ?_⟩ | refine .inl ⟨_, _, c_filesN (op := 5) (st := 0) (src := []) (words := []) hd (Nat.le_of_ble_eq_true rfl) (szE) okL okL, ?_⟩ | refine ⟨_, _, c_op ho, ?_⟩ | refine ⟨_, _, c_many (op := 5) (b := true) (rfl), ?_⟩ | refine ⟨_, _, c_filesN (op := 5) (st := 0) (src := []) (words := []) hd (Nat.le_of_ble_eq_true rfl) (szE) okL okL, ?_⟩ | ((fail_if_success (with_reducible show (∃ _ _, XPure _ _ _ _ _ ∧ _) ∨ _)); refine .inl ?_) | exact zElw | refine zZlw ?_ | fail)
  all_goals try (exfalso; simp only [List.length_cons, List.length_nil, List.length_append, List.length_map, List.length_drop, List.length_take] at hs; omega)
  · exact parse_bad (hE.trans (if_neg (by rw [show cmFiles (cmOf 5 [d]) = false from hs]; simp))) (by decide)
  · have h0 := hE.trans (if_pos (show cmFiles (cmOf 5 [d]) = true from hs))
    exact parse_good (c := ⟨5, d, [], [], 0⟩) h0 (parseC_of ho h0) okL okL
theorem rP_6 {w s : ByteArray} (ho : opFrom w 1 8 = 6) (hd : s.size ≤ 140737488355328) : XPure Tryz.prog 79 [eS (w :: [s])] (.tup [(parseC (w :: [s])).av, i64 (parseE (w :: [s]))]) false := by
  have hE := parseE_k (w := w) (l := [s]) (Nat.le_of_ble_eq_true rfl) ho rfl (by decide)
  refine XPure.bodyN ⟨_, Tryz.func79, rfl, by kernel_rfl⟩ Tryz.func79 rfl (Nat.le_of_ble_eq_true (by rfl)) (pf_of1 rfl) fun env => ?_
  repeat' ((conv => whnf); (fail_if_success refine zC ?_); first | refine zSd ?_ | refine zB (fun h hs => ?_) (fun h hs => ?_) <;> try exact hs.elim | refine .inl ⟨_, _, c_op ho, ?_⟩ | refine .inl ⟨_, _, c_many (op := 6) (b := true) (rfl), ?_⟩ | refine .inl ⟨_, _, c_filesN (op := 6) (st := 0) (src := [s]) (words := []) (dst := ⟨#[]⟩) (Nat.le_of_ble_eq_true rfl) (Nat.le_of_ble_eq_true rfl) (sz1 hd) okL okL, ?_⟩ | refine ⟨_, _, c_op ho, ?_⟩ | refine ⟨_, _, c_many (op := 6) (b := true) (rfl), ?_⟩ | refine ⟨_, _, c_filesN (op := 6) (st := 0) (src := [s]) (words := []) (dst := ⟨#[]⟩) (Nat.le_of_ble_eq_true rfl) (Nat.le_of_ble_eq_true rfl) (sz1 hd) okL okL, ?_⟩ | ((fail_if_success (with_reducible show (∃ _ _, XPure _ _ _ _ _ ∧ _) ∨ _)); refine .inl ?_) | exact zElw | refine zZlw ?_ | fail)
  all_goals try (exfalso; simp only [List.length_cons, List.length_nil, List.length_append, List.length_map, List.length_drop, List.length_take] at hs; omega)
  · exact parse_bad (hE.trans (if_neg (by rw [show cmFiles (cmOf 6 [s]) = false from hs]; simp))) (by decide)
  · have h0 := hE.trans (if_pos (show cmFiles (cmOf 6 [s]) = true from hs))
    exact parse_good (c := ⟨6, ⟨#[]⟩, [s], [], 0⟩) h0 (parseC_of ho h0) okL okL
theorem rP_8 {w : ByteArray} {ws : List ByteArray} (ho : opFrom w 1 8 = 8) (h2 : ws.length ≤ 512) : XPure Tryz.prog 79 [eS (w :: ws)] (.tup [(parseC (w :: ws)).av, i64 (parseE (w :: ws))]) false := by
  have hE := parseE_k (w := w) (l := ws) (by omega) ho (by simp [manyOk]; omega) (by decide)
  refine XPure.bodyN ⟨_, Tryz.func79, rfl, by kernel_rfl⟩ Tryz.func79 rfl (Nat.le_of_ble_eq_true (by rfl)) (pf_of1 rfl) fun env => ?_
  repeat' ((conv => whnf); (fail_if_success refine zC ?_); first | refine zSd ?_ | refine zB (fun h hs => ?_) (fun h hs => ?_) <;> try exact hs.elim | refine .inl ⟨_, _, c_op ho, ?_⟩ | refine .inl ⟨_, _, c_many (op := 8) (b := true) (by simp [manyOk]; omega), ?_⟩ | refine .inl ⟨_, _, c_filesN (op := 8) (st := 0) (src := []) (words := ws) (dst := ⟨#[]⟩) (Nat.le_of_ble_eq_true rfl) (Nat.le_of_ble_eq_true rfl) (szE) okL okL, ?_⟩ | refine ⟨_, _, c_op ho, ?_⟩ | refine ⟨_, _, c_many (op := 8) (b := true) (by simp [manyOk]; omega), ?_⟩ | refine ⟨_, _, c_filesN (op := 8) (st := 0) (src := []) (words := ws) (dst := ⟨#[]⟩) (Nat.le_of_ble_eq_true rfl) (Nat.le_of_ble_eq_true rfl) (szE) okL okL, ?_⟩ | ((fail_if_success (with_reducible show (∃ _ _, XPure _ _ _ _ _ ∧ _) ∨ _)); refine .inl ?_) | exact zElw | refine zZlw ?_ | fail)
  all_goals try (exfalso; simp only [List.length_cons, List.length_nil, List.length_append, List.length_map, List.length_drop, List.length_take] at hs; omega)
  · exact parse_bad (hE.trans (if_neg (by rw [show cmFiles (cmOf 8 ws) = false from hs]; simp))) (by decide)
  · have h0 := hE.trans (if_pos (show cmFiles (cmOf 8 ws) = true from hs))
    exact parse_good (c := ⟨8, ⟨#[]⟩, [], ws, 0⟩) h0 (parseC_of ho h0) okL okL
theorem rP_7a {w : ByteArray} (ho : opFrom w 1 8 = 7) : XPure Tryz.prog 79 [eS [w]] (.tup [(parseC [w]).av, i64 (parseE [w])]) false := by
  have hE := parseE_7 (w := w) (l := []) (Nat.le_of_ble_eq_true rfl) ho rfl
  refine XPure.bodyN ⟨_, Tryz.func79, rfl, by kernel_rfl⟩ Tryz.func79 rfl (Nat.le_of_ble_eq_true (by rfl)) (pf_of1 rfl) fun env => ?_
  repeat' ((conv => whnf); (fail_if_success refine zC ?_); first | refine zSd ?_ | refine zB (fun h hs => ?_) (fun h hs => ?_) <;> try exact hs.elim | refine .inl ⟨_, _, c_op ho, ?_⟩ | refine .inl ⟨_, _, c_many (op := 7) (b := true) (rfl), ?_⟩ | refine .inl ⟨_, _, c_filesN (op := 7) (st := 1) (src := []) (words := []) (dst := ⟨#[]⟩) (Nat.le_of_ble_eq_true rfl) (Nat.le_of_ble_eq_true rfl) (szE) okL okL, ?_⟩ | refine ⟨_, _, c_op ho, ?_⟩ | refine ⟨_, _, c_many (op := 7) (b := true) (rfl), ?_⟩ | refine ⟨_, _, c_filesN (op := 7) (st := 1) (src := []) (words := []) (dst := ⟨#[]⟩) (Nat.le_of_ble_eq_true rfl) (Nat.le_of_ble_eq_true rfl) (szE) okL okL, ?_⟩ | ((fail_if_success (with_reducible show (∃ _ _, XPure _ _ _ _ _ ∧ _) ∨ _)); refine .inl ?_) | exact zElw | refine zZlw ?_ | fail)
  all_goals try (exfalso; simp only [List.length_cons, List.length_nil, List.length_append, List.length_map, List.length_drop, List.length_take] at hs; omega)
  · have h0 : parseE [w] = 0 := hE.trans rfl
    exact parse_good (c := ⟨7, ⟨#[]⟩, [], [], 1⟩) h0 (parseC_of ho h0) okL okL
theorem rP_7b {w s : ByteArray} (ho : opFrom w 1 8 = 7) (hd : s.size ≤ 140737488355328) : XPure Tryz.prog 79 [eS [w, s]] (.tup [(parseC [w, s]).av, i64 (parseE [w, s])]) false := by
  have hE : parseE [w, s] = if failN s = 0 then 160 else 0 := parseE_7 (w := w) (l := [s]) (Nat.le_of_ble_eq_true rfl) ho rfl
  refine XPure.bodyN ⟨_, Tryz.func79, rfl, by kernel_rfl⟩ Tryz.func79 rfl (Nat.le_of_ble_eq_true (by rfl)) (pf_of1 rfl) fun env => ?_
  repeat' ((conv => whnf); (fail_if_success refine zC ?_); first | refine zSd ?_ | refine zB (fun h hs => ?_) (fun h hs => ?_) <;> try exact hs.elim | refine .inl ⟨_, _, c_op ho, ?_⟩ | refine .inl ⟨_, _, c_ref16_status hd, ?_⟩ | refine .inl ⟨_, _, c_many (op := 7) (b := true) (rfl), ?_⟩ | refine .inl ⟨_, _, c_filesN (op := 7) (st := failN s) (src := []) (words := []) (dst := ⟨#[]⟩) (Nat.le_of_ble_eq_true rfl) (Nat.le_of_ble_eq_true rfl) (szE) okL okL, ?_⟩ | refine ⟨_, _, c_op ho, ?_⟩ | refine ⟨_, _, c_ref16_status hd, ?_⟩ | refine ⟨_, _, c_many (op := 7) (b := true) (rfl), ?_⟩ | refine ⟨_, _, c_filesN (op := 7) (st := failN s) (src := []) (words := []) (dst := ⟨#[]⟩) (Nat.le_of_ble_eq_true rfl) (Nat.le_of_ble_eq_true rfl) (szE) okL okL, ?_⟩ | ((fail_if_success (with_reducible show (∃ _ _, XPure _ _ _ _ _ ∧ _) ∨ _)); refine .inl ?_) | exact zElw | refine zZlw ?_ | fail)
  all_goals try (exfalso; simp only [List.length_cons, List.length_nil, List.length_append, List.length_map, List.length_drop, List.length_take] at hs; omega)
  · exact parse_bad (hE.trans (if_pos hs)) (by decide)
  · exact absurd (show true = false from hs) (by simp)
  · have h0 := hE.trans (if_neg ‹¬ failN s = 0›)
    exact parse_good (c := ⟨7, ⟨#[]⟩, [], [], failN s⟩) h0 (parseC_of ho h0) okL okL
theorem rP_long {ws : List ByteArray} (h : 514 < ws.length) : XPure Tryz.prog 79 [eS ws] (.tup [(parseC ws).av, i64 (parseE ws)]) false := by
  have hE : parseE ws = 2 := by unfold parseE; rw [if_pos h]
  refine XPure.bodyN ⟨_, Tryz.func79, rfl, by kernel_rfl⟩ Tryz.func79 rfl (Nat.le_of_ble_eq_true (by rfl)) (pf_of1 rfl) fun env => ?_
  repeat' ((conv => whnf); (fail_if_success refine zC ?_); first | refine zSd ?_ | refine zB (fun h hs => ?_) (fun h hs => ?_) <;> try exact hs.elim | exact zElw | refine zZlw ?_ | fail)
  · exact parse_bad hE (by decide)
  all_goals (exfalso; omega)
theorem rP_nil : XPure Tryz.prog 79 [eS []] (.tup [(parseC []).av, i64 (parseE [])]) false := by
  have hE : parseE [] = 9 := by unfold parseE; rfl
  refine XPure.bodyN ⟨_, Tryz.func79, rfl, by kernel_rfl⟩ Tryz.func79 rfl (Nat.le_of_ble_eq_true (by rfl)) (pf_of1 rfl) fun env => ?_
  repeat' ((conv => whnf); (fail_if_success refine zC ?_); first | refine zSd ?_ | refine zB (fun h hs => ?_) (fun h hs => ?_) <;> try exact hs.elim | exact zElw | refine zZlw ?_ | fail)
  exact parse_bad hE (by decide)
end Go.Proofs.YtepdiooaoegpfaaGreatDoor.Fx
end
