/- Written by programs of this session: laws and contracts that the law's proof stands on, merged into one text. Conditions: none beyond those in each statement. -/
import Derived.Test.YtepdiooaoegpfaaGreatDoorPkFx6
import Derived.Test.YtepdiooaoegpfaaGreatDoorPkSp1
import Derived.Test.YtepdiooaoegpfaaGreatDoorPkSp2
import Derived.Lib.ItoaNum
import Derived.Lib.AtoiAllCases
section
/- Where one of some bytes stands; quoted words; texts joined. Conditions: those in each statement. -/
namespace Go.Proofs.YtepdiooaoegpfaaGreatDoor.Fx
open Go Go.Proofs Go.Ev Go.RowKit Go.Proofs.YtepdiooaoegpfaaGreatDoor.Sup
set_option maxRecDepth 100000
set_option maxHeartbeats 1600000
set_option linter.unusedSimpArgs false
set_option linter.unusedVariables false
def asciiS (s : ByteArray) : Bool := s.data.toList.all fun b => decide (b.toNat < 128)
theorem c_IndexAny {s cs : ByteArray} (h2 : 2 ≤ cs.size) (h3 : cs.size < 4294967281) (hs : s.size ≤ 140737488351232) (ha : asciiS cs = true) : XPure Tryz.prog 86 [str s, str cs] (i64 (Lib.indexAny s.data.toList cs.data.toList)) false :=
  XPure.ofCalls (l := [.string s, .string cs]) ⟨_, Tryz.func86, rfl, by kernel_rfl⟩ rfl (fun w => by
    have h5 : ∀ b ∈ cs.data.toList, b.toNat < 128 := fun b hb => of_decide_eq_true (List.all_eq_true.1 ha b hb)
    by_cases h8 : s.size ≤ 8
    · exact IndexAny_short s cs w h2 (by omega) h8 (fun j hj => h5 _ (List.mem_of_getElem? (Lib.data_getElem? cs j hj)))
    · exact IndexAny_long s cs w h2 (by omega) hs h3 (fun j b hb => h5 b (List.mem_of_getElem? hb))) fun _ _ _ _ => rep_v_mk rfl
theorem c_ContainsAny {s cs : ByteArray} (h2 : 2 ≤ cs.size) (h3 : cs.size < 4294967281) (hs : s.size ≤ 140737488351232) (ha : asciiS cs = true) : XPure Tryz.prog 87 [str s, str cs] (bln (decide (0 ≤ Lib.indexAny s.data.toList cs.data.toList))) false := by
  refine XPure.body ⟨_, Tryz.func87, rfl, by kernel_rfl⟩ Tryz.func87 rfl (Nat.le_of_ble_eq_true (by rfl)) (pf_of1 rfl) fun env => ?_
  repeat' ((conv => whnf); (fail_if_success refine zC ?_); first | refine zS ?_ | refine zB (fun h hs => ?_) (fun h hs => ?_) <;> try exact hs.elim | refine .inl ⟨_, _, c_IndexAny h2 h3 hs ha, ?_⟩ | exact zE | refine zZ ?_ | fail)
theorem c_lex_quoted {s : ByteArray} {i : Nat} (hi : i < s.size) (hs : s.size ≤ 140737488351232) : XPure Tryz.prog 85 [str s, i64 i] (.tup [str (qW (lexq (s.data.toList.drop (i + 1)) [] (i + 1))), i64 (qP (lexq (s.data.toList.drop (i + 1)) [] (i + 1))), bln (qB (lexq (s.data.toList.drop (i + 1)) [] (i + 1)))]) false :=
  XPure.ofCalls (l := [.string s, .int .i64 i]) ⟨_, Tryz.func85, rfl, by kernel_rfl⟩ rfl (fun w => quoted_walk s i w hi hs) fun w hw bs base => by
    refine ⟨_, rfl, ?_⟩
    simp only [RepT]
    exact ⟨_, _, rfl, rep1_of rfl (rep_v_mk rfl), _, _, rfl, rep1_of rfl (rep_v_mk rfl), _, _, rfl, rep1_of rfl (rep_v_mk rfl), rfl⟩
theorem lexq_at : ∀ (l acc : List UInt8) (p : Nat) (w : List UInt8) (q : Nat), lexq l acc p = some (w, q) → p < q ∧ q ≤ p + l.length
  | [], _, _, _, _, h => by simp [lexq] at h
  | [c], acc, p, w, q, h => by
    rw [lexq_cons] at h
    split at h
    · cases h; simp
    · split at h
      · cases h
      · split at h
        · cases h
        · simp [lexq] at h
  | c :: d :: t, acc, p, w, q, h => by
    rw [lexq_cons] at h
    simp only at h
    split at h
    · cases h; simp
    · split at h
      · cases h
      · split at h
        · split at h
          · have := lexq_at _ _ _ _ _ h; simp only [List.length_cons]; omega
          · split at h
            · have := lexq_at _ _ _ _ _ h; simp only [List.length_cons]; omega
            · split at h
              · have := lexq_at _ _ _ _ _ h; simp only [List.length_cons]; omega
              · cases h
        · have := lexq_at _ _ _ _ _ h; simp only [List.length_cons] at this ⊢; omega
theorem indexAny_lt (cs : List UInt8) : ∀ l : List UInt8, Lib.indexAny l cs < l.length ∨ (l = [] ∧ Lib.indexAny l cs = -1)
  | [] => .inr ⟨rfl, rfl⟩
  | b :: l => by
    left
    simp only [Lib.indexAny, List.length_cons]
    have ih := indexAny_lt cs l
    have ge := Lib.indexAny_ge cs l
    split
    · omega
    · split
      · omega
      · rcases ih with h | ⟨rfl, h⟩
        · omega
        · rename_i hne; rw [h] at hne; simp at hne
theorem indexAny_pos {b : UInt8} {l cs : List UInt8} (h : cs.contains b = false) : Lib.indexAny (b :: l) cs ≠ 0 := by
  simp only [Lib.indexAny, h, Bool.false_eq_true, if_false]
  have ge := Lib.indexAny_ge cs l
  split
  · omega
  · rename_i hne; simp only [beq_iff_eq] at hne; omega
theorem size_ext {s : ByteArray} {i j : Nat} (hj : j ≤ s.size) : (s.extract i j).size = j - i := by rw [ByteArray.size_extract]; omega
theorem len_data (s : ByteArray) : s.data.toList.length = s.size := by simp
theorem ext_head {s : ByteArray} {i : Nat} (hi : i < s.size) : ∃ t, (s.extract i s.size).data.toList = byteAt s i :: t := by
  have h' : i < s.data.toList.length := by simpa using hi
  refine ⟨s.data.toList.drop (i + 1), ?_⟩
  rw [ByteArray.data_extract, Array.toList_extract, List.extract_eq_take_drop]
  rw [List.take_of_length_le (by simp), List.drop_eq_getElem_cons h']
  congr 1
  unfold byteAt
  rw [List.getD_eq_getElem?_getD, List.getElem?_eq_getElem h']; rfl
def blankB (c : UInt8) : Bool := ((c.toNat : Int) == 32) || ((c.toNat : Int) == 9)
/-- Words of a line from a place on, behind those that are read; none: a fault. -/
def wordsF : Nat → ByteArray → Nat → List ByteArray → Option (List ByteArray)
  | 0, _, _, out => some out
  | k + 1, s, i, out =>
    if i < s.size then
      if blankB (byteAt s i) = true then wordsF k s (i + 1) out
      else if byteAt s i = 34 then
        match lexq (s.data.toList.drop (i + 1)) [] (i + 1) with
        | none => none
        | some (w, q) => if q < s.size ∧ blankB (byteAt s q) = false then none else wordsF k s q (out ++ [⟨w.toArray⟩])
      else
        let n := if Lib.indexAny (s.extract i s.size).data.toList [32, 9] < 0 then s.size - i else (Lib.indexAny (s.extract i s.size).data.toList [32, 9]).toNat
        if 0 ≤ Lib.indexAny (s.extract i (i + n)).data.toList [34, 10] then none else wordsF k s (i + n) (out ++ [s.extract i (i + n)])
    else some out
def wordsL (s : ByteArray) : Option (List ByteArray) := wordsF (s.size + 1) s 0 []
@[irreducible] def wordsE (s : ByteArray) : Int := if 65536 < s.size then 2 else if (wordsL s).isSome = true then 0 else 150
@[irreducible] def wordsV (s : ByteArray) : List ByteArray := if 65536 < s.size then [] else (wordsL s).getD []
theorem words_bad {s : ByteArray} (hz : s.size ≤ 65536) (h : wordsL s = none) : LeqD (.tup [nilv, i64 150]) (.tup [eS (wordsV s), i64 (wordsE s)]) := by
  have e1 : wordsE s = 150 := by unfold wordsE; rw [if_neg (by omega), h]; rfl
  have e2 : wordsV s = [] := by unfold wordsV; rw [if_neg (by omega), h]; rfl
  rw [e1, e2]
  repeat' (first | exact LeqD.refl _ | exact LeqDL.refl _ | exact LeqD.nil (by decide) | refine LeqDL.cons ?_ ?_ | refine LeqD.tup ?_)
theorem words_good {s : ByteArray} {o : List ByteArray} (hz : s.size ≤ 65536) (h : wordsL s = some o) : LeqD (.tup [eS o, i64 0]) (.tup [eS (wordsV s), i64 (wordsE s)]) := by
  have e1 : wordsE s = 0 := by unfold wordsE; rw [if_neg (by omega), h]; rfl
  have e2 : wordsV s = o := by unfold wordsV; rw [if_neg (by omega), h]; rfl
  rw [e1, e2]; exact LeqD.refl _
theorem words_long {s : ByteArray} (hz : 65536 < s.size) : LeqD (.tup [nilv, i64 2]) (.tup [eS (wordsV s), i64 (wordsE s)]) := by
  have e1 : wordsE s = 2 := by unfold wordsE; rw [if_pos hz]
  have e2 : wordsV s = [] := by unfold wordsV; rw [if_pos hz]
  rw [e1, e2]
  repeat' (first | exact LeqD.refl _ | exact LeqDL.refl _ | exact LeqD.nil (by decide) | refine LeqDL.cons ?_ ?_ | refine LeqD.tup ?_)
theorem blankB_yes {s : ByteArray} {i : Nat} (h : ((byteAt s i).toNat : Int) = 32 ∨ ((byteAt s i).toNat : Int) = 9) : blankB (byteAt s i) = true := by simp only [blankB, Bool.or_eq_true, beq_iff_eq]; exact h
theorem blankB_no {s : ByteArray} {i : Nat} (h : ¬ ((byteAt s i).toNat : Int) = 32 ∧ ¬ ((byteAt s i).toNat : Int) = 9) : blankB (byteAt s i) = false := by simp only [blankB, Bool.or_eq_false_iff, beq_eq_false_iff_ne]; exact h
theorem u8_yes {c : UInt8} (h : (c.toNat : Int) = 34) : c = 34 := UInt8.toNat_inj.1 (by simpa using (by omega : c.toNat = 34))
theorem u8_no {c : UInt8} (h : ¬ (c.toNat : Int) = 34) : ¬ c = 34 := fun e => h (by rw [e]; rfl)
/-- A place at which no blank and no quote stands. -/
theorem wordsF_plain {k : Nat} {s : ByteArray} {i : Nat} {out : List ByteArray} {r : Int} {n : Nat} (hi : i < s.size) (h1 : blankB (byteAt s i) = false) (h2 : ¬ byteAt s i = 34) (hr : Lib.indexAny (s.extract i s.size).data.toList [32, 9] = r) (hn : (if r < 0 then s.size - i else r.toNat) = n) :
    wordsF (k + 1) s i out = if 0 ≤ Lib.indexAny (s.extract i (i + n)).data.toList [34, 10] then none else wordsF k s (i + n) (out ++ [s.extract i (i + n)]) := by
  rw [wordsF, if_pos hi, if_neg (by rw [h1]; simp), if_neg h2]
  simp only [hr, hn]
theorem wordsF_q0 {k : Nat} {s : ByteArray} {i : Nat} {out : List ByteArray} (hi : i < s.size) (h1 : blankB (byteAt s i) = false) (h2 : byteAt s i = 34) (hR : lexq (s.data.toList.drop (i + 1)) [] (i + 1) = none) : wordsF (k + 1) s i out = none := by
  rw [wordsF, if_pos hi, if_neg (by rw [h1]; simp), if_pos h2]
  simp only [hR]
theorem wordsF_q1 {k : Nat} {s : ByteArray} {i : Nat} {out : List ByteArray} {w : List UInt8} {q : Nat} (hi : i < s.size) (h1 : blankB (byteAt s i) = false) (h2 : byteAt s i = 34) (hR : lexq (s.data.toList.drop (i + 1)) [] (i + 1) = some (w, q)) :
    wordsF (k + 1) s i out = if q < s.size ∧ blankB (byteAt s q) = false then none else wordsF k s q (out ++ [⟨w.toArray⟩]) := by
  rw [wordsF, if_pos hi, if_neg (by rw [h1]; simp), if_pos h2]
  simp only [hR]
theorem c_lex_Words {s : ByteArray} : XPure Tryz.prog 66 [str s] (.tup [eS (wordsV s), i64 (wordsE s)]) false := by
  refine XPure.bodyN ⟨_, Tryz.func66, rfl, by kernel_rfl⟩ Tryz.func66 rfl (Nat.le_of_ble_eq_true (by rfl)) (pf_of1 rfl) fun env => ?_
  repeat' ((conv => whnf); (fail_if_success refine zC ?_); first | refine zS ?_ | refine zB (fun h hs => ?_) (fun h hs => ?_) <;> try exact hs.elim | exact zElw | refine zZlw ?_ | fail)
  · exact words_long (by omega)
  refine XW.overL [0] (fun (p : Nat × List ByteArray) => [(4, eS p.2), (5, i64 p.1)]) (fun _ => [4]) (fun _ => []) (fun p => p.1 ≤ s.size ∧ p.2.length ≤ p.1 ∧ ∃ k, s.size + 1 ≤ p.1 + k ∧ wordsF k s p.1 p.2 = wordsL s) (fun p => s.size - p.1) (0, []) Weak.go ⟨Nat.zero_le _, Nat.zero_le _, s.size + 1, by omega, rfl⟩ ?_
  rintro ⟨i, out⟩ ⟨hi, ho, k, hk, hA⟩
  dsimp only at hi ho hk hA ⊢
  obtain ⟨k, rfl⟩ : ∃ k', k = k' + 1 := ⟨k - 1, by omega⟩
  refine codeS ?_
  have hq : i < s.size → XPure Tryz.prog 85 [str s, i64 i] _ false := fun h => c_lex_quoted h (by omega)
  obtain ⟨R, hR⟩ : ∃ R, lexq (s.data.toList.drop (i + 1)) [] (i + 1) = R := ⟨_, rfl⟩
  have hI := c_IndexAny (s := s.extract i s.size) (cs := ⟨#[32, 9]⟩) (Nat.le_of_ble_eq_true rfl) (Nat.le_of_ble_eq_true rfl) (by rw [size_ext (Nat.le_refl _)]; omega) rfl
  obtain ⟨r, hr⟩ : ∃ r, Lib.indexAny (s.extract i s.size).data.toList [32, 9] = r := ⟨_, rfl⟩
  rw [hR] at hq
  rw [show (⟨#[32, 9]⟩ : ByteArray).data.toList = [32, 9] from rfl, hr] at hI
  have hr1 : -1 ≤ r := hr ▸ Lib.indexAny_ge _ _
  have hr2 : r < ((s.size - i : Nat) : Int) ∨ r = -1 := by
    rcases indexAny_lt [32, 9] (s.extract i s.size).data.toList with h | ⟨_, h⟩
    · rw [len_data, size_ext (Nat.le_refl _), hr] at h; exact .inl h
    · exact .inr (hr ▸ h)
  have hwi : IntKind.i64.wrap ((i : Int) + 1) = ((i + 1 : Nat) : Int) := by rw [wrapId (by omega) (by omega)]; omega
  have hw2 : IntKind.i64.wrap ((s.size : Int) - (i : Int)) = ((s.size - i : Nat) : Int) := by rw [wrapId (by omega) (by omega)]; omega
  have hw3 : IntKind.i64.wrap ((i : Int) + ((s.size - i : Nat) : Int)) = (s.size : Int) := by rw [wrapId (by omega) (by omega)]; omega
  have hw4 : 0 ≤ r → IntKind.i64.wrap ((i : Int) + r) = ((i + r.toNat : Nat) : Int) := fun h => by rw [wrapId (by omega) (by omega)]; omega
  have hqp : 0 ≤ qP R := by rcases R with _ | ⟨w, q⟩ <;> simp [qP]
  repeat' ((conv => whnf); (fail_if_success refine zC ?_); first | refine zS ?_ | refine zB (fun h hs => ?_) (fun h hs => ?_) <;> try exact hs.elim | refine .inl ⟨_, _, c_lex_blank, ?_⟩ | refine .inl ⟨_, _, hq (by omega), ?_⟩ | refine .inl ⟨_, _, hI, ?_⟩ | refine .inl ⟨_, _, c_ContainsAny (Nat.le_of_ble_eq_true rfl) (Nat.le_of_ble_eq_true rfl) (by rw [size_ext (by omega)]; omega) rfl, ?_⟩ | (first | rw [hw2] | rw [hw3] | rw [hw4 (by omega)]) | exact zElws | refine zZlws ?_ | (refine ⟨?_, ?_, ?_⟩; (first | (refine sizeOk rfl ?_; simp only [List.length_map, List.length_append, List.length_cons, List.length_nil]; omega) | omega | (simp only [List.length_map, List.length_append, List.length_cons, List.length_nil]; omega) | (rw [size_ext (by omega)]; omega)); (first | (refine sizeOk rfl ?_; simp only [List.length_map, List.length_append, List.length_cons, List.length_nil]; omega) | omega | (simp only [List.length_map, List.length_append, List.length_cons, List.length_nil]; omega) | (rw [size_ext (by omega)]; omega))) | (refine ⟨?_, ?_⟩; (first | (refine sizeOk rfl ?_; simp only [List.length_map, List.length_append, List.length_cons, List.length_nil]; omega) | omega | (simp only [List.length_map, List.length_append, List.length_cons, List.length_nil]; omega) | (rw [size_ext (by omega)]; omega))) | fail)
  · rw [wordsF, if_pos (by assumption), if_pos (blankB_yes hs)] at hA
    conv => whnf
    rw [hwi]
    refine ⟨(i + 1, out), by dsimp only; omega, ⟨by dsimp only; omega, by dsimp only; omega, k, by dsimp only; omega, hA⟩, Weak.go⟩
  · rcases R with _ | ⟨w, q⟩
    · exact words_bad (by omega) (by rw [← hA, wordsF_q0 (by assumption) (blankB_no (by assumption)) (u8_yes (by assumption)) hR])
    · rw [wordsF_q1 (by assumption) (blankB_no (by assumption)) (u8_yes (by assumption)) hR] at hA
      have hlt : q < s.size := by have : ((q : Nat) : Int) < s.size := by assumption
                                  omega
      have hb : blankB (byteAt s q) = false := by
        rcases hs with h | ⟨_, h⟩
        · cases h
        · exact blankB_no h
      rw [if_pos ⟨hlt, hb⟩] at hA
      exact words_bad (by omega) hA.symm
  · rcases R with _ | ⟨w, q⟩
    · cases ‹qB none = true›
    · have hb := lexq_at _ _ _ _ _ hR
      rw [List.length_drop, len_data] at hb
      rw [wordsF_q1 (by assumption) (blankB_no (by assumption)) (u8_yes (by assumption)) hR] at hA
      have hM := map_snoc eStr out (qW (some (w, q)))
      rw [if_neg (by
        rintro ⟨g1, g2⟩
        rcases hs.2 with g | g
        · have : (s.size : Int) ≤ ((q : Nat) : Int) := g
          omega
        · exact absurd (blankB_yes g) (by show ¬ blankB (byteAt s q) = true; rw [g2]; simp))] at hA
      conv => whnf
      refine ⟨(q, out ++ [qW (some (w, q))]), by dsimp only; omega, ⟨by dsimp only; omega, by simp only [List.length_append, List.length_cons, List.length_nil]; omega, k, by dsimp only; omega, hA⟩, Weak.go⟩
  · exfalso; simp_all
  · rcases R with _ | ⟨w, q⟩
    · cases ‹qB none = true›
    · have hb := lexq_at _ _ _ _ _ hR
      rw [List.length_drop, len_data] at hb
      rw [wordsF_q1 (by assumption) (blankB_no (by assumption)) (u8_yes (by assumption)) hR] at hA
      have hM := map_snoc eStr out (qW (some (w, q)))
      rw [if_neg (by
        rintro ⟨g1, g2⟩
        have : (s.size : Int) ≤ ((q : Nat) : Int) := by assumption
        omega)] at hA
      conv => whnf
      refine ⟨(q, out ++ [qW (some (w, q))]), by dsimp only; omega, ⟨by dsimp only; omega, by simp only [List.length_append, List.length_cons, List.length_nil]; omega, k, by dsimp only; omega, hA⟩, Weak.go⟩
  · rcases R with _ | ⟨w, q⟩
    · exact words_bad (by omega) (by rw [← hA, wordsF_q0 (by assumption) (blankB_no (by assumption)) (u8_yes (by assumption)) hR])
    · cases hs
  · rw [wordsF_plain (n := s.size - i) (by assumption) (blankB_no (by assumption)) (u8_no (by assumption)) hr (if_pos (by assumption)), show i + (s.size - i) = s.size from by omega, if_pos hs] at hA
    exact words_bad (by omega) hA.symm
  · rw [wordsF_plain (n := s.size - i) (by assumption) (blankB_no (by assumption)) (u8_no (by assumption)) hr (if_pos (by assumption)), show i + (s.size - i) = s.size from by omega, if_neg (by omega)] at hA
    have hM := map_snoc eStr out (s.extract i s.size)
    conv => whnf
    refine ⟨(s.size, out ++ [s.extract i s.size]), by dsimp only; omega, ⟨by dsimp only; omega, by simp only [List.length_append, List.length_cons, List.length_nil]; omega, k, by dsimp only; omega, hA⟩, Weak.go⟩
  · rw [wordsF_plain (n := r.toNat) (by assumption) (blankB_no (by assumption)) (u8_no (by assumption)) hr (if_neg (by omega)), if_pos hs] at hA
    exact words_bad (by omega) hA.symm
  · have hq' : Lib.indexAny (s.extract i (i + r.toNat)).data.toList [34, 10] < 0 := hs
    rw [wordsF_plain (n := r.toNat) (by assumption) (blankB_no (by assumption)) (u8_no (by assumption)) hr (if_neg (by omega)), if_neg (by omega)] at hA
    have hM := map_snoc eStr out (s.extract i (i + r.toNat))
    have hr0 : r ≠ 0 := by
      rintro rfl
      obtain ⟨t, ht⟩ := ext_head (s := s) (i := i) (by assumption)
      rw [ht] at hr
      exact indexAny_pos (by have := blankB_no (s := s) (i := i) (by assumption); simp only [blankB, Bool.or_eq_false_iff, beq_eq_false_iff_ne] at this; simp only [List.contains_cons, List.contains_nil, Bool.or_false, Bool.or_eq_false_iff, beq_eq_false_iff_ne]; exact ⟨fun e => this.1 (by rw [e]; rfl), fun e => this.2 (by rw [e]; rfl)⟩) hr
    conv => whnf
    refine ⟨(i + r.toNat, out ++ [s.extract i (i + r.toNat)]), by dsimp only; omega, ⟨by dsimp only; omega, by simp only [List.length_append, List.length_cons, List.length_nil]; omega, k, by dsimp only; omega, hA⟩, Weak.go⟩
  · rw [wordsF, if_neg hs] at hA
    exact words_good (by omega) hA.symm
end Go.Proofs.YtepdiooaoegpfaaGreatDoor.Fx
end
section
/- A copying command is read. Conditions: those in each statement. -/
namespace Go.Proofs.YtepdiooaoegpfaaGreatDoor.Fx
open Go Go.Proofs Go.Ev Go.RowKit
set_option maxRecDepth 100000
set_option maxHeartbeats 1600000
set_option linter.unusedSimpArgs false
set_option linter.unusedVariables false
abbrev eC (op : Int) (dst : ByteArray) (src words : List ByteArray) (st : Int) : AV := .agg [i64 op, str dst, eS src, eS words, i64 st]
abbrev copyW : ByteArray := ⟨#[99, 111, 112, 121]⟩
abbrev heads1 : List ByteArray := [copyW, ⟨#[99, 111, 110, 99, 97, 116]⟩, ⟨#[101, 99, 104, 111, 45, 116, 111]⟩, ⟨#[116, 111, 117, 99, 104]⟩, ⟨#[114, 101, 109, 111, 118, 101]⟩, ⟨#[116, 101, 115, 116, 45, 101, 120, 105, 115, 116, 115]⟩, ⟨#[102, 97, 105, 108]⟩, ⟨#[115, 97, 121]⟩]
theorem c_heads : XPure Tryz.prog 88 [] (eS (⟨#[]⟩ :: heads1)) false := by
  refine XPure.body ⟨_, Tryz.func88, rfl, by kernel_rfl⟩ Tryz.func88 rfl (Nat.le_of_ble_eq_true (by rfl)) (pf_of1 rfl) fun env => ?_
  repeat' ((conv => whnf); (fail_if_success refine zC ?_); first | refine zS ?_ | refine zB (fun h hs => ?_) (fun h hs => ?_) <;> try exact hs.elim | exact zE | refine zZ ?_ | fail)
theorem leq_cmd {op op' st st' e e' : Int} {d d' : ByteArray} {a a' : List ByteArray} (h1 : op = op') (h2 : d = d') (h3 : a = a') (h4 : st = st') (h5 : e = e') : LeqD (.tup [.agg [i64 op, str d, eS a, nilv, i64 st], i64 e]) (.tup [eC op' d' a' [] st', i64 e']) := by
  subst h1 h2 h3 h4 h5
  repeat' (first | exact LeqD.nil (by decide) | exact LeqD.refl _ | exact LeqDL.refl _ | refine LeqDL.cons ?_ ?_ | refine LeqD.agg ?_ | refine LeqD.tup ?_)
theorem c_Parse_copy {a b : ByteArray} (ha : isName a = true) (hb : isName b = true) : XPure Tryz.prog 67 [eS [copyW, a, b]] (.tup [eC 1 b [a] [] 0, i64 0]) false := by
  have hI : XPure Tryz.prog 68 [eS heads1, str copyW] (i64 0) false := by
    have h := c_Index (l := heads1) (s := copyW) (Nat.le_of_ble_eq_true rfl)
    have e : findN heads1 copyW 0 = 0 := by simp [findN, beqS_self]
    rwa [e] at h
  have hsz : ∀ x : ByteArray, isName x = true → x.size ≤ 140737488355328 := fun x h => by
    unfold isName at h; simp only [Bool.and_eq_true, decide_eq_true_eq] at h; omega
  have hF : XPure Tryz.prog 93 [eS [a, b]] (i64 0) false := by
    have h := c_cmd_files (l := [a, b]) (Nat.le_of_ble_eq_true rfl) (sz2 (hsz a ha) (hsz b hb))
    rwa [show errIf ([a, b].all isName) 3 = 0 from by simp [errIf, ha, hb]] at h
  refine XPure.bodyN ⟨_, Tryz.func67, rfl, by kernel_rfl⟩ Tryz.func67 rfl (Nat.le_of_ble_eq_true (by rfl)) (pf_of1 rfl) fun env => ?_
  repeat' ((conv => whnf); (fail_if_success refine zC ?_); first | refine zSd ?_ | refine zB (fun h hs => ?_) (fun h hs => ?_) <;> try exact hs.elim | refine .inl ⟨_, _, c_heads, ?_⟩ | refine .inl ⟨_, _, hI, ?_⟩ | refine .inl ⟨_, _, c_CloneS (l := [a, b]) (Nat.le_of_ble_eq_true rfl), ?_⟩ | refine .inl ⟨_, _, c_cmd_count (by omega), ?_⟩ | refine .inl ⟨_, _, hF, ?_⟩ | refine ⟨_, _, c_heads, ?_⟩ | refine ⟨_, _, hI, ?_⟩ | refine ⟨_, _, c_CloneS (l := [a, b]) (Nat.le_of_ble_eq_true rfl), ?_⟩ | refine ⟨_, _, c_cmd_count (by omega), ?_⟩ | refine ⟨_, _, hF, ?_⟩ | (first | (refine XW.draw (id := 5) (m := 8) (by kernel_rfl) (by kernel_rfl) (by rfl) ?_) | (refine XW.drawW (id := 15) (M := 7) (p := 1) (W := [5, 6]) (by kernel_rfl) (by kernel_rfl) ?_) | ((with_reducible show _ ∧ allW _ _); refine ⟨?_, ?_⟩) | exact trivial) | exact zEl | refine zZl ?_ | fail)
  all_goals try (exfalso; have hs' := hs; simp [manyOk] at hs'; done)
  conv => whnf
  exact leq_cmd (op := 1) (d := b) (a := [a]) (st := 0) (e := 0) rfl rfl rfl rfl rfl
end Go.Proofs.YtepdiooaoegpfaaGreatDoor.Fx
end
section
/- What words say as a command: the plain answer. Conditions: those in each statement. -/
namespace Go.Proofs.YtepdiooaoegpfaaGreatDoor.Fx
open Go Go.Proofs Go.Ev Go.RowKit
set_option maxRecDepth 100000
set_option maxHeartbeats 1600000
set_option linter.unusedSimpArgs false
set_option linter.unusedVariables false
/-- The number that a numeral says, by the document: 0, if it is none from 1 to 255. -/
def statL : List UInt8 → Int → Nat → Int
  | [], n, _ => if n > 255 then 0 else n
  | c :: t, n, i => if (c.toNat : Int) < 48 ∨ (c.toNat : Int) > 57 ∨ 2 < i ∨ (n = 0 ∧ (c.toNat : Int) = 48) then 0 else statL t (10 * n + ((c.toNat : Int) - 48)) (i + 1)
/-- The same, by Go's library. -/
def failN (s : ByteArray) : Int := match Lib.atoiAll s.data.toList with
  | .ok v => if (⟨(Lib.itoa v).toArray⟩ : ByteArray) = s ∧ 1 ≤ v ∧ v ≤ 255 then v else 0
  | _ => 0
/-- The digits of a small number. -/
def dl (v : Nat) : List UInt8 := if v < 10 then [UInt8.ofNat (48 + v)] else if v < 100 then [UInt8.ofNat (48 + v / 10), UInt8.ofNat (48 + v % 10)] else [UInt8.ofNat (48 + v / 100), UInt8.ofNat (48 + v / 10 % 10), UInt8.ofNat (48 + v % 10)]
theorem itoa_dl (v : Nat) (h : v < 1000) : Lib.itoa (v : Int) = dl v := by
  rw [Lib.itoa_nonneg]
  unfold dl
  split
  · rename_i h1; exact Lib.decDigits_one h1
  · rename_i h1
    split
    · rename_i h2; exact Lib.decDigits_two h1 h2
    · rename_i h2
      rw [Lib.decDigits, dif_neg h1, Lib.decDigits_two (by omega) (by omega)]
      rw [Nat.div_div_eq_div_mul]
      rfl
theorem stat_dl : ∀ v : Nat, v < 256 → 1 ≤ v → statL (dl v) 0 0 = (v : Int) := by decide +kernel
theorem atoi_dl : ∀ v : Nat, v < 256 → 1 ≤ v → (match Lib.atoiAll (dl v) with | .ok u => u == (v : Int) | _ => false) = true := by decide +kernel
theorem atoi_dl' (v : Nat) (h : v < 256) (h1 : 1 ≤ v) : Lib.atoiAll (dl v) = .ok (v : Int) := by
  have := atoi_dl v h h1
  revert this
  cases Lib.atoiAll (dl v) with
  | ok u => intro e; rw [beq_iff_eq.1 e]
  | _ => intro e; cases e
theorem failN_ok {s : ByteArray} {v : Int} (hv : Lib.atoiAll s.data.toList = .ok v) : failN s = if (⟨(Lib.itoa v).toArray⟩ : ByteArray) = s ∧ 1 ≤ v ∧ v ≤ 255 then v else 0 := by
  unfold failN
  rw [hv]
theorem failN_err {s : ByteArray} (hv : ∀ v, Lib.atoiAll s.data.toList ≠ .ok v) : failN s = 0 := by
  unfold failN
  split
  · rename_i v hv'; exact absurd hv' (hv v)
  · rfl
theorem failN_dl (v : Nat) (h : v < 256) (h1 : 1 ≤ v) : failN ⟨(dl v).toArray⟩ = (v : Int) := by
  rw [failN_ok (v := (v : Int)) (by simpa using atoi_dl' v h h1), itoa_dl v (by omega), if_pos ⟨rfl, by omega, by omega⟩]
theorem fail_stat (s : ByteArray) (h : failN s ≠ 0) : ∃ v : Nat, v < 256 ∧ 1 ≤ v ∧ s = ⟨(dl v).toArray⟩ := by
  unfold failN at h
  split at h
  · rename_i v hv
    split at h
    · rename_i hq
      obtain ⟨n, rfl⟩ : ∃ n : Nat, v = (n : Int) := ⟨v.toNat, by omega⟩
      exact ⟨n, by omega, by omega, by rw [← hq.1, itoa_dl n (by omega)]⟩
    · exact absurd rfl h
  · exact absurd rfl h
theorem u8_of (c : UInt8) (n : Nat) (h : c.toNat = 48 + n) (hn : n < 10) : c = UInt8.ofNat (48 + n) := by
  apply UInt8.toNat_inj.1
  rw [UInt8.toNat_ofNat']
  omega
/-- What the document's reading answers: 0, or a number whose digits the text is. -/
theorem statL_any (l : List UInt8) : statL l 0 0 = 0 ∨ ∃ v : Nat, statL l 0 0 = (v : Int) ∧ v < 256 ∧ 1 ≤ v ∧ l = dl v := by
  match l with
  | [] => exact .inl rfl
  | a :: t =>
    rw [statL]
    split
    · exact .inl rfl
    · rename_i ha
      obtain ⟨x, hx⟩ : ∃ x : Nat, a.toNat = 48 + x := ⟨a.toNat - 48, by omega⟩
      have ea := u8_of a x hx (by omega)
      match t with
      | [] =>
        rw [statL, if_neg (by omega)]
        exact .inr ⟨x, by omega, by omega, by omega, by unfold dl; rw [if_pos (by omega), ea]⟩
      | b :: t =>
        rw [statL]
        split
        · exact .inl rfl
        · rename_i hb
          obtain ⟨y, hy⟩ : ∃ y : Nat, b.toNat = 48 + y := ⟨b.toNat - 48, by omega⟩
          have eb := u8_of b y hy (by omega)
          match t with
          | [] =>
            rw [statL, if_neg (by omega)]
            exact .inr ⟨10 * x + y, by omega, by omega, by omega, by unfold dl; rw [if_neg (by omega), if_pos (by omega), show (10 * x + y) / 10 = x by omega, show (10 * x + y) % 10 = y by omega, ea, eb]⟩
          | c :: t =>
            rw [statL]
            split
            · exact .inl rfl
            · rename_i hc
              obtain ⟨z, hz⟩ : ∃ z : Nat, c.toNat = 48 + z := ⟨c.toNat - 48, by omega⟩
              have ec := u8_of c z hz (by omega)
              match t with
              | [] =>
                rw [statL]
                split
                · exact .inl rfl
                · exact .inr ⟨100 * x + 10 * y + z, by omega, by omega, by omega, by unfold dl; rw [if_neg (by omega), if_neg (by omega), show (100 * x + 10 * y + z) / 100 = x by omega, show (100 * x + 10 * y + z) / 10 % 10 = y by omega, show (100 * x + 10 * y + z) % 10 = z by omega, ea, eb, ec]⟩
              | d :: t => rw [statL, if_pos (.inr (.inr (.inl (by omega))))]; exact .inl rfl
theorem stat_fail (s : ByteArray) : statL s.data.toList 0 0 = failN s := by
  rcases statL_any s.data.toList with h | ⟨v, h, h1, h2, e⟩
  · by_cases hf : failN s = 0
    · rw [h, hf]
    · obtain ⟨n, h1, h2, rfl⟩ := fail_stat s hf
      have := stat_dl n h1 h2
      rw [show (⟨(dl n).toArray⟩ : ByteArray).data.toList = dl n by simp] at h
      omega
  · have : s = ⟨(dl v).toArray⟩ := ByteArray.ext (Array.ext' (by simpa using e))
    rw [h, this, failN_dl v h1 h2]

structure Cm where
  op : Int
  dst : ByteArray
  src : List ByteArray
  words : List ByteArray
  st : Int
abbrev Cm.av (c : Cm) : AV := eC c.op c.dst c.src c.words c.st
def Cm.zero : Cm := ⟨0, .empty, [], [], 0⟩
/-- The command of an operation and its operands, of which there may be so many. -/
def cmOf (op : Int) (l : List ByteArray) : Cm :=
  if op = 1 then ⟨1, l.getD 1 .empty, l.take 1, [], 0⟩
  else if op = 2 then ⟨2, l.getD 0 .empty, l.drop 1, [], 0⟩
  else if op = 3 then ⟨3, l.getD 0 .empty, [], l.drop 1, 0⟩
  else if op = 4 then ⟨4, l.getD 0 .empty, [], [], 0⟩
  else if op = 5 then ⟨5, l.getD 0 .empty, [], [], 0⟩
  else if op = 6 then ⟨6, .empty, l, [], 0⟩
  else if op = 7 then ⟨7, .empty, [], [], if l.length = 1 then failN (l.getD 0 .empty) else 1⟩
  else ⟨8, .empty, [], l, 0⟩
def cmFiles (c : Cm) : Bool := (!(decide (1 ≤ c.op) && decide (c.op ≤ 5)) || isName c.dst) && c.src.all isName
@[irreducible] def parseE (ws : List ByteArray) : Int :=
  if 514 < ws.length then 2 else match ws with
  | [] => 9
  | w :: l => if manyOk (opFrom w 1 8) l.length = false then 160 else if opFrom w 1 8 = 7 ∧ (cmOf 7 l).st = 0 then 160 else if cmFiles (cmOf (opFrom w 1 8) l) = true then 0 else 3
@[irreducible] def parseC (ws : List ByteArray) : Cm := if parseE ws = 0 then cmOf (opFrom (ws.headD .empty) 1 8) ws.tail else Cm.zero
theorem parseE_of {w : ByteArray} {l : List ByteArray} {op : Int} (hl : l.length ≤ 513) (ho : opFrom w 1 8 = op) : parseE (w :: l) = if manyOk op l.length = false then 160 else if op = 7 ∧ (cmOf 7 l).st = 0 then 160 else if cmFiles (cmOf op l) = true then 0 else 3 := by
  unfold parseE
  rw [if_neg (by simp only [List.length_cons]; omega)]
  dsimp only
  rw [ho]
theorem opFrom_cases (w : ByteArray) : opFrom w 1 8 = 0 ∨ opFrom w 1 8 = 1 ∨ opFrom w 1 8 = 2 ∨ opFrom w 1 8 = 3 ∨ opFrom w 1 8 = 4 ∨ opFrom w 1 8 = 5 ∨ opFrom w 1 8 = 6 ∨ opFrom w 1 8 = 7 ∨ opFrom w 1 8 = 8 := by
  simp only [opFrom]
  repeat' (first | (split; (simp; done)) | (simp; done) | split)
theorem find_op (w : ByteArray) : findN heads1 w 0 + 1 = opFrom w 1 8 := by
  have e1 : opFrom w 1 8 = if beqS (heads1.getD 0 .empty) w = true then 1 else if beqS (heads1.getD 1 .empty) w = true then 2 else if beqS (heads1.getD 2 .empty) w = true then 3 else if beqS (heads1.getD 3 .empty) w = true then 4 else if beqS (heads1.getD 4 .empty) w = true then 5 else if beqS (heads1.getD 5 .empty) w = true then 6 else if beqS (heads1.getD 6 .empty) w = true then 7 else if beqS (heads1.getD 7 .empty) w = true then 8 else 0 := rfl
  have e2 : findN heads1 w 0 = if beqS w (heads1.getD 0 .empty) = true then 0 else if beqS w (heads1.getD 1 .empty) = true then 1 else if beqS w (heads1.getD 2 .empty) = true then 2 else if beqS w (heads1.getD 3 .empty) = true then 3 else if beqS w (heads1.getD 4 .empty) = true then 4 else if beqS w (heads1.getD 5 .empty) = true then 5 else if beqS w (heads1.getD 6 .empty) = true then 6 else if beqS w (heads1.getD 7 .empty) = true then 7 else -1 := rfl
  rw [e1, e2]
  rw [beqS_comm w (heads1.getD 0 .empty)]
  rw [beqS_comm w (heads1.getD 1 .empty)]
  rw [beqS_comm w (heads1.getD 2 .empty)]
  rw [beqS_comm w (heads1.getD 3 .empty)]
  rw [beqS_comm w (heads1.getD 4 .empty)]
  rw [beqS_comm w (heads1.getD 5 .empty)]
  rw [beqS_comm w (heads1.getD 6 .empty)]
  rw [beqS_comm w (heads1.getD 7 .empty)]
  repeat' (first | rfl | split)
/-- A fault's answer. -/
theorem parse_bad {ws : List ByteArray} {e : Int} (h : parseE ws = e) (he : e ≠ 0) : LeqD (.tup [.agg [i64 0, str ⟨#[]⟩, nilv, nilv, i64 0], i64 e]) (.tup [(parseC ws).av, i64 (parseE ws)]) := by
  have : parseC ws = Cm.zero := by unfold parseC; rw [if_neg (by rw [h]; exact he)]
  rw [this, h]
  repeat' (first | exact LeqD.nil (by decide) | exact LeqD.refl _ | exact LeqDL.refl _ | refine LeqDL.cons ?_ ?_ | refine LeqD.agg ?_ | refine LeqD.tup ?_)
/-- A command's answer. -/
theorem parse_good {ws : List ByteArray} {c : Cm} {s1 s2 : AV} (h : parseE ws = 0) (hc : parseC ws = c) (h1 : LeqD s1 (eS c.src)) (h2 : LeqD s2 (eS c.words)) : LeqD (.tup [.agg [i64 c.op, str c.dst, s1, s2, i64 c.st], i64 0]) (.tup [(parseC ws).av, i64 (parseE ws)]) := by
  rw [h, hc]
  exact LeqD.tup (LeqDL.cons (LeqD.agg (LeqDL.cons (LeqD.refl _) (LeqDL.cons (LeqD.refl _) (LeqDL.cons h1 (LeqDL.cons h2 (LeqDL.refl _)))))) (LeqDL.refl _))
theorem parseC_of {w : ByteArray} {l : List ByteArray} {op : Int} (ho : opFrom w 1 8 = op) (h : parseE (w :: l) = 0) : parseC (w :: l) = cmOf op l := by
  unfold parseC
  rw [if_pos h]; simp [ho]
end Go.Proofs.YtepdiooaoegpfaaGreatDoor.Fx
end
