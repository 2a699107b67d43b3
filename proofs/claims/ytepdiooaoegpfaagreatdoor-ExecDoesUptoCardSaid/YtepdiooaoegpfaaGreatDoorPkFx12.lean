/- Written by programs of this session: laws and contracts that the law's proof stands on, merged into one text. Conditions: none beyond those in each statement. -/
import Derived.Test.YtepdiooaoegpfaaGreatDoorPkFx8
section
/- The document's reading of a quoted word. Conditions: those in each statement. -/
namespace Go.Proofs.YtepdiooaoegpfaaGreatDoor.Fx
open Go Go.Proofs Go.Ev Go.RowKit Go.Proofs.YtepdiooaoegpfaaGreatDoor.Sup
set_option maxRecDepth 100000
set_option maxHeartbeats 1600000
set_option linter.unusedSimpArgs false
set_option linter.unusedVariables false
theorem indexAny_spec (cs : List UInt8) : ∀ l : List UInt8, (Lib.indexAny l cs = -1 ∧ ∀ k, k < l.length → cs.contains (l.getD k 0) = false) ∨ ∃ r : Nat, Lib.indexAny l cs = (r : Int) ∧ r < l.length ∧ cs.contains (l.getD r 0) = true ∧ ∀ k, k < r → cs.contains (l.getD k 0) = false
  | [] => .inl ⟨rfl, fun k h => absurd h (by simp)⟩
  | b :: l => by
    simp only [Lib.indexAny]
    cases hb : cs.contains b with
    | true => exact .inr ⟨0, by simp, by simp, hb, fun k h => absurd h (by omega)⟩
    | false =>
      rcases indexAny_spec cs l with ⟨e, h⟩ | ⟨r, e, h1, h2, h3⟩
      · refine .inl ⟨by simp [e], fun k hk => ?_⟩
        cases k with
        | zero => exact hb
        | succ k => exact h k (by simpa using hk)
      · refine .inr ⟨r + 1, ?_, by simp only [List.length_cons]; omega, h2, fun k hk => ?_⟩
        · rw [e, if_neg (by simp), if_neg (by simp; try omega)]; rfl
        · cases k with
          | zero => exact hb
          | succ k => exact h3 k (by omega)
theorem ext_get {s : ByteArray} {i e k : Nat} (hk : i + k < e) (he : e ≤ s.size) : (s.extract i e).data.toList.getD k 0 = byteAt s (i + k) := by
  unfold byteAt
  rw [ByteArray.data_extract, Array.toList_extract, List.extract_eq_take_drop, List.getD_eq_getElem?_getD, List.getElem?_take, if_pos (by omega), List.getElem?_drop, List.getD_eq_getElem?_getD]
theorem eqN (c : UInt8) (k : Nat) (hk : k < 256) : (c == UInt8.ofNat k) = ((c.toNat : Int) == (k : Int)) := by
  rw [Bool.eq_iff_iff, beq_iff_eq, beq_iff_eq, ← UInt8.toNat_inj, UInt8.toNat_ofNat']
  omega
theorem blank_has (c : UInt8) : [(32 : UInt8), 9].contains c = blankB c := by
  simp only [List.contains_cons, List.contains_nil, Bool.or_false, blankB]
  rw [show (32 : UInt8) = UInt8.ofNat 32 from rfl, show (9 : UInt8) = UInt8.ofNat 9 from rfl, eqN c 32 (by decide), eqN c 9 (by decide)]; rfl
def badB (c : UInt8) : Bool := ((c.toNat : Int) == 34) || ((c.toNat : Int) == 10)
theorem bad_has (c : UInt8) : [(34 : UInt8), 10].contains c = badB c := by
  simp only [List.contains_cons, List.contains_nil, Bool.or_false, badB]
  rw [show (34 : UInt8) = UInt8.ofNat 34 from rfl, show (10 : UInt8) = UInt8.ofNat 10 from rfl, eqN c 34 (by decide), eqN c 10 (by decide)]; rfl
/-- A plain word that ends at j. -/
theorem wordsF_run {k : Nat} {s : ByteArray} {i j : Nat} {out : List ByteArray} (h2 : ¬ byteAt s i = 34) (hij : i < j) (hj : j ≤ s.size) (hN : ∀ p, i ≤ p → p < j → blankB (byteAt s p) = false ∧ badB (byteAt s p) = false) (he : j = s.size ∨ blankB (byteAt s j) = true) :
    wordsF (k + 1) s i out = wordsF k s j (out ++ [s.extract i j]) := by
  have hi : i < s.size := by omega
  have h1 := (hN i (Nat.le_refl _) hij).1
  have hgood : ∀ e, e = j → ¬ 0 ≤ Lib.indexAny (s.extract i e).data.toList [34, 10] := by
    rintro e rfl
    rcases indexAny_spec [34, 10] (s.extract i e).data.toList with ⟨e', _⟩ | ⟨r, e', r1, r2, _⟩
    · omega
    · rw [len_data, size_ext hj] at r1
      rw [ext_get (by omega) hj, bad_has, (hN (i + r) (by omega) (by omega)).2] at r2
      cases r2
  rcases indexAny_spec [32, 9] (s.extract i s.size).data.toList with ⟨e, h⟩ | ⟨r, e, r1, r2, r3⟩
  · rw [len_data, size_ext (Nat.le_refl _)] at h
    have hjs : j = s.size := by
      rcases he with he | he
      · exact he
      · rcases Nat.lt_or_ge j s.size with hl | hl
        · have := h (j - i) (by omega)
          rw [ext_get (by omega) (Nat.le_refl _), blank_has, show i + (j - i) = j from by omega, he] at this
          cases this
        · omega
    rw [wordsF_plain (n := j - i) hi h1 h2 e (by rw [if_pos (by omega)]; omega), show i + (j - i) = j from by omega, if_neg (hgood j rfl)]
  · rw [len_data, size_ext (Nat.le_refl _)] at r1
    rw [ext_get (by omega) (Nat.le_refl _), blank_has] at r2
    have hrj : r = j - i := by
      have g1 : j ≤ i + r := by
        rcases Nat.lt_or_ge (i + r) j with hl | hl
        · rw [(hN (i + r) (by omega) hl).1] at r2; cases r2
        · exact hl
      rcases he with he | he
      · omega
      · rcases Nat.lt_or_ge (j - i) r with hl | hl
        · have := r3 (j - i) hl
          rw [ext_get (by omega) (Nat.le_refl _), blank_has, show i + (j - i) = j from by omega, he] at this
          cases this
        · omega
    rw [wordsF_plain (n := j - i) hi h1 h2 e (by rw [if_neg (by omega)]; omega), show i + (j - i) = j from by omega, if_neg (hgood j rfl)]
/-- A plain word in which a quote, or a line's end, stands. -/
theorem wordsF_stop {k : Nat} {s : ByteArray} {i j : Nat} {out : List ByteArray} (h2 : ¬ byteAt s i = 34) (hij : i ≤ j) (hj : j < s.size) (hN : ∀ p, i ≤ p → p < j → blankB (byteAt s p) = false ∧ badB (byteAt s p) = false) (hb : blankB (byteAt s j) = false) (hq : badB (byteAt s j) = true) :
    wordsF (k + 1) s i out = none := by
  have hi : i < s.size := by omega
  have h1 : blankB (byteAt s i) = false := by
    rcases Nat.lt_or_ge i j with h | h
    · exact (hN i (Nat.le_refl _) h).1
    · rw [show i = j from by omega]; exact hb
  have hbad : ∀ e, j < e → e ≤ s.size → 0 ≤ Lib.indexAny (s.extract i e).data.toList [34, 10] := by
    intro e h1 h2
    rcases indexAny_spec [34, 10] (s.extract i e).data.toList with ⟨_, h⟩ | ⟨r, e', _⟩
    · have := h (j - i) (by rw [len_data, size_ext h2]; omega)
      rw [ext_get (by omega) h2, bad_has, show i + (j - i) = j from by omega, hq] at this
      cases this
    · omega
  rcases indexAny_spec [32, 9] (s.extract i s.size).data.toList with ⟨e, h⟩ | ⟨r, e, r1, r2, r3⟩
  · rw [wordsF_plain (n := s.size - i) hi h1 h2 e (by rw [if_pos (by omega)]), show i + (s.size - i) = s.size from by omega, if_pos (hbad _ hj (Nat.le_refl _))]
  · rw [len_data, size_ext (Nat.le_refl _)] at r1
    rw [ext_get (by omega) (Nat.le_refl _), blank_has] at r2
    have : j < i + r := by
      rcases Nat.lt_or_ge j (i + r) with hl | hl
      · exact hl
      · rcases Nat.lt_or_ge (i + r) j with h | h
        · rw [(hN (i + r) (by omega) h).1] at r2; cases r2
        · rw [show i + r = j from by omega, hb] at r2; cases r2
    rw [wordsF_plain (n := r) hi h1 h2 e (by rw [if_neg (by omega)]; omega), if_pos (hbad _ this (by omega))]
theorem lq34 {s : ByteArray} {p : Nat} {acc : List UInt8} (hp : p < s.size) (h : ((byteAt s p).toNat : Int) = 34) : lexq (s.data.toList.drop p) acc p = some (acc, p + 1) := by
  rw [drop_byte hp, lexq_cons, if_pos (u8_yes h)]
theorem u8_k {c : UInt8} (k : Nat) (hk : k < 256) (h : ¬ (c.toNat : Int) = (k : Int)) {d : UInt8} (hd : d = UInt8.ofNat k) : ¬ c = d := fun e => h (by rw [e, hd, UInt8.toNat_ofNat']; omega)
theorem u8_y {c : UInt8} (k : Nat) (hk : k < 256) (h : (c.toNat : Int) = (k : Int)) {d : UInt8} (hd : d = UInt8.ofNat k) : c = d := UInt8.toNat_inj.1 (by rw [hd, UInt8.toNat_ofNat']; omega)
theorem lq10 {s : ByteArray} {p : Nat} {acc : List UInt8} (hp : p < s.size) (h1 : ¬ ((byteAt s p).toNat : Int) = 34) (h : ((byteAt s p).toNat : Int) = 10) : lexq (s.data.toList.drop p) acc p = none := by
  rw [drop_byte hp, lexq_cons, if_neg (u8_no h1), if_pos (u8_y (d := 10) 10 (by decide) h rfl)]
theorem lqP {s : ByteArray} {p : Nat} {acc : List UInt8} (hp : p < s.size) (h1 : ¬ ((byteAt s p).toNat : Int) = 34) (h2 : ¬ ((byteAt s p).toNat : Int) = 10) (h3 : ¬ ((byteAt s p).toNat : Int) = 92) : lexq (s.data.toList.drop p) acc p = lexq (s.data.toList.drop (p + 1)) (acc ++ [byteAt s p]) (p + 1) := by
  rw [drop_byte hp, lexq_cons, if_neg (u8_no h1), if_neg (u8_k (d := 10) 10 (by decide) h2 rfl), if_neg (u8_k (d := 92) 92 (by decide) h3 rfl)]
theorem lqE {s : ByteArray} {p : Nat} {acc : List UInt8} (hp : p < s.size) (h1 : ¬ ((byteAt s p).toNat : Int) = 34) (h2 : ¬ ((byteAt s p).toNat : Int) = 10) (h3 : ((byteAt s p).toNat : Int) = 92) : lexq (s.data.toList.drop p) acc p = match s.data.toList.drop (p + 1) with
    | [] => none
    | d :: t' => if d = 34 then lexq t' (acc ++ [34]) (p + 2) else if d = 92 then lexq t' (acc ++ [92]) (p + 2) else if d = 110 then lexq t' (acc ++ [10]) (p + 2) else none := by
  rw [drop_byte hp, lexq_cons, if_neg (u8_no h1), if_neg (u8_k (d := 10) 10 (by decide) h2 rfl), if_pos (u8_y (d := 92) 92 (by decide) h3 rfl)]; rfl
theorem lqEnd {s : ByteArray} {p : Nat} {acc : List UInt8} (hp : ¬ p < s.size) : lexq (s.data.toList.drop p) acc p = none := by rw [drop_end hp, lexq]
theorem app_list (a b : ByteArray) : (a ++ b).data.toList = a.data.toList ++ b.data.toList := by rw [ByteArray.data_append, Array.toList_append]
theorem ext_one {s : ByteArray} {p : Nat} (hp : p < s.size) : (s.extract p (p + 1)).data.toList = [byteAt s p] := by
  rw [ByteArray.data_extract, Array.toList_extract, List.extract_eq_take_drop, drop_byte hp, show p + 1 - p = 1 from by omega]; rfl
theorem ret2 {a a' : ByteArray} {n n' : Int} (h1 : a = a') (h2 : n = n') : AV.tup [str a, i64 n] = AV.tup [str a', i64 n'] := by rw [h1, h2]
def qN (r : Option (List UInt8 × Nat)) : Int := match r with | some (_, p) => p | none => -1
theorem c_ref15_quoted {s : ByteArray} {i : Nat} (hi : i < s.size) (hs : s.size ≤ 140737488351232) {R : Option (List UInt8 × Nat)} (hR : lexq (s.data.toList.drop (i + 1)) [] (i + 1) = R) : XPure Tryz.prog 101 [str s, i64 i] (.tup [str (qW R), i64 (qN R)]) false := by
  have hwi : IntKind.i64.wrap ((i : Int) + 1) = ((i + 1 : Nat) : Int) := by rw [wrapId (by omega) (by omega)]; omega
  refine XPure.body ⟨_, Tryz.func101, rfl, by kernel_rfl⟩ Tryz.func101 rfl (Nat.le_of_ble_eq_true (by rfl)) (pf_of1 rfl) fun env => ?_
  repeat' ((conv => whnf); (fail_if_success refine zC ?_); first | refine zS ?_ | refine zB (fun h hs => ?_) (fun h hs => ?_) <;> try exact hs.elim | exact zEw | refine zZw ?_ | fail)
  refine XW.overL [0] (fun (p : Nat × ByteArray) => [(6, str p.2), (7, i64 p.1)]) (fun _ => []) (fun _ => []) (fun p => p.1 ≤ s.size + 1 ∧ p.2.size ≤ p.1 ∧ lexq (s.data.toList.drop p.1) p.2.data.toList p.1 = R) (fun p => s.size + 1 - p.1) (i + 1, ByteArray.empty) (by rw [← hwi]; exact Weak.go) ⟨by dsimp only; omega, Nat.zero_le _, hR⟩ ?_
  rintro ⟨p, acc⟩ ⟨hp, ha, hA⟩
  dsimp only at hp ha hA ⊢
  refine codeS ?_
  have hw1 : IntKind.i64.wrap ((p : Int) + 1) = ((p + 1 : Nat) : Int) := by rw [wrapId (by omega) (by omega)]; omega
  have hw2 : p < s.size → IntKind.i64.wrap (((p + 1 : Nat) : Int) + 1) = ((p + 2 : Nat) : Int) := fun _ => by rw [wrapId (by omega) (by omega)]; omega
  have hw3 : byteAt s (IntKind.i64.wrap ((p : Int) + 1)).toNat = byteAt s (p + 1) := by rw [hw1, Int.toNat_natCast]
  repeat' ((conv => whnf); (fail_if_success refine zC ?_); first | refine zS ?_ | refine zB (fun h hs => ?_) (fun h hs => ?_) <;> try exact hs.elim | exact zEws | refine zZws ?_ | (refine ⟨?_, ?_, ?_⟩; (first | omega | (simp only [hw1, hw2 ‹p < s.size›]; omega) | (rw [size_ext (by omega)]; omega) | (simp only [hw1, hw2 ‹p < s.size›, Int.toNat_natCast, ByteArray.size_append, ByteArray.size_extract]; omega)); (first | omega | (simp only [hw1, hw2 ‹p < s.size›]; omega) | (rw [size_ext (by omega)]; omega) | (simp only [hw1, hw2 ‹p < s.size›, Int.toNat_natCast, ByteArray.size_append, ByteArray.size_extract]; omega))) | (refine ⟨?_, ?_⟩; (first | omega | (simp only [hw1, hw2 ‹p < s.size›]; omega) | (rw [size_ext (by omega)]; omega) | (simp only [hw1, hw2 ‹p < s.size›, Int.toNat_natCast, ByteArray.size_append, ByteArray.size_extract]; omega))) | fail)
  · refine Eq.trans (b := AV.tup [str acc, i64 (IntKind.i64.wrap ((p : Int) + 1))]) (by kernel_rfl) ?_
    rw [lq34 ‹_› hs] at hA
    subst hA
    exact ret2 rfl hw1
  · rw [lq10 ‹_› ‹_› hs] at hA
    subst hA
    exact Eq.trans (b := AV.tup [str ⟨#[]⟩, i64 (-1)]) (by kernel_rfl) rfl
  · rw [lqE ‹_› ‹_› ‹_› ‹_›, drop_end (by omega)] at hA
    subst hA
    exact Eq.trans (b := AV.tup [str ⟨#[]⟩, i64 (-1)]) (by kernel_rfl) rfl
  · have hp1 : p + 1 < s.size := by omega
    rw [hw3] at hs
    rw [lqE ‹_› ‹_› ‹_› ‹_›, drop_byte hp1] at hA
    dsimp only at hA
    rw [if_pos (u8_yes hs)] at hA
    conv => whnf
    rw [hw1, hw2 (by omega)]
    refine ⟨(p + 2, acc ++ s.extract (p + 1) (p + 2)), by dsimp only; omega, ⟨by dsimp only; omega, by simp only [ByteArray.size_append, ByteArray.size_extract]; first | omega | (show acc.size + 1 ≤ p + 2; omega), ?_⟩, Weak.go⟩
    dsimp only
    rw [app_list, ext_one hp1, u8_yes hs]; exact hA
  · have hp1 : p + 1 < s.size := by omega
    rw [hw3] at hs
    rw [lqE ‹_› ‹_› ‹_› ‹_›, drop_byte hp1] at hA
    dsimp only at hA
    have n34 : ¬ ((byteAt s (p + 1)).toNat : Int) = 34 := by have := ‹¬ ((byteAt s (IntKind.i64.wrap ((p : Int) + 1)).toNat).toNat : Int) = 34›; rwa [hw3] at this
    have y92 := u8_y (d := 92) 92 (by decide) hs rfl
    rw [if_neg (u8_no n34), if_pos y92] at hA
    conv => whnf
    rw [hw1, hw2 (by omega)]
    refine ⟨(p + 2, acc ++ s.extract (p + 1) (p + 2)), by dsimp only; omega, ⟨by dsimp only; omega, by simp only [ByteArray.size_append, ByteArray.size_extract]; first | omega | (show acc.size + 1 ≤ p + 2; omega), ?_⟩, Weak.go⟩
    dsimp only
    rw [app_list, ext_one hp1, y92]; exact hA
  · have hp1 : p + 1 < s.size := by omega
    rw [hw3] at hs
    rw [lqE ‹_› ‹_› ‹_› ‹_›, drop_byte hp1] at hA
    dsimp only at hA
    have n34 : ¬ ((byteAt s (p + 1)).toNat : Int) = 34 := by have := ‹¬ ((byteAt s (IntKind.i64.wrap ((p : Int) + 1)).toNat).toNat : Int) = 34›; rwa [hw3] at this
    have n92 : ¬ ((byteAt s (p + 1)).toNat : Int) = 92 := by have := ‹¬ ((byteAt s (IntKind.i64.wrap ((p : Int) + 1)).toNat).toNat : Int) = 92›; rwa [hw3] at this
    have y110 := u8_y (d := 110) 110 (by decide) hs rfl
    rw [if_neg (u8_no n34), if_neg (u8_k (d := 92) 92 (by decide) n92 rfl), if_pos y110] at hA
    conv => whnf
    refine ⟨by show acc.size + 1 ≤ 140737488355328; omega, ?_⟩
    conv => whnf
    rw [hw1, hw2 (by omega)]
    refine ⟨(p + 2, acc ++ ⟨#[10]⟩), by dsimp only; omega, ⟨by dsimp only; omega, by simp only [ByteArray.size_append, ByteArray.size_extract]; first | omega | (show acc.size + 1 ≤ p + 2; omega), ?_⟩, Weak.go⟩
    dsimp only
    rw [app_list]; exact hA
  · have hp1 : p + 1 < s.size := by omega
    rw [hw3] at hs
    rw [lqE ‹_› ‹_› ‹_› ‹_›, drop_byte hp1] at hA
    dsimp only at hA
    have n34 : ¬ ((byteAt s (p + 1)).toNat : Int) = 34 := by have := ‹¬ ((byteAt s (IntKind.i64.wrap ((p : Int) + 1)).toNat).toNat : Int) = 34›; rwa [hw3] at this
    have n92 : ¬ ((byteAt s (p + 1)).toNat : Int) = 92 := by have := ‹¬ ((byteAt s (IntKind.i64.wrap ((p : Int) + 1)).toNat).toNat : Int) = 92›; rwa [hw3] at this
    rw [if_neg (u8_no n34), if_neg (u8_k (d := 92) 92 (by decide) n92 rfl), if_neg (u8_k (d := 110) 110 (by decide) hs rfl)] at hA
    subst hA
    exact Eq.trans (b := AV.tup [str ⟨#[]⟩, i64 (-1)]) (by kernel_rfl) rfl
  · rw [lqP ‹_› ‹_› ‹_› hs] at hA
    conv => whnf
    rw [hw1]
    refine ⟨(p + 1, acc ++ s.extract p (p + 1)), by dsimp only; omega, ⟨by dsimp only; omega, by simp only [ByteArray.size_append, ByteArray.size_extract]; omega, ?_⟩, Weak.go⟩
    dsimp only
    rw [app_list, ext_one ‹_›]; exact hA
  · rw [lqEnd hs] at hA
    subst hA
    exact Eq.trans (b := AV.tup [str ⟨#[]⟩, i64 (-1)]) (by kernel_rfl) rfl
end Go.Proofs.YtepdiooaoegpfaaGreatDoor.Fx
end
section
/- The document's reading of a line's words. Conditions: those in each statement. -/
namespace Go.Proofs.YtepdiooaoegpfaaGreatDoor.Fx
open Go Go.Proofs Go.Ev Go.RowKit Go.Proofs.YtepdiooaoegpfaaGreatDoor.Sup
set_option maxRecDepth 100000
set_option maxHeartbeats 1600000
set_option linter.unusedSimpArgs false
set_option linter.unusedVariables false
theorem c_ref15_Words {s : ByteArray} : XPure Tryz.prog 78 [str s] (.tup [eS (wordsV s), i64 (wordsE s)]) false := by
  refine XPure.bodyN ⟨_, Tryz.func78, rfl, by kernel_rfl⟩ Tryz.func78 rfl (Nat.le_of_ble_eq_true (by rfl)) (pf_of1 rfl) fun env => ?_
  repeat' ((conv => whnf); (fail_if_success refine zC ?_); first | refine zS ?_ | refine zB (fun h hs => ?_) (fun h hs => ?_) <;> try exact hs.elim | exact zElw | refine zZlw ?_ | fail)
  · exact words_long (by omega)
  refine XW.overL [0] (fun (p : Nat × List ByteArray) => [(4, eS p.2), (5, i64 p.1)]) (fun _ => [4]) (fun _ => []) (fun p => p.1 ≤ s.size ∧ p.2.length ≤ p.1 ∧ ∃ k, s.size + 1 ≤ p.1 + k ∧ wordsF k s p.1 p.2 = wordsL s) (fun p => s.size - p.1) (0, []) Weak.go ⟨Nat.zero_le _, Nat.zero_le _, s.size + 1, by omega, rfl⟩ ?_
  rintro ⟨i, out⟩ ⟨hi, ho, k, hk, hA⟩
  dsimp only at hi ho hk hA ⊢
  obtain ⟨k, rfl⟩ : ∃ k', k = k' + 1 := ⟨k - 1, by omega⟩
  refine codeS ?_
  obtain ⟨R, hR⟩ : ∃ R, lexq (s.data.toList.drop (i + 1)) [] (i + 1) = R := ⟨_, rfl⟩
  have hq : i < s.size → XPure Tryz.prog 101 [str s, i64 i] _ false := fun h => c_ref15_quoted h (by omega) hR
  have hwi : IntKind.i64.wrap ((i : Int) + 1) = ((i + 1 : Nat) : Int) := by rw [wrapId (by omega) (by omega)]; omega
  repeat' ((conv => whnf); (fail_if_success refine zC ?_); first | refine zS ?_ | refine zB (fun h hs => ?_) (fun h hs => ?_) <;> try exact hs.elim | refine .inl ⟨_, _, c_ref15_blank, ?_⟩ | refine .inl ⟨_, _, hq (by omega), ?_⟩ | exact zElws | refine zZlws ?_ | (refine ⟨?_, ?_, ?_⟩; (first | (refine sizeOk rfl ?_; simp only [List.length_map, List.length_append, List.length_cons, List.length_nil]; omega) | omega | (simp only [List.length_map, List.length_append, List.length_cons, List.length_nil]; omega) | (rw [size_ext (by omega)]; omega)); (first | (refine sizeOk rfl ?_; simp only [List.length_map, List.length_append, List.length_cons, List.length_nil]; omega) | omega | (simp only [List.length_map, List.length_append, List.length_cons, List.length_nil]; omega) | (rw [size_ext (by omega)]; omega))) | (refine ⟨?_, ?_⟩; (first | (refine sizeOk rfl ?_; simp only [List.length_map, List.length_append, List.length_cons, List.length_nil]; omega) | omega | (simp only [List.length_map, List.length_append, List.length_cons, List.length_nil]; omega) | (rw [size_ext (by omega)]; omega))) | fail)
  · rw [wordsF, if_pos (by assumption), if_pos (blankB_yes hs)] at hA
    conv => whnf
    rw [hwi]
    refine ⟨(i + 1, out), by dsimp only; omega, ⟨by dsimp only; omega, by dsimp only; omega, k, by dsimp only; omega, hA⟩, Weak.go⟩
  · rcases R with _ | ⟨w, q⟩
    · exact absurd ‹0 ≤ qN none› (by show ¬ (0 : Int) ≤ -1; omega)
    have hb := lexq_at _ _ _ _ _ hR
    rw [List.length_drop, len_data] at hb
    rw [wordsF_q1 (by assumption) (blankB_no (by assumption)) (u8_yes (by assumption)) hR] at hA
    have hlt : q < s.size := by have : ((q : Nat) : Int) < s.size := by assumption
                                omega
    have hb : blankB (byteAt s q) = false := by
      rcases hs with h | ⟨_, h⟩
      · exact absurd ‹0 ≤ qN (some (w, q))› (by omega)
      · exact blankB_no h
    rw [if_pos ⟨hlt, hb⟩] at hA
    exact words_bad (by omega) hA.symm
  · rcases R with _ | ⟨w, q⟩
    · exact absurd ‹0 ≤ qN none› (by show ¬ (0 : Int) ≤ -1; omega)
    have hb := lexq_at _ _ _ _ _ hR
    rw [List.length_drop, len_data] at hb
    rw [wordsF_q1 (by assumption) (blankB_no (by assumption)) (u8_yes (by assumption)) hR] at hA
    rw [if_neg (by
      rintro ⟨g1, g2⟩
      rcases hs.2 with g | g
      · have : (s.size : Int) ≤ ((q : Nat) : Int) := g
        omega
      · exact absurd (blankB_yes g) (by show ¬ blankB (byteAt s q) = true; rw [g2]; simp))] at hA
    have hM := map_snoc eStr out (qW (some (w, q)))
    conv => whnf
    refine ⟨(q, out ++ [qW (some (w, q))]), by dsimp only; omega, ⟨by dsimp only; omega, by simp only [List.length_append, List.length_cons, List.length_nil]; omega, k, by dsimp only; omega, hA⟩, Weak.go⟩
  · exact absurd hs (by omega)
  · rcases R with _ | ⟨w, q⟩
    · exact absurd ‹0 ≤ qN none› (by show ¬ (0 : Int) ≤ -1; omega)
    have hb := lexq_at _ _ _ _ _ hR
    rw [List.length_drop, len_data] at hb
    rw [wordsF_q1 (by assumption) (blankB_no (by assumption)) (u8_yes (by assumption)) hR] at hA
    rw [if_neg (by
      rintro ⟨g1, g2⟩
      have : (s.size : Int) ≤ ((q : Nat) : Int) := by assumption
      omega)] at hA
    have hM := map_snoc eStr out (qW (some (w, q)))
    conv => whnf
    refine ⟨(q, out ++ [qW (some (w, q))]), by dsimp only; omega, ⟨by dsimp only; omega, by simp only [List.length_append, List.length_cons, List.length_nil]; omega, k, by dsimp only; omega, hA⟩, Weak.go⟩
  · rcases R with _ | ⟨w, q⟩
    · exact words_bad (by omega) (by rw [← hA, wordsF_q0 (by assumption) (blankB_no (by assumption)) (u8_yes (by assumption)) hR])
    · have : ((q : Nat) : Int) < 0 := hs
      omega
  · have hii : i < s.size := by assumption
    have h34 : ¬ byteAt s i = 34 := u8_no hs
    have hbl : blankB (byteAt s i) = false := blankB_no (by assumption)
    refine XW.overL [0, 4, 8] (fun (j : Nat) => [(5, i64 j)]) (fun _ => [4]) (fun _ => []) (fun j => i ≤ j ∧ j ≤ s.size ∧ ∀ p, i ≤ p → p < j → blankB (byteAt s p) = false ∧ badB (byteAt s p) = false) (fun j => s.size - j) i Weak.go ⟨Nat.le_refl _, hi, fun p h1 h2 => absurd h2 (by omega)⟩ ?_
    rintro j ⟨hij, hjs, hN⟩
    refine codeS ?_
    have hwj : IntKind.i64.wrap ((j : Int) + 1) = ((j + 1 : Nat) : Int) := by rw [wrapId (by omega) (by omega)]; omega
    have hM := map_snoc eStr out (s.extract i j)
    repeat' ((conv => whnf); (fail_if_success refine zC ?_); first | refine zS ?_ | refine zB (fun h hs => ?_) (fun h hs => ?_) <;> try exact hs.elim | refine .inl ⟨_, _, c_ref15_blank, ?_⟩ | exact zElws | refine zZlws ?_ | (refine ⟨?_, ?_, ?_⟩; (first | (refine sizeOk rfl ?_; simp only [List.length_map, List.length_append, List.length_cons, List.length_nil]; omega) | omega | (simp only [List.length_map, List.length_append, List.length_cons, List.length_nil]; omega) | (rw [size_ext (by omega)]; omega)); (first | (refine sizeOk rfl ?_; simp only [List.length_map, List.length_append, List.length_cons, List.length_nil]; omega) | omega | (simp only [List.length_map, List.length_append, List.length_cons, List.length_nil]; omega) | (rw [size_ext (by omega)]; omega))) | (refine ⟨?_, ?_⟩; (first | (refine sizeOk rfl ?_; simp only [List.length_map, List.length_append, List.length_cons, List.length_nil]; omega) | omega | (simp only [List.length_map, List.length_append, List.length_cons, List.length_nil]; omega) | (rw [size_ext (by omega)]; omega))) | fail)
    · have hb : blankB (byteAt s j) = false := blankB_no (‹j < s.size ∧ _ ∧ _›.2)
      rw [wordsF_stop h34 hij (by assumption) hN hb (by simp only [badB, Bool.or_eq_true, beq_iff_eq]; exact hs)] at hA
      exact words_bad (by omega) hA.symm
    · conv => whnf
      rw [hwj]
      refine ⟨j + 1, by omega, ⟨by omega, by omega, fun p h1 h2 => ?_⟩, Weak.go⟩
      rcases Nat.lt_or_ge p j with h | h
      · exact hN p h1 h
      · obtain rfl : p = j := by omega
        exact ⟨blankB_no (‹p < s.size ∧ _ ∧ _›.2), by simp only [badB, Bool.or_eq_false_iff, beq_eq_false_iff_ne]; exact hs⟩
    · have hb : blankB (byteAt s j) = false := blankB_no (‹j < s.size ∧ _ ∧ _›.2)
      rw [wordsF_stop h34 hij (by assumption) hN hb (by simp only [badB, Bool.or_eq_true, beq_iff_eq]; exact .inl hs)] at hA
      exact words_bad (by omega) hA.symm
    · have hb : blankB (byteAt s j) = true := blankB_yes (hs.resolve_left (fun h => h (by assumption)))
      have hij' : i < j := by
        rcases Nat.lt_or_ge i j with h | h
        · exact h
        · rw [show j = i from by omega, hbl] at hb; cases hb
      rw [wordsF_run h34 hij' hjs hN (.inr hb)] at hA
      conv => whnf
      refine ⟨(j, out ++ [s.extract i j]), by dsimp only; omega, ⟨by dsimp only; omega, by simp only [List.length_append, List.length_cons, List.length_nil]; omega, k, by dsimp only; omega, hA⟩, Weak.go⟩
    · have hj : j = s.size := by omega
      rw [wordsF_run h34 (by omega) hjs hN (.inl hj)] at hA
      conv => whnf
      refine ⟨(j, out ++ [s.extract i j]), by dsimp only; omega, ⟨by dsimp only; omega, by simp only [List.length_append, List.length_cons, List.length_nil]; omega, k, by dsimp only; omega, hA⟩, Weak.go⟩
  · rw [wordsF, if_neg hs] at hA
    exact words_good (by omega) hA.symm
end Go.Proofs.YtepdiooaoegpfaaGreatDoor.Fx
end
