/- Written by programs of this session: laws and contracts that the law's proof stands on, merged into one text. Conditions: none beyond those in each statement. -/
import Derived.Test.YtepdiooaoegpfaaGreatDoorPkFx13
import Derived.Test.YtepdiooaoegpfaaGreatDoorPkFx9
import Derived.Test.YtepdiooaoegpfaaGreatDoorPkFx2
import Derived.Test.YtepdiooaoegpfaaGreatDoorPkFx3
import Derived.Test.YtepdiooaoegpfaaGreatDoorPkFx7
section
/- Whether a command may be done: the program and the document answer the same. Conditions: those in each statement. -/
namespace Go.Proofs.YtepdiooaoegpfaaGreatDoor.Fx
open Go Go.Proofs Go.Ev Go.RowKit
set_option maxRecDepth 100000
set_option maxHeartbeats 1600000
set_option linter.unusedSimpArgs false
set_option linter.unusedVariables false
theorem cmFiles_op {op : Int} {d : ByteArray} {s w : List ByteArray} {st : Int} (h : cmFiles ⟨op, d, s, w, st⟩ = true) : ((1 ≤ op ∧ op ≤ 5) → isName d = true) ∧ s.all isName = true := by
  simp only [cmFiles, Bool.and_eq_true, Bool.or_eq_true, Bool.not_eq_true', Bool.and_eq_false_iff, decide_eq_false_iff_not] at h
  exact ⟨fun q => by rcases h.1 with (g | g) | g; exact absurd q.1 g; exact absurd q.2 g; exact g, h.2⟩
/-- What is read as a command is a right one. -/
theorem parse_kind {ws : List ByteArray} (h : parseE ws = 0) : Kind (parseC ws) := by
  by_cases hl : 514 < ws.length
  · unfold parseE at h; rw [if_pos hl] at h; cases h
  cases ws with
  | nil => unfold parseE at h; cases h
  | cons w l =>
    simp only [List.length_cons] at hl
    have hE := parseE_of (w := w) (l := l) (by omega) rfl
    rw [h] at hE
    cases hm : manyOk (opFrom w 1 8) l.length with
    | false => rw [if_pos hm] at hE; cases hE
    | true =>
      rw [if_neg (by rw [hm]; simp)] at hE
      have hC := parseC_of (w := w) (l := l) rfl h
      rw [hC]
      have hf : opFrom w 1 8 ≠ 7 → cmFiles (cmOf (opFrom w 1 8) l) = true := fun h7 => by
        rw [if_neg (fun q => h7 q.1)] at hE
        cases hc : cmFiles (cmOf (opFrom w 1 8) l) with
        | true => rfl
        | false => rw [if_neg (by rw [hc]; simp)] at hE; cases hE
      rcases shapes hm with ⟨a, b, ho, rfl⟩ | ⟨d, src, ho, rfl, h1, h2⟩ | ⟨d, ws, ho, rfl, h2⟩ | ⟨d, ho, rfl⟩ | ⟨d, ho, rfl⟩ | ⟨s, ho, rfl⟩ | ⟨ho, rfl⟩ | ⟨s, ho, rfl⟩ | ⟨ho, h2⟩
      all_goals rw [ho] at hf hE ⊢
      · obtain ⟨q1, q2⟩ := cmFiles_op (op := 1) (d := b) (s := [a]) (w := []) (st := 0) (hf (by decide))
        exact .copy (by simpa using q2) (q1 (by decide))
      · obtain ⟨q1, q2⟩ := cmFiles_op (op := 2) (d := d) (s := src) (w := []) (st := 0) (hf (by decide))
        exact .concat (q1 (by decide)) h1 h2 q2
      · obtain ⟨q1, q2⟩ := cmFiles_op (op := 3) (d := d) (s := []) (w := ws) (st := 0) (hf (by decide))
        exact .echo (q1 (by decide)) h2
      · obtain ⟨q1, q2⟩ := cmFiles_op (op := 4) (d := d) (s := []) (w := []) (st := 0) (hf (by decide))
        exact .touch (q1 (by decide))
      · obtain ⟨q1, q2⟩ := cmFiles_op (op := 5) (d := d) (s := []) (w := []) (st := 0) (hf (by decide))
        exact .remove (q1 (by decide))
      · obtain ⟨q1, q2⟩ := cmFiles_op (op := 6) (d := ⟨#[]⟩) (s := [s]) (w := []) (st := 0) (hf (by decide))
        exact .test (by simpa using q2)
      · exact .fail (n := 1) (by decide) (by decide)
      · have hz : failN s ≠ 0 := fun q => by
          have hq : (cmOf 7 [s]).st = 0 := q
          rw [if_pos ⟨rfl, hq⟩] at hE; cases hE
        obtain ⟨v, v1, v2, rfl⟩ := fail_stat s hz
        have hv := failN_dl v v1 v2
        have hK : Kind ⟨7, ⟨#[]⟩, [], [], failN ⟨(dl v).toArray⟩⟩ := by rw [hv]; exact .fail (by omega) (by omega)
        exact hK
      · exact .say h2
theorem line_kind {t : ByteArray} (h : lineE t = 0) : Kind (lineC t) := by
  by_cases hw : wordsE t = 0
  · obtain ⟨h1, h2⟩ := line_good hw
    rw [h1] at h; rw [h2]; exact parse_kind h
  · unfold lineE at h; rw [if_neg hw] at h; exact absurd h hw
theorem uniq_all {p : ByteArray → Bool} : ∀ (l out : List ByteArray), (uniqGo out l).all p = (out.all p && l.all p)
  | [], out => by simp [uniqGo]
  | x :: r, out => by
    rw [uniqGo]
    split
    · rename_i h
      rw [uniq_all r out, List.all_cons]
      cases ho : out.all p with
      | false => rfl
      | true =>
        obtain ⟨y, hy, e⟩ := List.any_eq_true.1 h
        obtain rfl := beqS_iff.1 e
        rw [List.all_eq_true.1 ho _ hy]; simp
    · rw [uniq_all r, List.all_append, List.all_cons, List.all_cons, List.all_nil, Bool.and_true, Bool.and_assoc]
theorem reads_all {c : Cm} {p : ByteArray → Bool} : (readsOf c).all p = c.src.all p := by
  unfold readsOf; split
  · rw [uniq_all]; rfl
  · rfl
theorem uniq_len : ∀ (l out : List ByteArray), (uniqGo out l).length ≤ out.length + l.length
  | [], out => by simp [uniqGo]
  | x :: r, out => by
    rw [uniqGo]
    split
    · have := uniq_len r out; simp only [List.length_cons]; omega
    · have := uniq_len r (out ++ [x]); simp only [List.length_cons, List.length_append, List.length_nil] at this ⊢; omega
theorem kind_src {c : Cm} (h : Kind c) : c.src.length ≤ 64 := by cases h <;> first | (simp; done) | assumption | (simp; omega)
theorem kind_reads {c : Cm} (h : Kind c) : (readsOf c).length ≤ 64 := by
  have := kind_src h
  unfold readsOf; split
  · have := uniq_len c.src []; simp only [List.length_nil] at this; omega
  · exact this
theorem kind_dst {c : Cm} (h : Kind c) : (beqS c.dst ⟨#[]⟩ = !wrOf c) := by
  have ne : ∀ d : ByteArray, isName d = true → beqS d ⟨#[]⟩ = false := fun d hd => by
    rw [beqS_no]; rintro rfl; unfold isName at hd; simp only [Bool.and_eq_true, decide_eq_true_eq] at hd; exact absurd hd.1.1 (by decide)
  cases h <;> first | (rw [ne _ (by assumption)]; rfl) | rfl | (exact beqS_self)
/-- What stands against a command; 0: nothing. -/
def mayOf (n : Node) (c : Cm) (e : Int) : Int := if e = 0 then if (c.src.all (hasS n.needs)) = true ∧ (wrOf c = true → c.dst = n.target) then 0 else 170 else e
theorem may_no {n : Node} {c : Cm} {e : Int} (he : e = 0) (h : c.src.all (hasS n.needs) = false) : mayOf n c e = 170 := by
  unfold mayOf; rw [if_pos he, if_neg (by rw [h]; simp)]
theorem may_dst {n : Node} {c : Cm} {e : Int} (he : e = 0) (h1 : wrOf c = true) (h2 : ¬ c.dst = n.target) : mayOf n c e = 170 := by
  unfold mayOf; rw [if_pos he, if_neg (fun q => h2 (q.2 h1))]
theorem may_yes {n : Node} {c : Cm} {e : Int} (he : e = 0) (h : c.src.all (hasS n.needs) = true) (h2 : wrOf c = true → c.dst = n.target) : mayOf n c e = 0 := by
  unfold mayOf; rw [if_pos he, if_pos ⟨h, h2⟩]
theorem leq_may {c : Cm} {e e' : Int} (h : e = e') : LeqD (.tup [c.av, i64 e]) (.tup [c.av, i64 e']) := h ▸ LeqD.refl _
theorem may_gen {n : Node} {t : ByteArray} {c : Cm} {e : Int} (hn : n.needs.length ≤ 1000000000) (hL : XPure Tryz.prog 44 [str t] (.tup [c.av, i64 e]) false) (hk : e = 0 → Kind c) :
    XPure Tryz.prog 29 [eN n, str t] (.tup [c.av, i64 (mayOf n c e)]) false := by
  refine XPure.bodyN ⟨_, Tryz.func29, rfl, by kernel_rfl⟩ Tryz.func29 rfl (Nat.le_of_ble_eq_true (by rfl)) (pf_of1 rfl) fun env => ?_
  repeat' ((conv => whnf); (fail_if_success refine zC ?_); first | refine zS ?_ | refine zB (fun h hs => ?_) (fun h hs => ?_) <;> try exact hs.elim | refine .inl ⟨_, _, hL, ?_⟩ | refine .inl ⟨_, _, c_Reads (hk (by assumption)), ?_⟩ | exact zElw | refine zZlw ?_ | fail)
  · refine leq_may ?_
    unfold mayOf; rw [if_neg hs]
  have he : e = 0 := hs
  have hK := hk he
  have hrl := kind_reads hK
  refine XW.countL (readsOf c).length [2, 4, 6, 29, 30] (fun i => [(31, i64 i)]) (fun _ => []) (fun i => [.cells (eN n).leaves [], .cells [i64 0, str .empty, nilv, nilv, i64 0] [], .cells c.av.leaves []]) (fun i => (readsOf c).all (hasS n.needs) = ((readsOf c).drop i).all (hasS n.needs)) Weak.go rfl ?_
  intro i hi hA
  refine codeS ?_
  repeat' ((conv => whnf); (fail_if_success refine zC ?_); first | refine zS ?_ | refine zB (fun h hs => ?_) (fun h hs => ?_) <;> try exact hs.elim | refine .inl ⟨_, _, c_Contains hn, ?_⟩ | refine .inl ⟨_, _, c_Writes hK, ?_⟩ | exact zEl | refine zZl ?_ | rw [getD_mapI (ByteArray.empty) (by omega)] | rw [getD_map (ByteArray.empty) (by omega)] | fail)
  · exact leq_may (c := c) (may_no he (reads_all.symm.trans (hA.trans (allL_no .empty (by assumption) hs)))).symm
  · exact hA.trans (allL_yes .empty (by assumption) hs)
  all_goals have hall : c.src.all (hasS n.needs) = true := reads_all.symm.trans (hA.trans (allL_end (by assumption)))
  · exact leq_may (c := c) (may_dst he hs.1 hs.2).symm
  · exact leq_may (c := c) (may_yes he hall (fun q => hs.resolve_left (by rw [q]; simp))).symm
  · exact leq_may (c := c) (may_yes he hall (fun q => by rw [hs] at q; cases q)).symm
theorem ref_may_gen {n : Node} {t : ByteArray} {c : Cm} {e : Int} (hn : n.needs.length ≤ 1000000000) (hL : XPure Tryz.prog 62 [str t] (.tup [c.av, i64 e]) false) (hk : e = 0 → Kind c) :
    XPure Tryz.prog 37 [eN n, str t] (.tup [c.av, i64 (mayOf n c e)]) false := by
  refine XPure.bodyN ⟨_, Tryz.func37, rfl, by kernel_rfl⟩ Tryz.func37 rfl (Nat.le_of_ble_eq_true (by rfl)) (pf_of1 rfl) fun env => ?_
  repeat' ((conv => whnf); (fail_if_success refine zC ?_); first | refine zS ?_ | refine zB (fun h hs => ?_) (fun h hs => ?_) <;> try exact hs.elim | refine .inl ⟨_, _, hL, ?_⟩ | exact zElw | refine zZlw ?_ | fail)
  · refine leq_may ?_
    unfold mayOf; rw [if_neg hs]
  have he : e = 0 := hs
  have hK := hk he
  have hrl := kind_src hK
  have hd := kind_dst hK
  refine XW.countL c.src.length [2, 4, 6, 20, 21] (fun i => [(22, i64 i)]) (fun _ => []) (fun i => [.cells (eN n).leaves [], .cells [i64 0, str .empty, nilv, nilv, i64 0] [], .cells c.av.leaves []]) (fun i => c.src.all (hasS n.needs) = (c.src.drop i).all (hasS n.needs)) Weak.go rfl ?_
  intro i hi hA
  refine codeS ?_
  repeat' ((conv => whnf); (fail_if_success refine zC ?_); first | refine zS ?_ | refine zB (fun h hs => ?_) (fun h hs => ?_) <;> try exact hs.elim | refine .inl ⟨_, _, c_ref03_Has hn, ?_⟩ | exact zEl | refine zZl ?_ | rw [getD_mapI (ByteArray.empty) (by omega)] | rw [getD_map (ByteArray.empty) (by omega)] | fail)
  · exact leq_may (c := c) (may_no he (hA.trans (allL_no .empty (by assumption) hs))).symm
  · exact hA.trans (allL_yes .empty (by assumption) hs)
  all_goals have hall : c.src.all (hasS n.needs) = true := hA.trans (allL_end (by assumption))
  · have w1 : (!wrOf c) = false := hd.symm.trans (beqS_no.2 hs.1)
    exact leq_may (c := c) (may_dst he (by simpa using w1) hs.2).symm
  · exact leq_may (c := c) (may_yes he hall (fun q => hs.resolve_left ‹¬ c.dst = ByteArray.empty›)).symm
  · have w1 : (!wrOf c) = true := hd.symm.trans (beqS_iff.2 hs)
    exact leq_may (c := c) (may_yes he hall (fun q => by rw [q] at w1; cases w1)).symm
@[irreducible] def mayX (n : Node) (t : ByteArray) : Int := mayOf n (lineC t) (lineE t)
theorem c_exec_may {n : Node} {t : ByteArray} (hn : n.needs.length ≤ 1000000000) : XPure Tryz.prog 29 [eN n, str t] (.tup [(lineC t).av, i64 (mayX n t)]) false := by
  unfold mayX; exact may_gen hn c_cmd_Line line_kind
theorem c_ref17_may {n : Node} {t : ByteArray} (hn : n.needs.length ≤ 1000000000) : XPure Tryz.prog 37 [eN n, str t] (.tup [(lineC t).av, i64 (mayX n t)]) false := by
  unfold mayX; exact ref_may_gen hn c_ref16_Line line_kind
theorem errIf_not {b : Bool} {k : Int} (h : ¬ errIf b k = 0) : b = false ∧ errIf b k = k := by
  cases b with
  | false => exact ⟨rfl, rfl⟩
  | true => exact absurd rfl h
theorem errIf_yes {b : Bool} {k : Int} (hk : k ≠ 0) (h : errIf b k = 0) : b = true := by
  cases b with
  | false => exact absurd h hk
  | true => rfl
end Go.Proofs.YtepdiooaoegpfaaGreatDoor.Fx
end
section
/- Whether a copying command may be done. Conditions: those in each statement. -/
namespace Go.Proofs.YtepdiooaoegpfaaGreatDoor.Fx
open Go Go.Proofs Go.Ev Go.RowKit
set_option maxRecDepth 100000
set_option maxHeartbeats 1600000
set_option linter.unusedSimpArgs false
set_option linter.unusedVariables false
def mayE (n : Node) (a b : ByteArray) : Int := if hasS n.needs a = true then if b = n.target then 0 else 170 else 170
theorem leq_cmd2 {op st e e' : Int} {d : ByteArray} {a w : List ByteArray} (h5 : e' = e) : LeqD (.tup [eC op d a w st, i64 e]) (.tup [eC op d a w st, i64 e']) := by
  subst h5; exact LeqD.refl _
theorem c_may_copy {n : Node} {t a b : ByteArray} (hn : n.needs.length ≤ 1000000000) (hV : wordsV t = [copyW, a, b]) (hE : wordsE t = 0) (ha : isName a = true) (hb : isName b = true) :
    XPure Tryz.prog 29 [eN n, str t] (.tup [eC 1 b [a] [] 0, i64 (mayE n a b)]) false := by
  refine XPure.bodyN ⟨_, Tryz.func29, rfl, by kernel_rfl⟩ Tryz.func29 rfl (Nat.le_of_ble_eq_true (by rfl)) (pf_of1 rfl) fun env => ?_
  repeat' ((conv => whnf); (fail_if_success refine zC ?_); first | refine zS ?_ | refine zB (fun h hs => ?_) (fun h hs => ?_) <;> try exact hs.elim | refine .inl ⟨_, _, c_Line_copy hV hE ha hb, ?_⟩ | refine .inl ⟨_, _, c_Reads_copy ha hb, ?_⟩ | exact zElw | refine zZlw ?_ | fail)
  refine XW.countL 1 [2, 4, 6, 29, 30] (fun i => [(31, i64 i)]) (fun _ => []) (fun i => [.cells (eN n).leaves [], .cells [i64 0, str .empty, nilv, nilv, i64 0] [], .cells (eC 1 b [a] [] 0).leaves []]) (fun i => i = 0 ∨ hasS n.needs a = true) Weak.go (.inl rfl) ?_
  intro i hi hA
  refine codeS ?_
  rcases (by omega : i = 0 ∨ i = 1) with rfl | rfl
  · repeat' ((conv => whnf); (fail_if_success refine zC ?_); first | refine zSd ?_ | refine zB (fun h hs => ?_) (fun h hs => ?_) <;> try exact hs.elim | refine .inl ⟨_, _, c_Contains hn, ?_⟩ | refine .inl ⟨_, _, c_Writes_copy ha hb, ?_⟩ | exact zEl | refine zZl ?_ | fail)
    · conv => whnf
      refine leq_cmd2 ?_
      unfold mayE; rw [if_neg (by rw [hs]; simp)]
    · exact .inr hs
    all_goals exact absurd (Nat.zero_lt_one) ‹¬ 0 < [a].length›
  · have hA' : hasS n.needs a = true := by rcases hA with h | h; omega; exact h
    repeat' ((conv => whnf); (fail_if_success refine zC ?_); first | refine zSd ?_ | refine zB (fun h hs => ?_) (fun h hs => ?_) <;> try exact hs.elim | refine .inl ⟨_, _, c_Contains hn, ?_⟩ | refine .inl ⟨_, _, c_Writes_copy ha hb, ?_⟩ | exact zEl | refine zZl ?_ | fail)
    · exact absurd hs (Nat.lt_irrefl 1)
    · conv => whnf
      refine leq_cmd2 ?_
      unfold mayE; rw [if_pos hA', if_neg hs]
    · conv => whnf
      refine leq_cmd2 ?_
      unfold mayE; rw [if_pos hA', if_pos hs]
end Go.Proofs.YtepdiooaoegpfaaGreatDoor.Fx
end
section
/- Disks as the document's answer writes them. Conditions: those in each statement. -/
namespace Go.Proofs.YtepdiooaoegpfaaGreatDoor.Fx
open Go Go.Proofs Go.Ev Go.RowKit
set_option maxRecDepth 100000
set_option maxHeartbeats 1600000
set_option linter.unusedSimpArgs false
set_option linter.unusedVariables false
def SzF (l : List File) : Prop := l.length ≤ 1000000000 ∧ ∀ f ∈ l, f.name.size ≤ 140737488355328
theorem SzF.at {l : List File} (h : SzF l) (i : Nat) (hi : i < l.length) : (l.getD i File.none).name.size ≤ 140737488355328 :=
  h.2 _ (by simp [List.getD_eq_getElem?_getD, hi])
theorem c_ref02_fit {clock : Int} {l : List File} {s : ByteArray} (hz : SzF l) (hns : s.size ≤ 140737488355328) : XPure Tryz.prog 35 [eD clock l, str s] (i64 (bif okD clock l then errIf (isName s) 3 else 4)) false := by
  refine XPure.body ⟨_, Tryz.func35, rfl, by kernel_rfl⟩ Tryz.func35 rfl (Nat.le_of_ble_eq_true (by rfl)) (pf_of1 rfl) fun env => ?_
  repeat' ((conv => whnf); (fail_if_success refine zC ?_); first | refine zS ?_ | refine zB (fun h hs => ?_) (fun h hs => ?_) <;> try exact hs.elim | refine .inl ⟨_, _, c_ref02_Check hz.1 hz.at, ?_⟩ | refine .inl ⟨_, _, c_ref02_Name hns, ?_⟩ | exact zE | refine zZ ?_ | fail)
  all_goals cases h1 : okD clock l <;> cases h2 : isName s <;> simp_all [errIf]
/-- The place of a file; -1: none. -/
def placeN (l : List File) (s : ByteArray) (i : Nat) : Int := match l with
  | [] => -1
  | f :: r => if beqS f.name s then i else placeN r s (i + 1)
theorem placeN_step {l : List File} {s : ByteArray} {i : Nat} (h : i < l.length) : placeN (l.drop i) s i = if beqS (l.getD i File.none).name s then (i : Int) else placeN (l.drop (i + 1)) s (i + 1) := by
  rw [drop_getD File.none h]; rfl
theorem placeN_end {l : List File} {s : ByteArray} {i : Nat} (h : ¬ i < l.length) : placeN (l.drop i) s i = -1 := by
  rw [List.drop_eq_nil_of_le (by omega)]; rfl
theorem c_ref02_place {clock : Int} {l : List File} {s : ByteArray} (hl : l.length ≤ 1000000000) : XPure Tryz.prog 60 [eD clock l, str s] (i64 (placeN l s 0)) false := by
  refine XPure.body ⟨_, Tryz.func60, rfl, by kernel_rfl⟩ Tryz.func60 rfl (Nat.le_of_ble_eq_true (by rfl)) (pf_of1 rfl) fun env => ?_
  repeat' ((conv => whnf); (fail_if_success refine zC ?_); first | refine zS ?_ | refine zB (fun h hs => ?_) (fun h hs => ?_) <;> try exact hs.elim | exact zE | refine zZ ?_ | fail)
  refine XW.countL l.length [1, 2] (fun i => [(5, i64 i)]) (fun _ => []) (fun i => [.cells [i64 clock, eFs l] []]) (fun i => placeN l s 0 = placeN (l.drop i) s i) Weak.go rfl ?_
  intro i hi hA
  refine codeS ?_
  repeat' ((conv => whnf); (fail_if_success refine zC ?_); first | refine zS ?_ | refine zB (fun h hs => ?_) (fun h hs => ?_) <;> try exact hs.elim | exact zE | refine zZ ?_ | rw [getD_mapI (File.none) (by omega)] | rw [getD_map (File.none) (by omega)] | fail)
  · rw [hA, placeN_step ‹_›, if_pos (beqS_iff.2 hs)]
  · rw [hA, placeN_step ‹_›, if_neg (by simpa using h)]
  · rw [hA, placeN_end hs]
end Go.Proofs.YtepdiooaoegpfaaGreatDoor.Fx
end
section
/- What is compared: files, disks, what a command did. Conditions: those in each statement. -/
namespace Go.Proofs.YtepdiooaoegpfaaGreatDoor.Fx
open Go Go.Proofs Go.Ev Go.RowKit
set_option maxRecDepth 100000
set_option maxHeartbeats 1600000
set_option linter.unusedSimpArgs false
set_option linter.unusedVariables false
def sameF (a b : File) : Bool := beqS a.name b.name && beqS a.text b.text && (a.stamp == b.stamp)
def sameGo : List File → List File → Bool
  | a :: l, b :: m => sameF a b && sameGo l m
  | _, _ => true
def sameFs (l m : List File) : Bool := decide (l.length = m.length) && sameGo l m
theorem sameGo_step {l m : List File} {i : Nat} (h : i < l.length) (k : i < m.length) : sameGo (l.drop i) (m.drop i) = (sameF (l.getD i File.none) (m.getD i File.none) && sameGo (l.drop (i + 1)) (m.drop (i + 1))) := by
  rw [drop_getD File.none h, drop_getD File.none k]; rfl
theorem sameGo_end {l m : List File} {i : Nat} (h : ¬ i < l.length) : sameGo (l.drop i) (m.drop i) = true := by
  rw [List.drop_eq_nil_of_le (by omega)]; rfl
theorem c_plain_Files {l m : List File} (hl : l.length ≤ 1000000000) (hm : m.length ≤ 1000000000) : XPure Tryz.prog 33 [eFs l, eFs m] (bln (sameFs l m)) false := by
  refine XPure.body ⟨_, Tryz.func33, rfl, by kernel_rfl⟩ Tryz.func33 rfl (Nat.le_of_ble_eq_true (by rfl)) (pf_of1 rfl) fun env => ?_
  repeat' ((conv => whnf); (fail_if_success refine zC ?_); first | refine zS ?_ | refine zB (fun h hs => ?_) (fun h hs => ?_) <;> try exact hs.elim | exact zE | refine zZ ?_ | fail)
  · have e : sameFs l m = false := by unfold sameFs; rw [decide_eq_false (by omega), Bool.false_and]
    rw [e]
  · have e : sameFs l m = sameGo l m := by unfold sameFs; rw [decide_eq_true (by omega), Bool.true_and]
    refine XW.countL l.length [0, 1, 12] (fun i => [(13, i64 i)]) (fun _ => []) (fun _ => []) (fun i => sameFs l m = sameGo (l.drop i) (m.drop i)) Weak.go e ?_
    intro i hi hA
    refine codeS ?_
    repeat' ((conv => whnf); (fail_if_success refine zC ?_); first | refine zS ?_ | refine zB (fun h hs => ?_) (fun h hs => ?_) <;> try exact hs.elim | refine XW.dr (m := 9) ?_ | exact zE | refine zZ ?_ | rw [getD_mapI (File.none) (by omega)] | rw [getD_map (File.none) (by omega)] | fail)
    · have e2 : sameF (l.getD i File.none) (m.getD i File.none) = false := by
        rw [← Bool.not_eq_true]; simp only [sameF, Bool.and_eq_true, beqS_iff, beq_iff_eq]; grind
      rw [hA, sameGo_step ‹_› (by omega), e2]; rfl
    · have e2 : sameF (l.getD i File.none) (m.getD i File.none) = true := by
        simp only [sameF, Bool.and_eq_true, beqS_iff, beq_iff_eq]; grind
      rw [hA, sameGo_step ‹_› (by omega), e2, Bool.true_and]
    · rw [hA, sameGo_end hs]
theorem c_plain_Disk {a b : Int} {l m : List File} (hl : l.length ≤ 1000000000) (hm : m.length ≤ 1000000000) : XPure Tryz.prog 12 [eD a l, eD b m] (bln ((a == b) && sameFs l m)) false := by
  refine XPure.body ⟨_, Tryz.func12, rfl, by kernel_rfl⟩ Tryz.func12 rfl (Nat.le_of_ble_eq_true (by rfl)) (pf_of1 rfl) fun env => ?_
  repeat' ((conv => whnf); (fail_if_success refine zC ?_); first | refine zS ?_ | refine zB (fun h hs => ?_) (fun h hs => ?_) <;> try exact hs.elim | refine .inl ⟨_, _, c_plain_Files hl hm, ?_⟩ | exact zE | refine zZ ?_ | fail)
  · exact congrArg (fun b => bln b) (Bool.cond_false_right ..)
  · exact congrArg (fun b => bln b) (by rw [h, Bool.false_and])
structure Done where
  clock : Int
  files : List File
  said : ByteArray
  wrote : Bool
  status : Int
  code : Int
abbrev eDone (x : Done) : AV := .agg [i64 x.clock, eFs x.files, str x.said, bln x.wrote, i64 x.status, i64 x.code]
def Done.same (x y : Done) : Bool := (x.clock == y.clock) && sameFs x.files y.files && beqS x.said y.said && (x.wrote == y.wrote) && (x.status == y.status) && (x.code == y.code)
theorem c_plain_Done {x y : Done} (hl : x.files.length ≤ 1000000000) (hm : y.files.length ≤ 1000000000) : XPure Tryz.prog 11 [eDone x, eDone y] (bln (x.same y)) false := by
  refine XPure.body ⟨_, Tryz.func11, rfl, by kernel_rfl⟩ Tryz.func11 rfl (Nat.le_of_ble_eq_true (by rfl)) (pf_of1 rfl) fun env => ?_
  repeat' ((conv => whnf); (fail_if_success refine zC ?_); first | refine zS ?_ | refine zB (fun h hs => ?_) (fun h hs => ?_) <;> try exact hs.elim | refine .inl ⟨_, _, c_plain_Disk hl hm, ?_⟩ | exact zE | refine zZ ?_ | fail)
  all_goals refine congrArg (fun b => bln b) ?_
  all_goals rw [Bool.eq_iff_iff]
  all_goals simp only [cs, reduceCtorEq, Int.reduceEq, Int.reduceNe, Int.reduceLT, Int.reduceLE, Int.reduceBEq, Int.reduceBNe, Done.same] at *
  all_goals grind
theorem c_ref17_failed {c : Int} {l : List File} {e st : Int} : XPure Tryz.prog 55 [eD c l, i64 e, i64 st] (eDone ⟨c, l, .empty, false, st, e⟩) false := by
  refine XPure.body ⟨_, Tryz.func55, rfl, by kernel_rfl⟩ Tryz.func55 rfl (Nat.le_of_ble_eq_true (by rfl)) (pf_of1 rfl) fun env => ?_
  repeat' ((conv => whnf); (fail_if_success refine zC ?_); first | refine zS ?_ | refine zB (fun h hs => ?_) (fun h hs => ?_) <;> try exact hs.elim | exact zE | refine zZ ?_ | fail)
end Go.Proofs.YtepdiooaoegpfaaGreatDoor.Fx
end
section
/- What a copying command does. Conditions: those in each statement. -/
namespace Go.Proofs.YtepdiooaoegpfaaGreatDoor.Fx
open Go Go.Proofs Go.Ev Go.RowKit
set_option maxRecDepth 100000
set_option maxHeartbeats 6400000
set_option linter.unusedSimpArgs false
set_option linter.unusedVariables false
attribute [local irreducible] readE readT
@[irreducible] def doneE (clock : Int) (l : List File) (a b : ByteArray) : Int := if readE clock l [a] = 0 then wrE clock l b (readT clock l [a]) else readE clock l [a]
@[irreducible] def doneC (clock : Int) (l : List File) (a b : ByteArray) : Int := if readE clock l [a] = 0 then wrC clock l b (readT clock l [a]) else clock
@[irreducible] def doneL (clock : Int) (l : List File) (a b : ByteArray) : List File := if readE clock l [a] = 0 then wrL' clock l b (readT clock l [a]) else l
theorem tup4 {c c' e e' : Int} {L L' : List File} (h1 : c = c') (h2 : L = L') (h3 : e = e') : AV.tup [eD c L, str .empty, i64 0, i64 e] = AV.tup [eD c' L', str .empty, i64 0, i64 e'] := by subst h1 h2 h3; rfl
theorem c_done_copy {clock : Int} {l : List File} {a b : ByteArray} : XPure Tryz.prog 30 [eC 1 b [a] [] 0, eD clock l] (.tup [eD (doneC clock l a b) (doneL clock l a b), str .empty, i64 0, i64 (doneE clock l a b)]) false := by
  refine XPure.body ⟨_, Tryz.func30, rfl, by kernel_rfl⟩ Tryz.func30 rfl (Nat.le_of_ble_eq_true (by rfl)) (pf_of1 rfl) fun env => ?_
  repeat' ((conv => whnf); (fail_if_success refine zC ?_); first | refine zSd ?_ | refine zB (fun h hs => ?_) (fun h hs => ?_) <;> try exact hs.elim | refine .inl ⟨_, _, c_exec_read (Nat.le_of_ble_eq_true rfl), ?_⟩ | refine .inl ⟨_, _, c_disk_Write, ?_⟩ | exact zE | refine zZ ?_ | fail)
  · exact tup4 (by unfold doneC; rw [if_neg hs]) (by unfold doneL; rw [if_neg hs]) (by unfold doneE; rw [if_neg hs])
  · exact tup4 (by unfold doneC; rw [if_pos hs]) (by unfold doneL; rw [if_pos hs]) (by unfold doneE; rw [if_pos hs])
@[irreducible] def statusOf (e : Int) : Int := if e = 0 then 0 else if e = 171 then 1 else if e = 150 ∨ e = 9 ∨ e = 160 ∨ e = 3 then 2 else if e = 170 then 3 else if e = 21 then 4 else if e = 20 then 5 else if e = 22 then 6 else if e = 23 then 7 else 8
theorem c_Status' {e : Int} : XPure Tryz.prog 21 [i64 e] (i64 (statusOf e)) false := by unfold statusOf; exact c_exec_Status
theorem cellOwn_xp {c : Cfg} {p : Operand} {i off : Nat} {l : List AV} (h1 : evA c p = .xp i off) (h2 : c.env[i]? = some (.cells l [])) : cellOwn c p = none := by
  unfold cellOwn
  rw [h1]
  simp only [h2]
  split
  · rfl
  · rfl
theorem tupD {c e st st' : Int} {l : List File} (h : st = st') : AV.tup [eDone ⟨c, l, .empty, false, st, e⟩, i64 0] = AV.tup [eDone ⟨c, l, .empty, false, st', e⟩, i64 0] := by subst h; rfl
theorem c_Do1 {q : Nat} {clock e st : Int} {l : List File} {env : List Bx} (hq : env[q]? = some (.cells [i64 clock, eFs l] [])) :
    XCalls Tryz.prog 28 [i64 e, i64 st, .xp q 0] env fun r ow env' => r = .tup [eDone ⟨clock, l, .empty, false, if st = 0 then statusOf e else st, e⟩, i64 0] ∧ ow = false ∧ env' = env := by
  have hkk : q < env.length := (List.getElem?_eq_some_iff.1 hq).1
  refine XCalls.body Tryz.func28 rfl (Nat.le_of_ble_eq_true (by rfl)) ?_
  repeat' ((conv => whnf); (fail_if_success refine zC ?_); first | refine zS ?_ | refine zB (fun h hs => ?_) (fun h hs => ?_) <;> try exact hs.elim | refine .inl ⟨_, _, c_Status', ?_⟩ | (first | rw [cellOwn_xp (i := q) (off := 0) rfl hq] | (refine ⟨_, _, hq, ?_⟩)) | exact zEw | refine zZw ?_ | fail)
  · exact tupD (by rw [if_pos hs])
  · exact tupD (by rw [if_neg hs])
/-- What a copying command comes to. -/
@[irreducible] def doCopy (n : Node) (clock : Int) (l : List File) (a b : ByteArray) : Done :=
  if mayE n a b = 0 then if doneE clock l a b = 0 then ⟨doneC clock l a b, doneL clock l a b, .empty, true, 0, 0⟩ else ⟨clock, l, .empty, false, statusOf (doneE clock l a b), doneE clock l a b⟩ else ⟨clock, l, .empty, false, statusOf (mayE n a b), mayE n a b⟩
end Go.Proofs.YtepdiooaoegpfaaGreatDoor.Fx
end
section
/- What right commands do upon a disk. Conditions: those in each statement. -/
namespace Go.Proofs.YtepdiooaoegpfaaGreatDoor.Fx
open Go Go.Proofs Go.Ev Go.RowKit
set_option maxRecDepth 100000
set_option maxHeartbeats 6400000
set_option linter.unusedSimpArgs false
set_option linter.unusedVariables false
abbrev blankS : ByteArray := ⟨#[32]⟩
theorem tail_len {sep : List UInt8} {M : Nat} : ∀ l : List ByteArray, (∀ x ∈ l, x.size ≤ M) → (Lib.joinTail sep (l.map (·.data.toList))).length ≤ l.length * (M + sep.length)
  | [], _ => by simp [Lib.joinTail]
  | x :: r, h => by
    have ih := tail_len (sep := sep) (M := M) r fun y hy => h y (List.mem_cons_of_mem _ hy)
    have hx := h x (List.mem_cons_self ..)
    have hl : x.data.toList.length = x.size := by simp
    unfold Lib.joinTail at ih ⊢
    simp only [List.map_cons, List.flatten_cons, List.length_append, List.length_cons, Nat.succ_mul] at ih ⊢
    omega
theorem join_len {sep : List UInt8} {M : Nat} (l : List ByteArray) (h : ∀ x ∈ l, x.size ≤ M) : (Lib.join (l.map (·.data.toList)) sep).length ≤ l.length * (M + sep.length) := by
  cases l with
  | nil => simp [Lib.join_nil]
  | cons x r =>
    have h1 := tail_len (sep := sep) (M := M) r fun y hy => h y (List.mem_cons_of_mem _ hy)
    have hx := h x (List.mem_cons_self ..)
    have hl : x.data.toList.length = x.size := by simp
    rw [List.map_cons, Lib.join_cons, List.length_append, List.length_cons, Nat.succ_mul]
    omega
def spokenB (l : List ByteArray) : ByteArray := joinB l blankS ++ ⟨#[10]⟩
theorem c_JoinW {l : List ByteArray} (hn : l.length ≤ 512) (hw : ∀ x ∈ l, x.size ≤ 65536) : XPure Tryz.prog 53 [eS l, str blankS] (str (joinB l blankS)) false :=
  c_Join (by omega) (by have h : _ ≤ l.length * 65537 := join_len (sep := blankS.data.toList) (M := 65536) l hw; omega)
theorem joinB_size {l : List ByteArray} (hn : l.length ≤ 512) (hw : ∀ x ∈ l, x.size ≤ 65536) : (joinB l blankS).size ≤ 33554944 := by
  have h : _ ≤ l.length * 65537 := join_len (sep := blankS.data.toList) (M := 65536) l hw
  show (Lib.join _ _).length ≤ _
  omega
theorem c_spoken {l : List ByteArray} (hn : l.length ≤ 512) (hw : ∀ x ∈ l, x.size ≤ 65536) : XPure Tryz.prog 188 [eS l] (str (spokenB l)) false := by
  have hz := joinB_size hn hw
  refine XPure.body ⟨_, Tryz.func188, rfl, by kernel_rfl⟩ Tryz.func188 rfl (Nat.le_of_ble_eq_true (by rfl)) (pf_of1 rfl) fun env => ?_
  repeat' ((conv => whnf); (fail_if_success refine zC ?_); first | refine zS ?_ | refine zB (fun h hs => ?_) (fun h hs => ?_) <;> try exact hs.elim | refine .inl ⟨_, _, c_JoinW hn hw, ?_⟩ | exact zEs | refine zZs ?_ | (refine ⟨?_, ?_, ?_⟩; (first | omega | (show (joinB l blankS).size + 1 ≤ 140737488355328; omega)); (first | omega | (show (joinB l blankS).size + 1 ≤ 140737488355328; omega))) | (refine ⟨?_, ?_⟩; (first | omega | (show (joinB l blankS).size + 1 ≤ 140737488355328; omega))) | fail)
theorem c_echoing_said {d : ByteArray} {l : List ByteArray} (hn : l.length ≤ 512) (hw : ∀ x ∈ l, x.size ≤ 65536) : XPure Tryz.prog 184 [.agg [str d, eS l]] (str (spokenB l)) false := by
  refine XPure.body ⟨_, Tryz.func184, rfl, by kernel_rfl⟩ Tryz.func184 rfl (Nat.le_of_ble_eq_true (by rfl)) (pf_of1 rfl) fun env => ?_
  repeat' ((conv => whnf); (fail_if_success refine zC ?_); first | refine zS ?_ | refine zB (fun h hs => ?_) (fun h hs => ?_) <;> try exact hs.elim | refine .inl ⟨_, _, c_spoken hn hw, ?_⟩ | exact zE | refine zZ ?_ | fail)
theorem said_echo {d : ByteArray} {w : List ByteArray} (hd : isName d = true) (hn : w.length ≤ 512) (hw : ∀ x ∈ w, x.size ≤ 65536) : XPure Tryz.prog 49 [eC 3 d [] w 0] (.tup [str (spokenB w), i64 0]) false := by
  refine XPure.body ⟨_, Tryz.func49, rfl, by kernel_rfl⟩ Tryz.func49 rfl (Nat.le_of_ble_eq_true (by rfl)) (pf_of1 rfl) fun env => ?_
  repeat' ((conv => whnf); (fail_if_success refine zC ?_); first | refine zSd ?_ | refine zB (fun h hs => ?_) (fun h hs => ?_) <;> try exact hs.elim | refine .inl ⟨_, _, told_echo hd hn, ?_⟩ | refine .inl ⟨_, _, c_echoing_said hn hw, ?_⟩ | exact zE | refine zZ ?_ | fail)
structure DR where
  clock : Int
  files : List File
  said : ByteArray
  st : Int
  e : Int
abbrev DR.av (r : DR) : AV := .tup [eD r.clock r.files, str r.said, i64 r.st, i64 r.e]
/-- What a right command comes to, upon a disk. -/
def doneOf (c : Cm) (clock : Int) (l : List File) : DR :=
  if c.op = 1 ∨ c.op = 2 then if readE clock l c.src = 0 then ⟨wrC clock l c.dst (readT clock l c.src), wrL' clock l c.dst (readT clock l c.src), .empty, 0, wrE clock l c.dst (readT clock l c.src)⟩ else ⟨clock, l, .empty, 0, readE clock l c.src⟩
  else if c.op = 3 then ⟨wrC clock l c.dst (spokenB c.words), wrL' clock l c.dst (spokenB c.words), .empty, 0, wrE clock l c.dst (spokenB c.words)⟩
  else if c.op = 4 then ⟨tcC clock l c.dst, tcL clock l c.dst, .empty, 0, tcE clock l c.dst⟩
  else if c.op = 5 then ⟨rmC clock l c.dst, rmL clock l c.dst, .empty, 0, rmE clock l c.dst⟩
  else if c.op = 6 then if findE clock l (c.src.getD 0 .empty) = 0 then ⟨clock, l, .empty, 0, 0⟩ else ⟨clock, l, .empty, 1, 171⟩
  else if c.op = 7 then ⟨clock, l, .empty, c.st, 171⟩
  else ⟨clock, l, joinB c.words blankS, 0, 0⟩
end Go.Proofs.YtepdiooaoegpfaaGreatDoor.Fx
end
