/- Written by programs of this session: laws and contracts that the law's proof stands on, merged into one text. Conditions: none beyond those in each statement. -/
import Derived.Test.YtepdiooaoegpfaaGreatDoorPkFx2
import Derived.Test.YtepdiooaoegpfaaGreatDoorPkFx3
import Derived.Test.YtepdiooaoegpfaaGreatDoorPkEv3
import Derived.Test.YtepdiooaoegpfaaGreatDoorPkSp1
import Derived.WalkSpells
import Derived.WalkLawsBesides
import Derived.Lib.Builder
import Derived.Lib.Hide
import Derived.Test.YtepdiooaoegpfaaGreatDoorPkFx1
import Derived.Test.YtepdiooaoegpfaaGreatDoorPkEv4
import Derived.Test.YtepdiooaoegpfaaGreatDoorRows
section
/- A target by itself. Conditions: those in each statement. -/
namespace Go.Proofs.YtepdiooaoegpfaaGreatDoor.Fx
open Go Go.Proofs Go.Ev Go.RowKit
set_option maxRecDepth 100000
set_option maxHeartbeats 1600000
set_option linter.unusedSimpArgs false
set_option linter.unusedVariables false
/-- A node of which the target alone is said. -/
abbrev sN (x : ByteArray) : AV := .agg [str x, nilv, nilv, bln false, str .empty, str .empty, bln false, bln false, bln false, bln false]
def bare (x : ByteArray) : Node := { (default : Node) with target := x, needs := [], recipe := [], has := false, source := .empty, stem := .empty, phony := false, precious := false, ignore := false, silent := false }
theorem sN_bare (x : ByteArray) : LeqD (sN x) (eN (bare x)) := by
  repeat' (first | exact LeqD.refl _ | exact LeqDL.refl _ | exact LeqD.nil (by decide) | refine LeqDL.cons ?_ ?_ | refine LeqD.agg ?_)
def aloneOk (n : Node) : Bool := planOk (n.needs.map bare ++ [n]) [n.target]
theorem c_alone {n : Node} (hz : SzN n) : XPure Tryz.prog 25 [eN n] (i64 (errIf (aloneOk n) 7)) false := by
  have hn1 := hz.needs.1
  have hzn : ∀ (i : Nat), ∀ m ∈ (n.needs.take i).map bare ++ [n], SzN m := by
    intro i m hm
    rcases List.mem_append.1 hm with hm | hm
    · obtain ⟨x, hx, rfl⟩ := List.mem_map.1 hm
      exact ⟨hz.needs.2 x (List.mem_of_mem_take hx), ⟨Nat.zero_le _, fun y hy => absurd hy List.not_mem_nil⟩, ⟨Nat.zero_le _, fun y hy => absurd hy List.not_mem_nil⟩⟩
    · obtain rfl := List.mem_singleton.1 hm; exact hz
  have hC : ∀ i : Nat, XPure Tryz.prog 42 [.agg [.sl 10 ((n.needs.take i).map sN ++ [eN n]), .sl 1 [str n.target]]] (i64 (errIf (planOk ((n.needs.take i).map bare ++ [n]) [n.target]) 7)) false := fun i =>
    (c_resolve_Check (goals := [n.target]) (hzn i)).nils (by
      refine LeqDL.cons (LeqD.agg (LeqDL.cons (LeqD.sl ?_) (LeqDL.refl _))) (LeqDL.refl _)
      · rw [List.map_append, List.map_map]
        exact (LeqDL.map sN_bare _).append (LeqDL.refl _))
  refine XPure.body ⟨_, Tryz.func25, rfl, by kernel_rfl⟩ Tryz.func25 rfl (Nat.le_of_ble_eq_true (by rfl)) (pf_of1 rfl) fun env => ?_
  repeat' ((conv => whnf); (fail_if_success (with_reducible show ∃ _, _ ∧ _ ∧ Weak _ _ _)); first | ((with_reducible show guardA _ _ _ _ _ _ ∨ _); first | (refine .inr ?_; (conv => whnf); refine ⟨_, ?_, fun h => rfl, rfl, ?_⟩; ((conv => whnf); first | exact trivial | (refine ⟨?_, trivial⟩; exact okG))) | (refine .inr ?_; (conv => whnf); refine ⟨_, trivial, fun h => ⟨?_, ?_, ?_, rfl⟩, rfl, ?_⟩; (first | exact h | rfl); exact okG; exact okG) | refine .inl ?_) | refine cY ?_ | refine cN ?_ | refine gA ?_ | refine gB ?_ | refine gC ?_ | ((first | refine gsT (fun h => ?_) (fun h => ?_) | refine gsF (fun h => ?_) (fun h => ?_) | refine ⟨fun h => ?_, fun h => ?_⟩) <;> (have hs := h; try simp only [cs, reduceCtorEq, Int.reduceEq, Int.reduceNe, Int.reduceLT, Int.reduceLE, Int.reduceBEq, Int.reduceBNe] at hs)) | ((with_reducible show _ ∧ _ ∧ Weak _ _ _); refine ⟨?_, ?_, Weak.go⟩; (omega)) | ((with_reducible show (_ ∧ _ ∧ _) ∧ _); refine ⟨⟨by kernel_rfl, by kernel_rfl, by rfl⟩, ?_⟩) | ((with_reducible show AV.pf _ = true ∧ _); refine pfA ?_) | (refine ⟨rfl, ?_, ?_, ?_⟩; exact okG; exact okG) | ((with_reducible show (_ ∨ _) ∧ _ ∧ retA _ _ _ _ _); refine ⟨?_, rfl, ?_⟩; (first | exact .inr rfl | exact .inl rfl)) | ((with_reducible show _ = _ ∧ _ = false ∧ _ = _); refine ⟨?_, rfl, rfl⟩; try (first | rfl | (conv => lhs; whnf))) | ((with_reducible show LeqD _ _); try (first | exact okN | (first | rfl | (conv => lhs; whnf))); done) | ((with_reducible show _ = _ ∧ (_ → _)); refine ⟨?_, ?_⟩; try (first | rfl | (conv => lhs; whnf))) | exact fun h => h | exact fun _ => rfl | refine ⟨rfl, ?_⟩ | (refine ⟨Nat.le_of_ble_eq_true rfl, ?_⟩) | (refine ⟨?_, ?_, ?_⟩; exact okS; exact okS) | (refine ⟨?_, ?_⟩; exact okS) | rw [wrapId (by omega) (by omega)] | fail)
  refine XW.countL n.needs.length [1, 2, 3, 11, 12] (fun i => [(13, i64 i)]) (fun _ => []) (fun i => [.cells (eN n).leaves [], .cells [.sl 10 ((n.needs.take i).map sN), eS [n.target]] [0]]) (fun i => True) Weak.go trivial ?_
  intro i hi hA
  refine codeS ?_
  repeat' ((conv => whnf); first | ((with_reducible show _ ∧ _ ∧ Weak _ _ _); have hM := app_next sN ByteArray.empty ‹i < n.needs.length›; refine ⟨?_, ?_, Weak.go⟩; omega) | ((with_reducible show guardA _ _ _ _ _ _ ∨ _); first | (refine .inr ?_; (conv => whnf); refine ⟨_, ?_, fun h => rfl, rfl, ?_⟩; ((conv => whnf); first | exact trivial | (refine ⟨?_, trivial⟩; exact okG))) | (refine .inr ?_; (conv => whnf); refine ⟨_, trivial, fun h => ⟨?_, ?_, ?_, rfl⟩, rfl, ?_⟩; (first | exact h | rfl); exact okG; exact okG) | refine .inl ?_) | refine cY ?_ | refine cN ?_ | refine gA ?_ | refine gB ?_ | refine gC ?_ | ((first | refine gsT (fun h => ?_) (fun h => ?_) | refine gsF (fun h => ?_) (fun h => ?_) | refine ⟨fun h => ?_, fun h => ?_⟩) <;> (have hs := h; try simp only [cs, reduceCtorEq, Int.reduceEq, Int.reduceNe, Int.reduceLT, Int.reduceLE, Int.reduceBEq, Int.reduceBNe] at hs)) | (refine .inl ⟨_, _, hC _, ?_⟩) | ((with_reducible show _ ∧ _ ∧ Weak _ _ _); refine ⟨?_, ?_, Weak.go⟩; (omega)) | ((with_reducible show (_ ∧ _ ∧ _) ∧ _); refine ⟨⟨by kernel_rfl, by kernel_rfl, by rfl⟩, ?_⟩) | ((with_reducible show AV.pf _ = true ∧ _); refine pfA ?_) | (refine ⟨rfl, ?_, ?_, ?_⟩; exact okG; exact okG) | ((with_reducible show (_ ∨ _) ∧ _ ∧ retA _ _ _ _ _); refine ⟨?_, rfl, ?_⟩; (first | exact .inr rfl | exact .inl rfl)) | ((with_reducible show _ = _ ∧ _ = false ∧ _ = _); refine ⟨?_, rfl, rfl⟩; try (first | rfl | (conv => lhs; whnf))) | ((with_reducible show LeqD _ _); try (first | exact okN | (first | rfl | (conv => lhs; whnf))); done) | ((with_reducible show _ = _ ∧ (_ → _)); refine ⟨?_, ?_⟩; try (first | rfl | (conv => lhs; whnf))) | exact fun h => h | exact fun _ => rfl | refine ⟨rfl, ?_⟩ | (refine ⟨Nat.le_of_ble_eq_true rfl, ?_⟩) | (refine ⟨?_, ?_, ?_⟩; exact okS; exact okS) | (refine ⟨?_, ?_⟩; exact okS) | rw [getD_mapI (ByteArray.empty) (by omega)] | rw [getD_map (ByteArray.empty) (by omega)] | rw [wrapId (by omega) (by omega)] | fail)
  · trivial
  · rw [List.take_of_length_le (by omega)]; rfl
end Go.Proofs.YtepdiooaoegpfaaGreatDoor.Fx
end
section
/- A target by itself, both ways the same. Conditions: those in each statement. -/
namespace Go.Proofs.YtepdiooaoegpfaaGreatDoor.Fx
open Go Go.Proofs Go.Ev Go.RowKit
set_option linter.unusedSimpArgs false
set_option linter.unusedVariables false
theorem needsOk_and {p : ByteArray → Bool} : ∀ (l d : List ByteArray), needsOk p d l = (needsOk (fun _ => true) d l && l.all p)
  | [], _ => rfl
  | x :: r, d => by
    show (isName x && !hasS d x && p x && needsOk p (d ++ [x]) r) = (isName x && !hasS d x && true && needsOk (fun _ => true) (d ++ [x]) r && (p x && r.all p))
    rw [needsOk_and r (d ++ [x])]
    cases isName x <;> cases hasS d x <;> cases p x <;> cases needsOk (fun _ => true) (d ++ [x]) r <;> rfl
theorem nodeIn_bare (x : ByteArray) : nodeIn (bare x) = isName x := by
  unfold nodeIn bare
  simp only [List.length_nil, List.any_nil, beqS_self, cond_true]
  cases isName x <;> rfl
theorem rightN_bare (a : List ByteArray) (x : ByteArray) : rightN a (bare x) = (isName x && !hasS a x) := by
  unfold rightN
  rw [nodeIn_bare]
  show (isName x && !hasS a x && needsOk (hasS a) [] []) = _
  rw [show needsOk (hasS a) [] [] = true from rfl, Bool.and_true]
theorem targets_bare (l : List ByteArray) : targets (l.map bare) = l := by
  unfold targets; rw [List.map_map]
  exact (List.map_congr_left fun x _ => rfl).trans (List.map_id l)
theorem nodesOk_bare : ∀ (l a : List ByteArray), nodesOk a (l.map bare) = needsOk (fun _ => true) a l
  | [], _ => rfl
  | x :: r, a => by
    show (rightN a (bare x) && nodesOk (a ++ [x]) (r.map bare)) = _
    rw [rightN_bare, nodesOk_bare r]
    simp only [needsOk, Bool.and_true]
theorem nodesOk_app : ∀ (l m : List Node) (a : List ByteArray), nodesOk a (l ++ m) = (nodesOk a l && nodesOk (a ++ targets l) m)
  | [], m, a => by simp [nodesOk, targets]
  | n :: l, m, a => by
    show (rightN a n && nodesOk (a ++ [n.target]) (l ++ m)) = (rightN a n && nodesOk (a ++ [n.target]) l && nodesOk (a ++ n.target :: targets l) m)
    rw [nodesOk_app l m, Bool.and_assoc, List.append_assoc]; rfl
theorem all_has (l : List ByteArray) : l.all (hasS l) = true := by
  rw [List.all_eq_true]
  intro x hx
  exact List.any_eq_true.2 ⟨x, hx, beqS_self⟩
theorem all_not (l : List ByteArray) (t : ByteArray) : (l.all fun x => !beqS x t) = !hasS l t := by
  unfold hasS; rw [List.not_any_eq_all_not]
theorem aloneOk_eq (n : Node) : aloneOk n = nodeOk n := by
  unfold aloneOk planOk nodeOk
  rw [nodesOk_app, nodesOk_bare, targets_bare, needsOk_and (p := fun x => !beqS x n.target), all_not]
  have e1 : nodesOk ([] ++ n.needs) [n] = (nodeIn n && !hasS n.needs n.target && needsOk (fun _ => true) [] n.needs) := by
    show (rightN ([] ++ n.needs) n && true) = _
    rw [Bool.and_true, List.nil_append]
    unfold rightN
    rw [needsOk_and (p := hasS n.needs), all_has, Bool.and_true]
  have e2 : goalsOk (targets (n.needs.map bare ++ [n])) [] [n.target] = true := by
    have : hasS (targets (n.needs.map bare ++ [n])) n.target = true := by
      unfold targets hasS
      rw [List.map_append, List.any_append]
      simp [beqS_self]
    show (hasS (targets (n.needs.map bare ++ [n])) n.target && !hasS [] n.target && true) = true
    rw [this]; rfl
  rw [e1, e2]
  cases hn : nodeIn n with
  | false => simp
  | true =>
    have hl : n.needs.length ≤ 65 := (nodeIn_iff.1 hn).2.1
    have : decide ((n.needs.map bare ++ [n]).length ≤ 256) = true := decide_eq_true (by simp; omega)
    rw [this]
    simp only [List.length_cons, List.length_nil, Bool.true_and, Bool.and_true]
    cases needsOk (fun _ => true) [] n.needs <;> cases hasS n.needs n.target <;> rfl
end Go.Proofs.YtepdiooaoegpfaaGreatDoor.Fx
end
section
/- Whether a command may be done: the program and the document answer the same. Conditions: those in each statement. -/
namespace Go.Proofs.YtepdiooaoegpfaaGreatDoor.Fx
open Go Go.Proofs Go.Ev Go.RowKit
set_option maxRecDepth 100000
set_option maxHeartbeats 1600000
set_option linter.unusedSimpArgs false
set_option linter.unusedVariables false
theorem cmFiles_op {op : Int} {d : ByteArray} {s w : List ByteArray} {st : Int} (h : cmFiles ⟨op, d, s, w, st⟩ = true) : ((1 ≤ op ∧ op ≤ 5) → isName d = true) ∧ s.all isName = true := by
  simp only [cmFiles, Bool.and_eq_true, Bool.or_eq_true, Bool.not_eq_true', Bool.and_eq_false_iff, decide_eq_false_iff_not] at h
  exact ⟨fun q => by rcases h.1 with (g | g) | g; exact absurd q.1 g; exact absurd q.2 g; exact g, h.2⟩
/-- What is read as a command is a right one. -/
theorem parse_kind {ws : List ByteArray} (h : parseE ws = 0) : Kind (parseC ws) := by
  by_cases hl : 514 < ws.length
  · unfold parseE at h; rw [if_pos hl] at h; cases h
  cases ws with
  | nil => unfold parseE at h; cases h
  | cons w l =>
    simp only [List.length_cons] at hl
    have hE := parseE_of (w := w) (l := l) (by omega) rfl
    rw [h] at hE
    cases hm : manyOk (opFrom w 1 8) l.length with
    | false => rw [if_pos hm] at hE; cases hE
    | true =>
      rw [if_neg (by rw [hm]; simp)] at hE
      have hC := parseC_of (w := w) (l := l) rfl h
      rw [hC]
      have hf : opFrom w 1 8 ≠ 7 → cmFiles (cmOf (opFrom w 1 8) l) = true := fun h7 => by
        rw [if_neg (fun q => h7 q.1)] at hE
        cases hc : cmFiles (cmOf (opFrom w 1 8) l) with
        | true => rfl
        | false => rw [if_neg (by rw [hc]; simp)] at hE; cases hE
      rcases shapes hm with ⟨a, b, ho, rfl⟩ | ⟨d, src, ho, rfl, h1, h2⟩ | ⟨d, ws, ho, rfl, h2⟩ | ⟨d, ho, rfl⟩ | ⟨d, ho, rfl⟩ | ⟨s, ho, rfl⟩ | ⟨ho, rfl⟩ | ⟨s, ho, rfl⟩ | ⟨ho, h2⟩
      all_goals rw [ho] at hf hE ⊢
      · obtain ⟨q1, q2⟩ := cmFiles_op (op := 1) (d := b) (s := [a]) (w := []) (st := 0) (hf (by decide))
        exact .copy (by simpa using q2) (q1 (by decide))
      · obtain ⟨q1, q2⟩ := cmFiles_op (op := 2) (d := d) (s := src) (w := []) (st := 0) (hf (by decide))
        exact .concat (q1 (by decide)) h1 h2 q2
      · obtain ⟨q1, q2⟩ := cmFiles_op (op := 3) (d := d) (s := []) (w := ws) (st := 0) (hf (by decide))
        exact .echo (q1 (by decide)) h2
      · obtain ⟨q1, q2⟩ := cmFiles_op (op := 4) (d := d) (s := []) (w := []) (st := 0) (hf (by decide))
        exact .touch (q1 (by decide))
      · obtain ⟨q1, q2⟩ := cmFiles_op (op := 5) (d := d) (s := []) (w := []) (st := 0) (hf (by decide))
        exact .remove (q1 (by decide))
      · obtain ⟨q1, q2⟩ := cmFiles_op (op := 6) (d := ⟨#[]⟩) (s := [s]) (w := []) (st := 0) (hf (by decide))
        exact .test (by simpa using q2)
      · exact .fail (n := 1) (by decide) (by decide)
      · have hz : failN s ≠ 0 := fun q => by
          have hq : (cmOf 7 [s]).st = 0 := q
          rw [if_pos ⟨rfl, hq⟩] at hE; cases hE
        obtain ⟨v, v1, v2, rfl⟩ := fail_stat s hz
        have hv := failN_dl v v1 v2
        have hK : Kind ⟨7, ⟨#[]⟩, [], [], failN ⟨(dl v).toArray⟩⟩ := by rw [hv]; exact .fail (by omega) (by omega)
        exact hK
      · exact .say h2
theorem line_kind {t : ByteArray} (h : lineE t = 0) : Kind (lineC t) := by
  by_cases hw : wordsE t = 0
  · obtain ⟨h1, h2⟩ := line_good hw
    rw [h1] at h; rw [h2]; exact parse_kind h
  · unfold lineE at h; rw [if_neg hw] at h; exact absurd h hw
theorem uniq_all {p : ByteArray → Bool} : ∀ (l out : List ByteArray), (uniqGo out l).all p = (out.all p && l.all p)
  | [], out => by simp [uniqGo]
  | x :: r, out => by
    rw [uniqGo]
    split
    · rename_i h
      rw [uniq_all r out, List.all_cons]
      cases ho : out.all p with
      | false => rfl
      | true =>
        obtain ⟨y, hy, e⟩ := List.any_eq_true.1 h
        obtain rfl := beqS_iff.1 e
        rw [List.all_eq_true.1 ho _ hy]; simp
    · rw [uniq_all r, List.all_append, List.all_cons, List.all_cons, List.all_nil, Bool.and_true, Bool.and_assoc]
theorem reads_all {c : Cm} {p : ByteArray → Bool} : (readsOf c).all p = c.src.all p := by
  unfold readsOf; split
  · rw [uniq_all]; rfl
  · rfl
theorem uniq_len : ∀ (l out : List ByteArray), (uniqGo out l).length ≤ out.length + l.length
  | [], out => by simp [uniqGo]
  | x :: r, out => by
    rw [uniqGo]
    split
    · have := uniq_len r out; simp only [List.length_cons]; omega
    · have := uniq_len r (out ++ [x]); simp only [List.length_cons, List.length_append, List.length_nil] at this ⊢; omega
theorem kind_src {c : Cm} (h : Kind c) : c.src.length ≤ 64 := by cases h <;> first | (simp; done) | assumption | (simp; omega)
theorem kind_reads {c : Cm} (h : Kind c) : (readsOf c).length ≤ 64 := by
  have := kind_src h
  unfold readsOf; split
  · have := uniq_len c.src []; simp only [List.length_nil] at this; omega
  · exact this
theorem kind_dst {c : Cm} (h : Kind c) : (beqS c.dst ⟨#[]⟩ = !wrOf c) := by
  have ne : ∀ d : ByteArray, isName d = true → beqS d ⟨#[]⟩ = false := fun d hd => by
    rw [beqS_no]; rintro rfl; unfold isName at hd; simp only [Bool.and_eq_true, decide_eq_true_eq] at hd; exact absurd hd.1.1 (by decide)
  cases h <;> first | (rw [ne _ (by assumption)]; rfl) | rfl | (exact beqS_self)
/-- What stands against a command; 0: nothing. -/
def mayOf (n : Node) (c : Cm) (e : Int) : Int := if e = 0 then if (c.src.all (hasS n.needs)) = true ∧ (wrOf c = true → c.dst = n.target) then 0 else 170 else e
theorem may_no {n : Node} {c : Cm} {e : Int} (he : e = 0) (h : c.src.all (hasS n.needs) = false) : mayOf n c e = 170 := by
  unfold mayOf; rw [if_pos he, if_neg (by rw [h]; simp)]
theorem may_dst {n : Node} {c : Cm} {e : Int} (he : e = 0) (h1 : wrOf c = true) (h2 : ¬ c.dst = n.target) : mayOf n c e = 170 := by
  unfold mayOf; rw [if_pos he, if_neg (fun q => h2 (q.2 h1))]
theorem may_yes {n : Node} {c : Cm} {e : Int} (he : e = 0) (h : c.src.all (hasS n.needs) = true) (h2 : wrOf c = true → c.dst = n.target) : mayOf n c e = 0 := by
  unfold mayOf; rw [if_pos he, if_pos ⟨h, h2⟩]
theorem leq_may {c : Cm} {e e' : Int} (h : e = e') : LeqD (.tup [c.av, i64 e]) (.tup [c.av, i64 e']) := h ▸ LeqD.refl _
theorem may_gen {n : Node} {t : ByteArray} {c : Cm} {e : Int} (hn : n.needs.length ≤ 1000000000) (hL : XPure Tryz.prog 44 [str t] (.tup [c.av, i64 e]) false) (hk : e = 0 → Kind c) :
    XPure Tryz.prog 29 [eN n, str t] (.tup [c.av, i64 (mayOf n c e)]) false := by
  refine XPure.bodyN ⟨_, Tryz.func29, rfl, by kernel_rfl⟩ Tryz.func29 rfl (Nat.le_of_ble_eq_true (by rfl)) (pf_of1 rfl) fun env => ?_
  repeat' ((conv => whnf); (fail_if_success (with_reducible show LeqD _ _)); (fail_if_success (with_reducible show ∃ _, _ ∧ _ ∧ Weak _ _ _)); first | ((with_reducible show guardA _ _ _ _ _ _ ∨ _); first | (refine .inr ?_; (conv => whnf); refine ⟨_, ?_, fun h => rfl, rfl, ?_⟩; ((conv => whnf); first | exact trivial | (refine ⟨?_, trivial⟩; exact okG))) | (refine .inr ?_; (conv => whnf); refine ⟨_, trivial, fun h => ⟨?_, ?_, ?_, rfl⟩, rfl, ?_⟩; (first | exact h | rfl); exact okG; exact okG) | refine .inl ?_) | refine cY ?_ | refine cN ?_ | refine gA ?_ | refine gB ?_ | refine gC ?_ | ((first | refine gsT (fun h => ?_) (fun h => ?_) | refine gsF (fun h => ?_) (fun h => ?_) | refine ⟨fun h => ?_, fun h => ?_⟩) <;> (have hs := h; try simp only [cs, reduceCtorEq, Int.reduceEq, Int.reduceNe, Int.reduceLT, Int.reduceLE, Int.reduceBEq, Int.reduceBNe] at hs)) | (refine .inl ⟨_, _, hL, ?_⟩) | (refine .inl ⟨_, _, c_Reads (hk (by assumption)), ?_⟩) | ((with_reducible show _ ∧ _ ∧ Weak _ _ _); refine ⟨?_, ?_, Weak.go⟩; (omega)) | ((with_reducible show (_ ∧ _ ∧ _) ∧ _); refine ⟨⟨by kernel_rfl, by kernel_rfl, by rfl⟩, ?_⟩) | ((with_reducible show AV.pf _ = true ∧ _); refine pfA ?_) | (refine ⟨rfl, ?_, ?_, ?_⟩; exact okG; exact okG) | ((with_reducible show (_ ∨ _) ∧ _ ∧ retA _ _ _ _ _); refine ⟨?_, rfl, ?_⟩; (first | exact .inr rfl | exact .inl rfl)) | ((with_reducible show _ = _ ∧ _ = false ∧ _ = _); refine ⟨?_, rfl, rfl⟩; try (first | rfl | (conv => lhs; whnf))) | ((with_reducible show _ = _ ∧ (_ → _)); refine ⟨?_, ?_⟩; try (first | rfl | (conv => lhs; whnf))) | exact fun h => h | exact fun _ => rfl | refine ⟨rfl, ?_⟩ | (refine ⟨Nat.le_of_ble_eq_true rfl, ?_⟩) | (refine ⟨?_, ?_, ?_⟩; exact okS; exact okS) | (refine ⟨?_, ?_⟩; exact okS) | fail)
  · refine leq_may ?_
    unfold mayOf; rw [if_neg hs]
  have he : e = 0 := hs
  have hK := hk he
  have hrl := kind_reads hK
  refine XW.countL (readsOf c).length [2, 4, 6, 29, 30] (fun i => [(31, i64 i)]) (fun _ => []) (fun i => [.cells (eN n).leaves [], .cells [i64 0, str .empty, nilv, nilv, i64 0] [], .cells c.av.leaves []]) (fun i => (readsOf c).all (hasS n.needs) = ((readsOf c).drop i).all (hasS n.needs)) Weak.go rfl ?_
  intro i hi hA
  refine codeS ?_
  repeat' ((conv => whnf); (fail_if_success (with_reducible show LeqD _ _)); (fail_if_success (with_reducible show ∃ _, _ ∧ _ ∧ Weak _ _ _)); first | ((with_reducible show guardA _ _ _ _ _ _ ∨ _); first | (refine .inr ?_; (conv => whnf); refine ⟨_, ?_, fun h => rfl, rfl, ?_⟩; ((conv => whnf); first | exact trivial | (refine ⟨?_, trivial⟩; exact okG))) | (refine .inr ?_; (conv => whnf); refine ⟨_, trivial, fun h => ⟨?_, ?_, ?_, rfl⟩, rfl, ?_⟩; (first | exact h | rfl); exact okG; exact okG) | refine .inl ?_) | refine cY ?_ | refine cN ?_ | refine gA ?_ | refine gB ?_ | refine gC ?_ | ((first | refine gsT (fun h => ?_) (fun h => ?_) | refine gsF (fun h => ?_) (fun h => ?_) | refine ⟨fun h => ?_, fun h => ?_⟩) <;> (have hs := h; try simp only [cs, reduceCtorEq, Int.reduceEq, Int.reduceNe, Int.reduceLT, Int.reduceLE, Int.reduceBEq, Int.reduceBNe] at hs)) | (refine .inl ⟨_, _, c_Contains hn, ?_⟩) | (refine .inl ⟨_, _, c_Writes hK, ?_⟩) | ((with_reducible show _ ∧ _ ∧ Weak _ _ _); refine ⟨?_, ?_, Weak.go⟩; (omega)) | ((with_reducible show (_ ∧ _ ∧ _) ∧ _); refine ⟨⟨by kernel_rfl, by kernel_rfl, by rfl⟩, ?_⟩) | ((with_reducible show AV.pf _ = true ∧ _); refine pfA ?_) | (refine ⟨rfl, ?_, ?_, ?_⟩; exact okG; exact okG) | ((with_reducible show (_ ∨ _) ∧ _ ∧ retA _ _ _ _ _); refine ⟨?_, rfl, ?_⟩; (first | exact .inr rfl | exact .inl rfl)) | ((with_reducible show _ = _ ∧ _ = false ∧ _ = _); refine ⟨?_, rfl, rfl⟩; try (first | rfl | (conv => lhs; whnf))) | ((with_reducible show _ = _ ∧ (_ → _)); refine ⟨?_, ?_⟩; try (first | rfl | (conv => lhs; whnf))) | exact fun h => h | exact fun _ => rfl | refine ⟨rfl, ?_⟩ | (refine ⟨Nat.le_of_ble_eq_true rfl, ?_⟩) | (refine ⟨?_, ?_, ?_⟩; exact okS; exact okS) | (refine ⟨?_, ?_⟩; exact okS) | rw [getD_mapI (ByteArray.empty) (by omega)] | rw [getD_map (ByteArray.empty) (by omega)] | rw [wrapId (by omega) (by omega)] | fail)
  · exact leq_may (c := c) (may_no he (reads_all.symm.trans (hA.trans (allL_no .empty (by assumption) hs)))).symm
  · exact hA.trans (allL_yes .empty (by assumption) hs)
  all_goals have hall : c.src.all (hasS n.needs) = true := reads_all.symm.trans (hA.trans (allL_end (by assumption)))
  · exact leq_may (c := c) (may_dst he hs.1 hs.2).symm
  · exact leq_may (c := c) (may_yes he hall (fun q => hs.resolve_left (by rw [q]; simp))).symm
  · exact leq_may (c := c) (may_yes he hall (fun q => by rw [hs] at q; cases q)).symm
theorem ref_may_gen {n : Node} {t : ByteArray} {c : Cm} {e : Int} (hn : n.needs.length ≤ 1000000000) (hL : XPure Tryz.prog 62 [str t] (.tup [c.av, i64 e]) false) (hk : e = 0 → Kind c) :
    XPure Tryz.prog 37 [eN n, str t] (.tup [c.av, i64 (mayOf n c e)]) false := by
  refine XPure.bodyN ⟨_, Tryz.func37, rfl, by kernel_rfl⟩ Tryz.func37 rfl (Nat.le_of_ble_eq_true (by rfl)) (pf_of1 rfl) fun env => ?_
  repeat' ((conv => whnf); (fail_if_success (with_reducible show LeqD _ _)); (fail_if_success (with_reducible show ∃ _, _ ∧ _ ∧ Weak _ _ _)); first | ((with_reducible show guardA _ _ _ _ _ _ ∨ _); first | (refine .inr ?_; (conv => whnf); refine ⟨_, ?_, fun h => rfl, rfl, ?_⟩; ((conv => whnf); first | exact trivial | (refine ⟨?_, trivial⟩; exact okG))) | (refine .inr ?_; (conv => whnf); refine ⟨_, trivial, fun h => ⟨?_, ?_, ?_, rfl⟩, rfl, ?_⟩; (first | exact h | rfl); exact okG; exact okG) | refine .inl ?_) | refine cY ?_ | refine cN ?_ | refine gA ?_ | refine gB ?_ | refine gC ?_ | ((first | refine gsT (fun h => ?_) (fun h => ?_) | refine gsF (fun h => ?_) (fun h => ?_) | refine ⟨fun h => ?_, fun h => ?_⟩) <;> (have hs := h; try simp only [cs, reduceCtorEq, Int.reduceEq, Int.reduceNe, Int.reduceLT, Int.reduceLE, Int.reduceBEq, Int.reduceBNe] at hs)) | (refine .inl ⟨_, _, hL, ?_⟩) | ((with_reducible show _ ∧ _ ∧ Weak _ _ _); refine ⟨?_, ?_, Weak.go⟩; (omega)) | ((with_reducible show (_ ∧ _ ∧ _) ∧ _); refine ⟨⟨by kernel_rfl, by kernel_rfl, by rfl⟩, ?_⟩) | ((with_reducible show AV.pf _ = true ∧ _); refine pfA ?_) | (refine ⟨rfl, ?_, ?_, ?_⟩; exact okG; exact okG) | ((with_reducible show (_ ∨ _) ∧ _ ∧ retA _ _ _ _ _); refine ⟨?_, rfl, ?_⟩; (first | exact .inr rfl | exact .inl rfl)) | ((with_reducible show _ = _ ∧ _ = false ∧ _ = _); refine ⟨?_, rfl, rfl⟩; try (first | rfl | (conv => lhs; whnf))) | ((with_reducible show _ = _ ∧ (_ → _)); refine ⟨?_, ?_⟩; try (first | rfl | (conv => lhs; whnf))) | exact fun h => h | exact fun _ => rfl | refine ⟨rfl, ?_⟩ | (refine ⟨Nat.le_of_ble_eq_true rfl, ?_⟩) | (refine ⟨?_, ?_, ?_⟩; exact okS; exact okS) | (refine ⟨?_, ?_⟩; exact okS) | fail)
  · refine leq_may ?_
    unfold mayOf; rw [if_neg hs]
  have he : e = 0 := hs
  have hK := hk he
  have hrl := kind_src hK
  have hd := kind_dst hK
  refine XW.countL c.src.length [2, 4, 6, 20, 21] (fun i => [(22, i64 i)]) (fun _ => []) (fun i => [.cells (eN n).leaves [], .cells [i64 0, str .empty, nilv, nilv, i64 0] [], .cells c.av.leaves []]) (fun i => c.src.all (hasS n.needs) = (c.src.drop i).all (hasS n.needs)) Weak.go rfl ?_
  intro i hi hA
  refine codeS ?_
  repeat' ((conv => whnf); (fail_if_success (with_reducible show LeqD _ _)); (fail_if_success (with_reducible show ∃ _, _ ∧ _ ∧ Weak _ _ _)); first | ((with_reducible show guardA _ _ _ _ _ _ ∨ _); first | (refine .inr ?_; (conv => whnf); refine ⟨_, ?_, fun h => rfl, rfl, ?_⟩; ((conv => whnf); first | exact trivial | (refine ⟨?_, trivial⟩; exact okG))) | (refine .inr ?_; (conv => whnf); refine ⟨_, trivial, fun h => ⟨?_, ?_, ?_, rfl⟩, rfl, ?_⟩; (first | exact h | rfl); exact okG; exact okG) | refine .inl ?_) | refine cY ?_ | refine cN ?_ | refine gA ?_ | refine gB ?_ | refine gC ?_ | ((first | refine gsT (fun h => ?_) (fun h => ?_) | refine gsF (fun h => ?_) (fun h => ?_) | refine ⟨fun h => ?_, fun h => ?_⟩) <;> (have hs := h; try simp only [cs, reduceCtorEq, Int.reduceEq, Int.reduceNe, Int.reduceLT, Int.reduceLE, Int.reduceBEq, Int.reduceBNe] at hs)) | (refine .inl ⟨_, _, c_ref03_Has hn, ?_⟩) | ((with_reducible show _ ∧ _ ∧ Weak _ _ _); refine ⟨?_, ?_, Weak.go⟩; (omega)) | ((with_reducible show (_ ∧ _ ∧ _) ∧ _); refine ⟨⟨by kernel_rfl, by kernel_rfl, by rfl⟩, ?_⟩) | ((with_reducible show AV.pf _ = true ∧ _); refine pfA ?_) | (refine ⟨rfl, ?_, ?_, ?_⟩; exact okG; exact okG) | ((with_reducible show (_ ∨ _) ∧ _ ∧ retA _ _ _ _ _); refine ⟨?_, rfl, ?_⟩; (first | exact .inr rfl | exact .inl rfl)) | ((with_reducible show _ = _ ∧ _ = false ∧ _ = _); refine ⟨?_, rfl, rfl⟩; try (first | rfl | (conv => lhs; whnf))) | ((with_reducible show _ = _ ∧ (_ → _)); refine ⟨?_, ?_⟩; try (first | rfl | (conv => lhs; whnf))) | exact fun h => h | exact fun _ => rfl | refine ⟨rfl, ?_⟩ | (refine ⟨Nat.le_of_ble_eq_true rfl, ?_⟩) | (refine ⟨?_, ?_, ?_⟩; exact okS; exact okS) | (refine ⟨?_, ?_⟩; exact okS) | rw [getD_mapI (ByteArray.empty) (by omega)] | rw [getD_map (ByteArray.empty) (by omega)] | rw [wrapId (by omega) (by omega)] | fail)
  · exact leq_may (c := c) (may_no he (hA.trans (allL_no .empty (by assumption) hs))).symm
  · exact hA.trans (allL_yes .empty (by assumption) hs)
  all_goals have hall : c.src.all (hasS n.needs) = true := hA.trans (allL_end (by assumption))
  · have w1 : (!wrOf c) = false := hd.symm.trans (beqS_no.2 hs.1)
    exact leq_may (c := c) (may_dst he (by simpa using w1) hs.2).symm
  · exact leq_may (c := c) (may_yes he hall (fun q => hs.resolve_left ‹¬ c.dst = ByteArray.empty›)).symm
  · have w1 : (!wrOf c) = true := hd.symm.trans (beqS_iff.2 hs)
    exact leq_may (c := c) (may_yes he hall (fun q => by rw [q] at w1; cases w1)).symm
@[irreducible] def mayX (n : Node) (t : ByteArray) : Int := mayOf n (lineC t) (lineE t)
theorem c_exec_may {n : Node} {t : ByteArray} (hn : n.needs.length ≤ 1000000000) : XPure Tryz.prog 29 [eN n, str t] (.tup [(lineC t).av, i64 (mayX n t)]) false := by
  unfold mayX; exact may_gen hn c_cmd_Line line_kind
theorem c_ref17_may {n : Node} {t : ByteArray} (hn : n.needs.length ≤ 1000000000) : XPure Tryz.prog 37 [eN n, str t] (.tup [(lineC t).av, i64 (mayX n t)]) false := by
  unfold mayX; exact ref_may_gen hn c_ref16_Line line_kind
@[irreducible] def mayL (n : Node) (t : ByteArray) : Int := if nodeOk n = false then 7 else if 65536 < t.size then 2 else mayX n t
theorem errIf_not {b : Bool} {k : Int} (h : ¬ errIf b k = 0) : b = false ∧ errIf b k = k := by
  cases b with
  | false => exact ⟨rfl, rfl⟩
  | true => exact absurd rfl h
theorem errIf_yes {b : Bool} {k : Int} (hk : k ≠ 0) (h : errIf b k = 0) : b = true := by
  cases b with
  | false => exact absurd h hk
  | true => rfl
theorem c_exec_May {n : Node} {t : ByteArray} (hz : SzN n) : XPure Tryz.prog 19 [eN n, str t] (i64 (mayL n t)) false := by
  have hA := c_alone hz
  rw [aloneOk_eq] at hA
  refine XPure.body ⟨_, Tryz.func19, rfl, by kernel_rfl⟩ Tryz.func19 rfl (Nat.le_of_ble_eq_true (by rfl)) (pf_of1 rfl) fun env => ?_
  repeat' ((conv => whnf); (fail_if_success (with_reducible show ∃ _, _ ∧ _ ∧ Weak _ _ _)); first | ((with_reducible show guardA _ _ _ _ _ _ ∨ _); first | (refine .inr ?_; (conv => whnf); refine ⟨_, ?_, fun h => rfl, rfl, ?_⟩; ((conv => whnf); first | exact trivial | (refine ⟨?_, trivial⟩; exact okG))) | (refine .inr ?_; (conv => whnf); refine ⟨_, trivial, fun h => ⟨?_, ?_, ?_, rfl⟩, rfl, ?_⟩; (first | exact h | rfl); exact okG; exact okG) | refine .inl ?_) | refine cY ?_ | refine cN ?_ | refine gA ?_ | refine gB ?_ | refine gC ?_ | ((first | refine gsT (fun h => ?_) (fun h => ?_) | refine gsF (fun h => ?_) (fun h => ?_) | refine ⟨fun h => ?_, fun h => ?_⟩) <;> (have hs := h; try simp only [cs, reduceCtorEq, Int.reduceEq, Int.reduceNe, Int.reduceLT, Int.reduceLE, Int.reduceBEq, Int.reduceBNe] at hs)) | (refine .inl ⟨_, _, hA, ?_⟩) | (refine .inl ⟨_, _, c_exec_may hz.needs.1, ?_⟩) | ((with_reducible show _ ∧ _ ∧ Weak _ _ _); refine ⟨?_, ?_, Weak.go⟩; (omega)) | ((with_reducible show (_ ∧ _ ∧ _) ∧ _); refine ⟨⟨by kernel_rfl, by kernel_rfl, by rfl⟩, ?_⟩) | ((with_reducible show AV.pf _ = true ∧ _); refine pfA ?_) | (refine ⟨rfl, ?_, ?_, ?_⟩; exact okG; exact okG) | ((with_reducible show (_ ∨ _) ∧ _ ∧ retA _ _ _ _ _); refine ⟨?_, rfl, ?_⟩; (first | exact .inr rfl | exact .inl rfl)) | ((with_reducible show _ = _ ∧ _ = false ∧ _ = _); refine ⟨?_, rfl, rfl⟩; try (first | rfl | (conv => lhs; whnf))) | ((with_reducible show LeqD _ _); try (first | exact okN | (first | rfl | (conv => lhs; whnf))); done) | ((with_reducible show _ = _ ∧ (_ → _)); refine ⟨?_, ?_⟩; try (first | rfl | (conv => lhs; whnf))) | exact fun h => h | exact fun _ => rfl | refine ⟨rfl, ?_⟩ | (refine ⟨Nat.le_of_ble_eq_true rfl, ?_⟩) | (refine ⟨?_, ?_, ?_⟩; exact okS; exact okS) | (refine ⟨?_, ?_⟩; exact okS) | fail)
  · obtain ⟨h1, h2⟩ := errIf_not hs
    rw [h2]; unfold mayL; rw [if_pos h1]
  · have hb : nodeOk n = true := errIf_yes (k := 7) (by decide) (by assumption)
    unfold mayL; rw [if_neg (by rw [hb]; simp), if_pos (by omega)]
  · have hb : nodeOk n = true := errIf_yes (k := 7) (by decide) (by assumption)
    unfold mayL; rw [if_neg (by rw [hb]; simp), if_neg (by omega)]
theorem c_ref17_May {n : Node} {t : ByteArray} (hz : SzN n) : XPure Tryz.prog 20 [eN n, str t] (i64 (mayL n t)) false := by
  refine XPure.body ⟨_, Tryz.func20, rfl, by kernel_rfl⟩ Tryz.func20 rfl (Nat.le_of_ble_eq_true (by rfl)) (pf_of1 rfl) fun env => ?_
  repeat' ((conv => whnf); (fail_if_success (with_reducible show ∃ _, _ ∧ _ ∧ Weak _ _ _)); first | ((with_reducible show guardA _ _ _ _ _ _ ∨ _); first | (refine .inr ?_; (conv => whnf); refine ⟨_, ?_, fun h => rfl, rfl, ?_⟩; ((conv => whnf); first | exact trivial | (refine ⟨?_, trivial⟩; exact okG))) | (refine .inr ?_; (conv => whnf); refine ⟨_, trivial, fun h => ⟨?_, ?_, ?_, rfl⟩, rfl, ?_⟩; (first | exact h | rfl); exact okG; exact okG) | refine .inl ?_) | refine cY ?_ | refine cN ?_ | refine gA ?_ | refine gB ?_ | refine gC ?_ | ((first | refine gsT (fun h => ?_) (fun h => ?_) | refine gsF (fun h => ?_) (fun h => ?_) | refine ⟨fun h => ?_, fun h => ?_⟩) <;> (have hs := h; try simp only [cs, reduceCtorEq, Int.reduceEq, Int.reduceNe, Int.reduceLT, Int.reduceLE, Int.reduceBEq, Int.reduceBNe] at hs)) | (refine .inl ⟨_, _, c_ref12_Node hz, ?_⟩) | (refine .inl ⟨_, _, c_ref17_may hz.needs.1, ?_⟩) | ((with_reducible show _ ∧ _ ∧ Weak _ _ _); refine ⟨?_, ?_, Weak.go⟩; (omega)) | ((with_reducible show (_ ∧ _ ∧ _) ∧ _); refine ⟨⟨by kernel_rfl, by kernel_rfl, by rfl⟩, ?_⟩) | ((with_reducible show AV.pf _ = true ∧ _); refine pfA ?_) | (refine ⟨rfl, ?_, ?_, ?_⟩; exact okG; exact okG) | ((with_reducible show (_ ∨ _) ∧ _ ∧ retA _ _ _ _ _); refine ⟨?_, rfl, ?_⟩; (first | exact .inr rfl | exact .inl rfl)) | ((with_reducible show _ = _ ∧ _ = false ∧ _ = _); refine ⟨?_, rfl, rfl⟩; try (first | rfl | (conv => lhs; whnf))) | ((with_reducible show LeqD _ _); try (first | exact okN | (first | rfl | (conv => lhs; whnf))); done) | ((with_reducible show _ = _ ∧ (_ → _)); refine ⟨?_, ?_⟩; try (first | rfl | (conv => lhs; whnf))) | exact fun h => h | exact fun _ => rfl | refine ⟨rfl, ?_⟩ | (refine ⟨Nat.le_of_ble_eq_true rfl, ?_⟩) | (refine ⟨?_, ?_, ?_⟩; exact okS; exact okS) | (refine ⟨?_, ?_⟩; exact okS) | fail)
  · obtain ⟨h1, h2⟩ := errIf_not hs
    rw [h2]; unfold mayL; rw [if_pos h1]
  · have hb : nodeOk n = true := errIf_yes (k := 7) (by decide) (by assumption)
    unfold mayL; rw [if_neg (by rw [hb]; simp), if_pos (by omega)]
  · have hb : nodeOk n = true := errIf_yes (k := 7) (by decide) (by assumption)
    unfold mayL; rw [if_neg (by rw [hb]; simp), if_neg (by omega)]
end Go.Proofs.YtepdiooaoegpfaaGreatDoor.Fx
end
section
/- A copying command: what it reads and writes. Conditions: those in each statement. -/
namespace Go.Proofs.YtepdiooaoegpfaaGreatDoor.Fx
open Go Go.Proofs Go.Ev Go.RowKit
set_option maxRecDepth 100000
set_option maxHeartbeats 1600000
set_option linter.unusedSimpArgs false
set_option linter.unusedVariables false
theorem c_Line_copy {t a b : ByteArray} (hV : wordsV t = [copyW, a, b]) (hE : wordsE t = 0) (ha : isName a = true) (hb : isName b = true) : XPure Tryz.prog 44 [str t] (.tup [eC 1 b [a] [] 0, i64 0]) false := by
  have hW : XPure Tryz.prog 66 [str t] (.tup [eS [copyW, a, b], i64 0]) false := by
    have h := c_lex_Words (s := t)
    rwa [hV, hE] at h
  refine XPure.body ⟨_, Tryz.func44, rfl, by kernel_rfl⟩ Tryz.func44 rfl (Nat.le_of_ble_eq_true (by rfl)) (pf_of1 rfl) fun env => ?_
  repeat' ((conv => whnf); (fail_if_success (with_reducible show ∃ _, _ ∧ _ ∧ Weak _ _ _)); first | ((with_reducible show guardA _ _ _ _ _ _ ∨ _); first | (refine .inr ?_; (conv => whnf); refine ⟨_, ?_, fun h => rfl, rfl, ?_⟩; ((conv => whnf); first | exact trivial | (refine ⟨?_, trivial⟩; exact okG))) | (refine .inr ?_; (conv => whnf); refine ⟨_, trivial, fun h => ⟨?_, ?_, ?_, rfl⟩, rfl, ?_⟩; (first | exact h | rfl); exact okG; exact okG) | refine .inl ?_) | refine cY ?_ (by first | (with_reducible first | rfl | assumption) | decide) | refine cN ?_ (by first | (with_reducible first | rfl | assumption) | decide) | refine gA ?_ (by first | (with_reducible first | rfl | assumption) | decide) | refine gB ?_ (by first | (with_reducible first | rfl | assumption) | decide) | refine gC ?_ (by first | (with_reducible first | rfl | assumption) | decide) | ((first | refine gsT (fun h => ?_) (fun h => ?_) | refine gsF (fun h => ?_) (fun h => ?_) | refine ⟨fun h => ?_, fun h => ?_⟩) <;> (have hs := h; try simp only [cs, reduceCtorEq, Int.reduceEq, Int.reduceNe, Int.reduceLT, Int.reduceLE, Int.reduceBEq, Int.reduceBNe] at hs)) | (refine .inl ⟨_, _, hW, ?_⟩) | (refine .inl ⟨_, _, c_Parse_copy ha hb, ?_⟩) | ((with_reducible show _ ∧ _ ∧ Weak _ _ _); refine ⟨?_, ?_, Weak.go⟩; (omega)) | ((with_reducible show (_ ∧ _ ∧ _) ∧ _); refine ⟨⟨by kernel_rfl, by kernel_rfl, by rfl⟩, ?_⟩) | ((with_reducible show AV.pf _ = true ∧ _); refine pfA ?_) | (refine ⟨rfl, ?_, ?_, ?_⟩; exact okG; exact okG) | ((with_reducible show (_ ∨ _) ∧ _ ∧ retA _ _ _ _ _); refine ⟨?_, rfl, ?_⟩; (first | exact .inr rfl | exact .inl rfl)) | ((with_reducible show _ = _ ∧ _ = false ∧ _ = _); refine ⟨?_, rfl, rfl⟩; try (first | rfl | (conv => lhs; whnf))) | ((with_reducible show LeqD _ _); try (first | exact okN | (first | rfl | (conv => lhs; whnf))); done) | ((with_reducible show _ = _ ∧ (_ → _)); refine ⟨?_, ?_⟩; try (first | rfl | (conv => lhs; whnf))) | exact fun h => h | exact fun _ => rfl | refine ⟨rfl, ?_⟩ | (refine ⟨Nat.le_of_ble_eq_true rfl, ?_⟩) | (refine ⟨?_, ?_, ?_⟩; exact okS; exact okS) | (refine ⟨?_, ?_⟩; exact okS) | rw [wrapId (by omega) (by omega)] | fail)
theorem c_of_copy {a b : ByteArray} : XPure Tryz.prog 76 [eC 1 b [a] [] 0] (.tup [.ifc 155 (.agg [str a, str b]), i64 0]) false := by
  refine XPure.body ⟨_, Tryz.func76, rfl, by kernel_rfl⟩ Tryz.func76 rfl (Nat.le_of_ble_eq_true (by rfl)) (pf_of1 rfl) fun env => ?_
  repeat' ((conv => whnf); (fail_if_success (with_reducible show ∃ _, _ ∧ _ ∧ Weak _ _ _)); first | ((with_reducible show guardA _ _ _ _ _ _ ∨ _); first | (refine .inr ?_; (conv => whnf); refine ⟨_, ?_, fun h => rfl, rfl, ?_⟩; ((conv => whnf); first | exact trivial | (refine ⟨?_, trivial⟩; exact okG))) | (refine .inr ?_; (conv => whnf); refine ⟨_, trivial, fun h => ⟨?_, ?_, ?_, rfl⟩, rfl, ?_⟩; (first | exact h | rfl); exact okG; exact okG) | refine .inl ?_) | refine cY ?_ (by first | (with_reducible first | rfl | assumption) | grind [beqS_self]) | refine cN ?_ (by first | (with_reducible first | rfl | assumption) | grind [beqS_self]) | refine gA ?_ (by first | (with_reducible first | rfl | assumption) | grind [beqS_self]) | refine gB ?_ (by first | (with_reducible first | rfl | assumption) | grind [beqS_self]) | refine gC ?_ (by first | (with_reducible first | rfl | assumption) | grind [beqS_self]) | ((first | refine gsT (fun h => ?_) (fun h => ?_) | refine gsF (fun h => ?_) (fun h => ?_) | refine ⟨fun h => ?_, fun h => ?_⟩) <;> (have hs := h; try simp only [cs, reduceCtorEq, Int.reduceEq, Int.reduceNe, Int.reduceLT, Int.reduceLE, Int.reduceBEq, Int.reduceBNe] at hs)) | ((with_reducible show _ ∧ _ ∧ Weak _ _ _); refine ⟨?_, ?_, Weak.go⟩; (omega)) | ((with_reducible show (_ ∧ _ ∧ _) ∧ _); refine ⟨⟨by kernel_rfl, by kernel_rfl, by rfl⟩, ?_⟩) | ((with_reducible show AV.pf _ = true ∧ _); refine pfA ?_) | (refine ⟨rfl, ?_, ?_, ?_⟩; exact okG; exact okG) | ((with_reducible show (_ ∨ _) ∧ _ ∧ retA _ _ _ _ _); refine ⟨?_, rfl, ?_⟩; (first | exact .inr rfl | exact .inl rfl)) | ((with_reducible show _ = _ ∧ _ = false ∧ _ = _); refine ⟨?_, rfl, rfl⟩; try (first | rfl | (conv => lhs; whnf))) | ((with_reducible show LeqD _ _); try (first | exact okN | (first | rfl | (conv => lhs; whnf))); done) | ((with_reducible show _ = _ ∧ (_ → _)); refine ⟨?_, ?_⟩; try (first | rfl | (conv => lhs; whnf))) | exact fun h => h | exact fun _ => rfl | refine ⟨rfl, ?_⟩ | (refine ⟨Nat.le_of_ble_eq_true rfl, ?_⟩) | (refine ⟨?_, ?_, ?_⟩; exact okS; exact okS) | (refine ⟨?_, ?_⟩; exact okS) | rw [wrapId (by omega) (by omega)] | fail)
theorem c_told_copy {a b : ByteArray} (ha : isName a = true) (hb : isName b = true) : XPure Tryz.prog 54 [eC 1 b [a] [] 0] (.tup [.ifc 155 (.agg [str a, str b]), i64 0]) false := by
  have hsz : ∀ x : ByteArray, isName x = true → x.size ≤ 140737488355328 := fun x h => by
    unfold isName at h; simp only [Bool.and_eq_true, decide_eq_true_eq] at h; omega
  have hR : XPure Tryz.prog 171 [.agg [str a, str b]] (i64 0) false := by
    have h := c_copying_right (hsz a ha) (hsz b hb)
    rwa [show errIf ([b, a].all isName) 3 = 0 from by simp [errIf, ha, hb]] at h
  refine XPure.body ⟨_, Tryz.func54, rfl, by kernel_rfl⟩ Tryz.func54 rfl (Nat.le_of_ble_eq_true (by rfl)) (pf_of1 rfl) fun env => ?_
  repeat' ((conv => whnf); (fail_if_success (with_reducible show ∃ _, _ ∧ _ ∧ Weak _ _ _)); first | ((with_reducible show guardA _ _ _ _ _ _ ∨ _); first | (refine .inr ?_; (conv => whnf); refine ⟨_, ?_, fun h => rfl, rfl, ?_⟩; ((conv => whnf); first | exact trivial | (refine ⟨?_, trivial⟩; exact okG))) | (refine .inr ?_; (conv => whnf); refine ⟨_, trivial, fun h => ⟨?_, ?_, ?_, rfl⟩, rfl, ?_⟩; (first | exact h | rfl); exact okG; exact okG) | refine .inl ?_) | refine cY ?_ (by first | (with_reducible first | rfl | assumption) | decide) | refine cN ?_ (by first | (with_reducible first | rfl | assumption) | decide) | refine gA ?_ (by first | (with_reducible first | rfl | assumption) | decide) | refine gB ?_ (by first | (with_reducible first | rfl | assumption) | decide) | refine gC ?_ (by first | (with_reducible first | rfl | assumption) | decide) | ((first | refine gsT (fun h => ?_) (fun h => ?_) | refine gsF (fun h => ?_) (fun h => ?_) | refine ⟨fun h => ?_, fun h => ?_⟩) <;> (have hs := h; try simp only [cs, reduceCtorEq, Int.reduceEq, Int.reduceNe, Int.reduceLT, Int.reduceLE, Int.reduceBEq, Int.reduceBNe] at hs)) | (refine .inl ⟨_, _, c_of_copy, ?_⟩) | (refine .inl ⟨_, _, hR, ?_⟩) | ((with_reducible show _ ∧ _ ∧ Weak _ _ _); refine ⟨?_, ?_, Weak.go⟩; (omega)) | ((with_reducible show (_ ∧ _ ∧ _) ∧ _); refine ⟨⟨by kernel_rfl, by kernel_rfl, by rfl⟩, ?_⟩) | ((with_reducible show AV.pf _ = true ∧ _); refine pfA ?_) | (refine ⟨rfl, ?_, ?_, ?_⟩; exact okG; exact okG) | ((with_reducible show (_ ∨ _) ∧ _ ∧ retA _ _ _ _ _); refine ⟨?_, rfl, ?_⟩; (first | exact .inr rfl | exact .inl rfl)) | ((with_reducible show _ = _ ∧ _ = false ∧ _ = _); refine ⟨?_, rfl, rfl⟩; try (first | rfl | (conv => lhs; whnf))) | ((with_reducible show LeqD _ _); try (first | exact okN | (first | rfl | (conv => lhs; whnf))); done) | ((with_reducible show _ = _ ∧ (_ → _)); refine ⟨?_, ?_⟩; try (first | rfl | (conv => lhs; whnf))) | exact fun h => h | exact fun _ => rfl | refine ⟨rfl, ?_⟩ | (refine ⟨Nat.le_of_ble_eq_true rfl, ?_⟩) | (refine ⟨?_, ?_, ?_⟩; exact okS; exact okS) | (refine ⟨?_, ?_⟩; exact okS) | rw [wrapId (by omega) (by omega)] | fail)
theorem c_Reads_copy {a b : ByteArray} (ha : isName a = true) (hb : isName b = true) : XPure Tryz.prog 45 [eC 1 b [a] [] 0] (.tup [eS [a], i64 0]) false := by
  refine XPure.body ⟨_, Tryz.func45, rfl, by kernel_rfl⟩ Tryz.func45 rfl (Nat.le_of_ble_eq_true (by rfl)) (pf_of1 rfl) fun env => ?_
  repeat' ((conv => whnf); (fail_if_success (with_reducible show ∃ _, _ ∧ _ ∧ Weak _ _ _)); first | ((with_reducible show guardA _ _ _ _ _ _ ∨ _); first | (refine .inr ?_; (conv => whnf); refine ⟨_, ?_, fun h => rfl, rfl, ?_⟩; ((conv => whnf); first | exact trivial | (refine ⟨?_, trivial⟩; exact okG))) | (refine .inr ?_; (conv => whnf); refine ⟨_, trivial, fun h => ⟨?_, ?_, ?_, rfl⟩, rfl, ?_⟩; (first | exact h | rfl); exact okG; exact okG) | refine .inl ?_) | refine cY ?_ (by first | (with_reducible first | rfl | assumption) | decide) | refine cN ?_ (by first | (with_reducible first | rfl | assumption) | decide) | refine gA ?_ (by first | (with_reducible first | rfl | assumption) | decide) | refine gB ?_ (by first | (with_reducible first | rfl | assumption) | decide) | refine gC ?_ (by first | (with_reducible first | rfl | assumption) | decide) | ((first | refine gsT (fun h => ?_) (fun h => ?_) | refine gsF (fun h => ?_) (fun h => ?_) | refine ⟨fun h => ?_, fun h => ?_⟩) <;> (have hs := h; try simp only [cs, reduceCtorEq, Int.reduceEq, Int.reduceNe, Int.reduceLT, Int.reduceLE, Int.reduceBEq, Int.reduceBNe] at hs)) | (refine .inl ⟨_, _, c_told_copy ha hb, ?_⟩) | (refine .inl ⟨_, _, c_copying_reads, ?_⟩) | ((with_reducible show _ ∧ _ ∧ Weak _ _ _); refine ⟨?_, ?_, Weak.go⟩; (omega)) | ((with_reducible show (_ ∧ _ ∧ _) ∧ _); refine ⟨⟨by kernel_rfl, by kernel_rfl, by rfl⟩, ?_⟩) | ((with_reducible show AV.pf _ = true ∧ _); refine pfA ?_) | (refine ⟨rfl, ?_, ?_, ?_⟩; exact okG; exact okG) | ((with_reducible show (_ ∨ _) ∧ _ ∧ retA _ _ _ _ _); refine ⟨?_, rfl, ?_⟩; (first | exact .inr rfl | exact .inl rfl)) | ((with_reducible show _ = _ ∧ _ = false ∧ _ = _); refine ⟨?_, rfl, rfl⟩; try (first | rfl | (conv => lhs; whnf))) | ((with_reducible show LeqD _ _); try (first | exact okN | (first | rfl | (conv => lhs; whnf))); done) | ((with_reducible show _ = _ ∧ (_ → _)); refine ⟨?_, ?_⟩; try (first | rfl | (conv => lhs; whnf))) | exact fun h => h | exact fun _ => rfl | refine ⟨rfl, ?_⟩ | (refine ⟨Nat.le_of_ble_eq_true rfl, ?_⟩) | (refine ⟨?_, ?_, ?_⟩; exact okS; exact okS) | (refine ⟨?_, ?_⟩; exact okS) | rw [wrapId (by omega) (by omega)] | fail)
theorem c_Writes_copy {a b : ByteArray} (ha : isName a = true) (hb : isName b = true) : XPure Tryz.prog 31 [eC 1 b [a] [] 0] (.tup [str b, bln true, i64 0]) false := by
  refine XPure.body ⟨_, Tryz.func31, rfl, by kernel_rfl⟩ Tryz.func31 rfl (Nat.le_of_ble_eq_true (by rfl)) (pf_of1 rfl) fun env => ?_
  repeat' ((conv => whnf); (fail_if_success (with_reducible show ∃ _, _ ∧ _ ∧ Weak _ _ _)); first | ((with_reducible show guardA _ _ _ _ _ _ ∨ _); first | (refine .inr ?_; (conv => whnf); refine ⟨_, ?_, fun h => rfl, rfl, ?_⟩; ((conv => whnf); first | exact trivial | (refine ⟨?_, trivial⟩; exact okG))) | (refine .inr ?_; (conv => whnf); refine ⟨_, trivial, fun h => ⟨?_, ?_, ?_, rfl⟩, rfl, ?_⟩; (first | exact h | rfl); exact okG; exact okG) | refine .inl ?_) | refine cY ?_ (by first | (with_reducible first | rfl | assumption) | decide) | refine cN ?_ (by first | (with_reducible first | rfl | assumption) | decide) | refine gA ?_ (by first | (with_reducible first | rfl | assumption) | decide) | refine gB ?_ (by first | (with_reducible first | rfl | assumption) | decide) | refine gC ?_ (by first | (with_reducible first | rfl | assumption) | decide) | ((first | refine gsT (fun h => ?_) (fun h => ?_) | refine gsF (fun h => ?_) (fun h => ?_) | refine ⟨fun h => ?_, fun h => ?_⟩) <;> (have hs := h; try simp only [cs, reduceCtorEq, Int.reduceEq, Int.reduceNe, Int.reduceLT, Int.reduceLE, Int.reduceBEq, Int.reduceBNe] at hs)) | (refine .inl ⟨_, _, c_told_copy ha hb, ?_⟩) | (refine .inl ⟨_, _, c_copying_writes, ?_⟩) | ((with_reducible show _ ∧ _ ∧ Weak _ _ _); refine ⟨?_, ?_, Weak.go⟩; (omega)) | ((with_reducible show (_ ∧ _ ∧ _) ∧ _); refine ⟨⟨by kernel_rfl, by kernel_rfl, by rfl⟩, ?_⟩) | ((with_reducible show AV.pf _ = true ∧ _); refine pfA ?_) | (refine ⟨rfl, ?_, ?_, ?_⟩; exact okG; exact okG) | ((with_reducible show (_ ∨ _) ∧ _ ∧ retA _ _ _ _ _); refine ⟨?_, rfl, ?_⟩; (first | exact .inr rfl | exact .inl rfl)) | ((with_reducible show _ = _ ∧ _ = false ∧ _ = _); refine ⟨?_, rfl, rfl⟩; try (first | rfl | (conv => lhs; whnf))) | ((with_reducible show LeqD _ _); try (first | exact okN | (first | rfl | (conv => lhs; whnf))); done) | ((with_reducible show _ = _ ∧ (_ → _)); refine ⟨?_, ?_⟩; try (first | rfl | (conv => lhs; whnf))) | exact fun h => h | exact fun _ => rfl | refine ⟨rfl, ?_⟩ | (refine ⟨Nat.le_of_ble_eq_true rfl, ?_⟩) | (refine ⟨?_, ?_, ?_⟩; exact okS; exact okS) | (refine ⟨?_, ?_⟩; exact okS) | rw [wrapId (by omega) (by omega)] | fail)
end Go.Proofs.YtepdiooaoegpfaaGreatDoor.Fx
end
section
/- The files that a command reads, joined. Conditions: those in each statement. -/
namespace Go.Proofs.YtepdiooaoegpfaaGreatDoor.Fx
open Go Go.Proofs Go.Ev Go.RowKit Go.Proofs.YtepdiooaoegpfaaGreatDoor.Sup Go.Proofs.YtepdiooaoegpfaaGreatDoorW.PrintWords
set_option linter.unusedSimpArgs false
set_option linter.unusedVariables false
/-- What is read: a fault, or the texts. -/
def readGo (clock : Int) (l : List File) : List ByteArray → List UInt8 → Int × List UInt8
  | [], acc => (0, acc)
  | s :: r, acc => if findE clock l s = 0 then readGo clock l r (acc ++ ((findD clock l s).getD File.none).text.data.toList) else (findE clock l s, [])
def readE (clock : Int) (l : List File) (src : List ByteArray) : Int := (readGo clock l src []).1
def readT (clock : Int) (l : List File) (src : List ByteArray) : ByteArray := ⟨(readGo clock l src []).2.toArray⟩
theorem chk_all {clock : Int} : ∀ (l : List File) (p : Option ByteArray), chkF clock p l = true → ∀ f ∈ l, fileOk clock f = true
  | [], _, _, f, h => absurd h List.not_mem_nil
  | x :: r, p, h, f, hf => by
    simp only [chkF, Bool.and_eq_true] at h
    rcases List.mem_cons.1 hf with rfl | hf
    · exact h.1.1
    · exact chk_all r _ h.2 f hf
theorem findF_mem : ∀ (l : List File) (s : ByteArray) (f : File), findF l s = some f → f ∈ l
  | [], _, _, h => by cases h
  | x :: r, s, f, h => by
    simp only [findF] at h
    split at h
    · cases h; exact List.mem_cons_self ..
    · exact List.mem_cons_of_mem _ (findF_mem r s f h)
theorem find_text {clock : Int} {l : List File} {s : ByteArray} : ((findD clock l s).getD File.none).text.size ≤ 4096 := by
  unfold findD
  cases h : (okD clock l && isName s) with
  | false => exact Nat.zero_le _
  | true =>
    simp only [Bool.and_eq_true] at h
    cases hf : findF l s with
    | none => exact Nat.zero_le _
    | some f =>
      have h1 := h.1
      unfold okD at h1
      simp only [Bool.and_eq_true] at h1
      exact (fileOk_iff.1 (chk_all l _ h1.2 f (findF_mem l s f hf))).2.1
theorem repE_str {w : World} {hw : Hw} : ∀ (l : List ByteArray) (cs : List Value), RepE w hw 1 (l.map fun x => .v (.string x)) cs → cs = l.map Value.string
  | [], cs, h => by simpa only [List.map_nil, RepE] using h
  | x :: l, cs, h => by
    simp only [List.map_cons, RepE] at h
    obtain ⟨h0, h1, h2⟩ := h
    obtain ⟨c, cs, rfl⟩ : ∃ c r, cs = c :: r := by
      cases cs with
      | nil => simp at h0
      | cons c r => exact ⟨c, r, rfl⟩
    have := repE_str l _ h2
    simp only [List.drop_succ_cons, List.drop_zero] at this
    have h1' := h1.1
    simp only [RepV, List.take_succ_cons, List.take_zero, List.cons.injEq, and_true] at h1'
    rw [h1', this]; rfl
theorem owns_below {w w' : World} {B : Nat} {e : TypeId} {size : Nat} {v : Value} {n : Nat} {xs : List Value} (h : w.ownsRow B e size v n xs) (hB : Below w.heap.size w w') : w'.ownsRow B e size v n xs := by
  unfold World.ownsRow at h ⊢
  obtain ⟨h1, h2⟩ := h
  refine ⟨h1, h2.imp id ?_⟩
  rintro ⟨g, cap, cur, e1, e2, e3, e4⟩
  exact ⟨g, cap, cur, e1, e2, (hB.block g (Array.getElem?_eq_some_iff.1 e3).1).trans e3, e4⟩
theorem builder_below {T e : TypeId} {B b : Nat} {bs : List Value} {w w' : World} (h : Lib.IsBuilder T e B b bs w) (hB : Below w.heap.size w w') : Lib.IsBuilder T e B b bs w' := by
  have one : ∀ p, Lib.BuilderAt T e B b p bs w → Lib.BuilderAt T e B b p bs w' := by
    rintro p ⟨h1, v, h2, h3, h4⟩
    exact ⟨h1, v, (hB.block b (Array.getElem?_eq_some_iff.1 h2).1).trans h2, owns_below h3 hB, h4⟩
  exact h.imp (one _) (one _)
theorem readGo_step {clock : Int} {l : List File} {src : List ByteArray} {p : Nat} {s : ByteArray} {acc : List UInt8} (hp : p < src.length) (hs : src[p] = s) : readGo clock l (src.drop p) acc = if findE clock l s = 0 then readGo clock l (src.drop (p + 1)) (acc ++ ((findD clock l s).getD File.none).text.data.toList) else (findE clock l s, []) := by
  rw [List.drop_eq_getElem_cons hp, hs]; rfl
theorem find_mem {clock : Int} {l : List File} {s : ByteArray} {w : World} {g : Gh} {vb : Value} (G : Ev.Good w g [] 0) (ho : g.own = fun _ => none) (hb : Rep w g.hw [] 0 (eD clock l) vb) :
    Calls Tryz.prog 52 #[vb, .string s] w fun e w' => e = .returned (.tuple #[.agg #[.string ((findD clock l s).getD File.none).name, .string ((findD clock l s).getD File.none).text, .int .i64 ((findD clock l s).getD File.none).stamp], .int .i64 (findE clock l s)]) ∧ Below w.heap.size w w' := by
  have hv : RepT w g.hw [] 0 [eD clock l, str s] [vb, .string s] := by
    simp only [RepT]
    exact ⟨_, _, rfl, rep1_of rfl hb, _, _, rfl, rep1_of rfl (rep_v_mk rfl), rfl⟩
  refine ((c_disk_Find (clock := clock) (l := l) (s := s)).toMem G ho hv).mono ?_
  rintro e w' ⟨u, g', rfl, B, _, hr⟩
  refine ⟨?_, B⟩
  obtain ⟨vs, rfl, hr⟩ := hr
  simp only [RepT] at hr
  obtain ⟨u1, _, e1, r1, u2, _, rfl, r2, rfl⟩ := hr
  obtain rfl : vs = #[u1, u2] := Array.toList_inj.1 e1
  obtain ⟨c1, rfl, hc⟩ := rep_agg (rep_of r1)
  simp only [RepL, RepV, List.cons.injEq, and_true] at hc
  obtain ⟨a1, _, e1, ⟨rfl, _⟩, a2, _, rfl, ⟨rfl, _⟩, a3, _, rfl, ⟨rfl, _⟩, rfl⟩ := hc
  obtain rfl : c1 = #[_, _, _] := Array.toList_inj.1 e1
  rw [(rep_v (rep_of r2)).1]
set_option maxHeartbeats 4000000 in
set_option maxRecDepth 100000 in
theorem read_mem {clock : Int} {l : List File} {op st : Int} {dst : ByteArray} {src words : List ByteArray} (hs : src.length ≤ 1000000000) (w : World) (g : Gh) (va vb : Value) (G : Ev.Good w g [] 0) (ho : g.own = fun _ => none)
    (ha : Rep w g.hw [] 0 (eC op dst src words st) va) (hb : Rep w g.hw [] 0 (eD clock l) vb) :
    Calls Tryz.prog 47 #[va, vb] w fun e w' => e = .returned (.tuple #[.string (readT clock l src), .int .i64 (readE clock l src)]) ∧ Below w.heap.size w w' := by
  obtain ⟨ca, rfl, hca⟩ := rep_agg ha
  obtain ⟨cb, rfl, hcb⟩ := rep_agg hb
  simp only [RepL] at hca hcb
  obtain ⟨a1, _, e1, ⟨h1, _⟩, a2, _, rfl, ⟨h2, _⟩, a3, _, rfl, ⟨h3, _⟩, a4, _, rfl, ⟨h4, _⟩, a5, _, rfl, ⟨h5, _⟩, rfl⟩ := hca
  obtain ⟨b1, _, f1, ⟨k1, _⟩, b2, _, rfl, ⟨k2, _⟩, rfl⟩ := hcb
  obtain rfl : ca = #[a1, a2, a3, a4, a5] := Array.toList_inj.1 e1
  obtain rfl : cb = #[b1, b2] := Array.toList_inj.1 f1
  simp only [RepV, List.cons.injEq, and_true] at h1 h2 h5 k1
  subst h1 h2 h5 k1
  simp only [RepV, List.cons.injEq, and_true] at h3
  obtain ⟨A, cp, rfl, hcp, hfit, hsrc⟩ := h3
  rw [List.length_map] at *
  obtain ⟨R, hR⟩ : ∃ R, readGo clock l src [] = R := ⟨_, rfl⟩
  unfold readT readE
  rw [hR]
  have HR := Lib.hid hR
  clear hR
  go_enter Tryz.func47, Tryz.ntmps47
  go_wp2
  obtain ⟨ws, hws⟩ : ∃ ws, (w.alloc (.cells #[.int .i64 op, .string dst, .slice A src.length cp, a4, .int .i64 st] 68)).alloc (.cells #[.int .i64 clock, b2] 27) = ws := ⟨_, rfl⟩
  rw [hws]
  have hwsz : ws.heap.size = w.heap.size + 1 + 1 := by rw [← hws]; exact (Array.size_push ..).trans (congrArg (· + 1) (Array.size_push ..))
  have hbox : ws.heap[w.heap.size + 1]? = some (.cells #[.int .i64 clock, b2] 27 (0, 0)) := by rw [← hws]; exact (congrArg (fun k => (World.alloc _ _).heap[k]?) (Array.size_push ..).symm).trans (heap_alloc_new _ _)
  have hB0 : Below w.heap.size w ws := by rw [← hws]; exact ((Below.refl _ _).alloc (Nat.le_refl _) _).alloc (Nat.le_of_lt (by rw [show (w.alloc _).heap.size = w.heap.size + 1 from Array.size_push ..]; exact Nat.lt_succ_self _)) _
  rw [← hwsz]
  have HW := Aside0.mk hwsz
  have HX := Aside0.mk hbox
  have H0 := Aside0.mk hB0
  clear hws hwsz hbox hB0
  go_loopw [14] (fun i wr => ∃ (p : Nat) (acc : List UInt8), i = .int .i64 p ∧ p ≤ src.length ∧ acc.length ≤ p * 4096 ∧ Aside0 (readGo clock l (src.drop p) acc = R) ∧ Aside0 (Lib.IsBuilder 125 5 ws.heap.size ws.heap.size (Lib.byteCells acc) wr) ∧ Aside0 (Below ws.heap.size ws wr)) (fun i _ => src.length - (intOf i).toNat)
  case atStart => exact ⟨0, [], by go_num, Nat.zero_le _, Nat.zero_le _, ⟨HR.out⟩, ⟨Lib.fresh_isBuilder 125 5 ws⟩, ⟨(Below.refl _ _).alloc (Nat.le_refl _) _⟩⟩
  case round =>
    obtain ⟨p, acc, rfl, hp, hacc, HA, HI, HB⟩ := hrel
    have hBw : ws.heap.size ≤ wr.heap.size := HB.out.size
    by_cases hlt : p < src.length
    · obtain ⟨s, hsp⟩ : ∃ s, src[p] = s := ⟨_, rfl⟩
      have hA : ∃ bk o, A = some ⟨bk, o, none⟩ ∧ wr.cell? ⟨bk, o + p, none⟩ = some (.string s) := by
        rcases hsrc with h | ⟨bk, o, cs, h1, h2, h3⟩
        · have : src = [] := by simpa using h
          subst this; simp at hlt
        · refine ⟨bk, o, h1, ?_⟩
          have hcs := repE_str src cs h3
          subst hcs
          have hcell := h2.at p (.string s) (by simp [hlt, hsp])
          have hbk : bk < w.heap.size := World.block_lt_of_cell? w _ hcell
          have hbel : Below w.heap.size w wr := H0.out.trans (HB.out.mono (by have := HW.out; omega))
          exact (hbel.cell (p := ⟨bk, o + p, none⟩) hbk).trans hcell
      obtain ⟨bk, o, rfl, hcell⟩ := hA
      have hbx : wr.heap[w.heap.size + 1]? = some (.cells #[.int .i64 clock, b2] 27 (0, 0)) := (HB.out.block _ (by have := HW.out; omega)).trans HX.out
      have hd0 : wr.cell? ⟨w.heap.size + 1, 0, none⟩ = some (.int .i64 clock) := by simp [World.cell?, hbx]
      have hd1 : wr.cell? ⟨w.heap.size + 1, 1, none⟩ = some b2 := by simp [World.cell?, hbx]
      have hbel : Below w.heap.size w wr := H0.out.trans (HB.out.mono (by have := HW.out; omega))
      have hFind := find_mem (s := s) (G.below hbel) ho (hb.mono (HwLe.below G hbel) fun _ _ h => h)
      have HF := Aside0.mk hFind
      clear hFind hbel
      obtain ⟨E, hE⟩ : ∃ E, findE clock l s = E := ⟨_, rfl⟩
      obtain ⟨F, hF⟩ : ∃ F, (findD clock l s).getD File.none = F := ⟨_, rfl⟩
      rw [hE, hF] at HF
      have HE := Aside0.mk hE
      have HFF := Aside0.mk hF
      clear hE hF hbx hsrc ha h4 k2 hfit
      have HBB := Aside0.mk hb
      have HSP := Aside0.mk hsp
      clear hb hsp
      cases he : (E == 0)
      · have hne : (E != 0) = true := by simp [bne, he]
        go_wp2_with (go_at_call 52; refine HF.out.mono ?_; rintro e w1 ⟨rfl, hB1⟩)
        go_ret2
        have hstep := (readGo_step (clock := clock) (l := l) (acc := acc) hlt HSP.out).symm.trans HA.out
        rw [HE.out, if_neg (by simpa using he)] at hstep
        subst hstep
        refine ⟨rfl, ?_⟩
        exact (H0.out.trans (HB.out.mono (by have := HW.out; omega))).trans ((hB1.mono (by have := HB.out.size; have := H0.out.size; omega)).alloc (by have := hB1.size; have := HB.out.size; have := H0.out.size; omega) _)
      · have hne : (E != 0) = false := by simp [bne, he]
        have hE0 : E = 0 := by simpa using he
        have hlen : F.text.size ≤ 4096 := by rw [← HFF.out]; exact find_text
        go_wp2_with (first | (go_at_call 52; refine HF.out.mono ?_; rintro e w1 ⟨rfl, hB1⟩) | (go_at_call 69; refine (Tryz.Builder_WriteString ws.heap.size ws.heap.size (Lib.byteCells acc) F.text _ (builder_below HI.out (hB1.alloc hB1.size _)) (by simp only [Lib.byteCells, List.length_map]; omega) (by have := hB1.size; have := HB.out.size; simp only [World.alloc, Array.size_push]; omega)).mono ?_; rintro e w2 ⟨rfl, hI2, hB2⟩))
        have HI2 := Aside0.mk hI2
        have HBE : Aside0 (Below ws.heap.size ws w2) := ⟨(HB.out.trans ((hB1.mono HB.out.size).alloc (by have := hB1.size; have := HB.out.size; omega) _)).trans hB2⟩
        clear hI2 hB2
        go_roundw
        case rel =>
          refine ⟨p + 1, acc ++ F.text.data.toList, by go_num, by omega, ?_, ⟨?_⟩, ⟨.inr ?_⟩, HBE⟩
          · rw [List.length_append]; have : F.text.data.toList.length = F.text.size := by simp
            omega
          · have hstep := (readGo_step (clock := clock) (l := l) (acc := acc) hlt HSP.out).symm.trans HA.out
            rw [HE.out, if_pos hE0, HFF.out] at hstep
            exact hstep
          · have := HI2.out
            rw [Lib.strCells_eq] at this
            simpa only [Lib.byteCells, List.map_append] using this
        case measure => simp [intOf]; omega
    · go_wp2_with (go_at_call 70; refine (Tryz.Builder_String_any ws.heap.size ws.heap.size acc _ HI.out hBw).mono ?_; rintro e w1 ⟨rfl, hB1⟩)
      go_ret2
      have hend : (0, acc) = R := by
        have := HA.out
        rw [List.drop_eq_nil_of_le (by omega)] at this
        exact this
      subst hend
      exact ⟨rfl, (H0.out.trans (HB.out.mono (by have := HW.out; omega))).trans (hB1.mono (by have := HW.out; omega))⟩
theorem c_exec_read {clock : Int} {l : List File} {op st : Int} {dst : ByteArray} {src words : List ByteArray} (hs : src.length ≤ 1000000000) :
    XPure Tryz.prog 47 [eC op dst src words st, eD clock l] (.tup [str (readT clock l src), i64 (readE clock l src)]) false :=
  XPure.ofMem (u := .tuple #[.string (readT clock l src), .int .i64 (readE clock l src)]) ⟨_, Tryz.func47, rfl, by kernel_rfl⟩ rfl rfl (fun w g vs G ho hv => by
    simp only [RepT] at hv
    obtain ⟨va, _, rfl, ha, vb, _, rfl, hb, rfl⟩ := hv
    exact read_mem hs w g va vb G ho (rep_of ha) (rep_of hb)) fun w hw bs base => by
    refine ⟨_, rfl, ?_⟩
    simp only [RepT]
    exact ⟨_, _, rfl, rep1_of rfl (rep_v_mk rfl), _, _, rfl, rep1_of rfl (rep_v_mk rfl), rfl⟩
end Go.Proofs.YtepdiooaoegpfaaGreatDoor.Fx
end
section
/- Whether a copying command may be done. Conditions: those in each statement. -/
namespace Go.Proofs.YtepdiooaoegpfaaGreatDoor.Fx
open Go Go.Proofs Go.Ev Go.RowKit
set_option maxRecDepth 100000
set_option maxHeartbeats 1600000
set_option linter.unusedSimpArgs false
set_option linter.unusedVariables false
def mayE (n : Node) (a b : ByteArray) : Int := if hasS n.needs a = true then if b = n.target then 0 else 170 else 170
theorem leq_cmd2 {op st e e' : Int} {d : ByteArray} {a w : List ByteArray} (h5 : e' = e) : LeqD (.tup [eC op d a w st, i64 e]) (.tup [eC op d a w st, i64 e']) := by
  subst h5; exact LeqD.refl _
theorem c_may_copy {n : Node} {t a b : ByteArray} (hn : n.needs.length ≤ 1000000000) (hV : wordsV t = [copyW, a, b]) (hE : wordsE t = 0) (ha : isName a = true) (hb : isName b = true) :
    XPure Tryz.prog 29 [eN n, str t] (.tup [eC 1 b [a] [] 0, i64 (mayE n a b)]) false := by
  refine XPure.bodyN ⟨_, Tryz.func29, rfl, by kernel_rfl⟩ Tryz.func29 rfl (Nat.le_of_ble_eq_true (by rfl)) (pf_of1 rfl) fun env => ?_
  repeat' ((conv => whnf); (fail_if_success (with_reducible show LeqD _ _)); (fail_if_success (with_reducible show ∃ _, _ ∧ _ ∧ Weak _ _ _)); first | ((with_reducible show guardA _ _ _ _ _ _ ∨ _); first | (refine .inr ?_; (conv => whnf); refine ⟨_, ?_, fun h => rfl, rfl, ?_⟩; ((conv => whnf); first | exact trivial | (refine ⟨?_, trivial⟩; exact okG))) | (refine .inr ?_; (conv => whnf); refine ⟨_, trivial, fun h => ⟨?_, ?_, ?_, rfl⟩, rfl, ?_⟩; (first | exact h | rfl); exact okG; exact okG) | refine .inl ?_) | refine cY ?_ | refine cN ?_ | refine gA ?_ | refine gB ?_ | refine gC ?_ | ((first | refine gsT (fun h => ?_) (fun h => ?_) | refine gsF (fun h => ?_) (fun h => ?_) | refine ⟨fun h => ?_, fun h => ?_⟩) <;> (have hs := h; try simp only [cs, reduceCtorEq, Int.reduceEq, Int.reduceNe, Int.reduceLT, Int.reduceLE, Int.reduceBEq, Int.reduceBNe] at hs)) | (refine .inl ⟨_, _, c_Line_copy hV hE ha hb, ?_⟩) | (refine .inl ⟨_, _, c_Reads_copy ha hb, ?_⟩) | ((with_reducible show _ ∧ _ ∧ Weak _ _ _); refine ⟨?_, ?_, Weak.go⟩; (omega)) | ((with_reducible show (_ ∧ _ ∧ _) ∧ _); refine ⟨⟨by kernel_rfl, by kernel_rfl, by rfl⟩, ?_⟩) | ((with_reducible show AV.pf _ = true ∧ _); refine pfA ?_) | (refine ⟨rfl, ?_, ?_, ?_⟩; exact okG; exact okG) | ((with_reducible show (_ ∨ _) ∧ _ ∧ retA _ _ _ _ _); refine ⟨?_, rfl, ?_⟩; (first | exact .inr rfl | exact .inl rfl)) | ((with_reducible show _ = _ ∧ _ = false ∧ _ = _); refine ⟨?_, rfl, rfl⟩; try (first | rfl | (conv => lhs; whnf))) | ((with_reducible show _ = _ ∧ (_ → _)); refine ⟨?_, ?_⟩; try (first | rfl | (conv => lhs; whnf))) | exact fun h => h | exact fun _ => rfl | refine ⟨rfl, ?_⟩ | (refine ⟨Nat.le_of_ble_eq_true rfl, ?_⟩) | (refine ⟨?_, ?_, ?_⟩; exact okS; exact okS) | (refine ⟨?_, ?_⟩; exact okS) | fail)
  refine XW.countL 1 [2, 4, 6, 29, 30] (fun i => [(31, i64 i)]) (fun _ => []) (fun i => [.cells (eN n).leaves [], .cells [i64 0, str .empty, nilv, nilv, i64 0] [], .cells (eC 1 b [a] [] 0).leaves []]) (fun i => i = 0 ∨ hasS n.needs a = true) Weak.go (.inl rfl) ?_
  intro i hi hA
  refine codeS ?_
  rcases (by omega : i = 0 ∨ i = 1) with rfl | rfl
  · repeat' ((conv => whnf); (fail_if_success (with_reducible show LeqD _ _)); (fail_if_success (with_reducible show ∃ _, _ ∧ _ ∧ Weak _ _ _)); first | ((with_reducible show guardA _ _ _ _ _ _ ∨ _); first | (refine .inr ?_; (conv => whnf); refine ⟨_, ?_, fun h => rfl, rfl, ?_⟩; ((conv => whnf); first | exact trivial | (refine ⟨?_, trivial⟩; exact okG))) | (refine .inr ?_; (conv => whnf); refine ⟨_, trivial, fun h => ⟨?_, ?_, ?_, rfl⟩, rfl, ?_⟩; (first | exact h | rfl); exact okG; exact okG) | refine .inl ?_) | refine cY ?_ (by first | (with_reducible first | rfl | assumption) | decide) | refine cN ?_ (by first | (with_reducible first | rfl | assumption) | decide) | refine gA ?_ (by first | (with_reducible first | rfl | assumption) | decide) | refine gB ?_ (by first | (with_reducible first | rfl | assumption) | decide) | refine gC ?_ (by first | (with_reducible first | rfl | assumption) | decide) | ((first | refine gsT (fun h => ?_) (fun h => ?_) | refine gsF (fun h => ?_) (fun h => ?_) | refine ⟨fun h => ?_, fun h => ?_⟩) <;> (have hs := h; try simp only [cs, reduceCtorEq, Int.reduceEq, Int.reduceNe, Int.reduceLT, Int.reduceLE, Int.reduceBEq, Int.reduceBNe] at hs)) | (refine .inl ⟨_, _, c_Contains hn, ?_⟩) | (refine .inl ⟨_, _, c_Writes_copy ha hb, ?_⟩) | ((with_reducible show _ ∧ _ ∧ Weak _ _ _); refine ⟨?_, ?_, Weak.go⟩; (omega)) | ((with_reducible show (_ ∧ _ ∧ _) ∧ _); refine ⟨⟨by kernel_rfl, by kernel_rfl, by rfl⟩, ?_⟩) | ((with_reducible show AV.pf _ = true ∧ _); refine pfA ?_) | (refine ⟨rfl, ?_, ?_, ?_⟩; exact okG; exact okG) | ((with_reducible show (_ ∨ _) ∧ _ ∧ retA _ _ _ _ _); refine ⟨?_, rfl, ?_⟩; (first | exact .inr rfl | exact .inl rfl)) | ((with_reducible show _ = _ ∧ _ = false ∧ _ = _); refine ⟨?_, rfl, rfl⟩; try (first | rfl | (conv => lhs; whnf))) | ((with_reducible show _ = _ ∧ (_ → _)); refine ⟨?_, ?_⟩; try (first | rfl | (conv => lhs; whnf))) | exact fun h => h | exact fun _ => rfl | refine ⟨rfl, ?_⟩ | (refine ⟨Nat.le_of_ble_eq_true rfl, ?_⟩) | (refine ⟨?_, ?_, ?_⟩; exact okS; exact okS) | (refine ⟨?_, ?_⟩; exact okS) | rw [wrapId (by omega) (by omega)] | fail)
    · conv => whnf
      refine leq_cmd2 ?_
      unfold mayE; rw [if_neg (by rw [hs]; simp)]
    · exact .inr hs
    all_goals exact absurd (Nat.zero_lt_one) ‹¬ 0 < [a].length›
  · have hA' : hasS n.needs a = true := by rcases hA with h | h; omega; exact h
    repeat' ((conv => whnf); (fail_if_success (with_reducible show LeqD _ _)); (fail_if_success (with_reducible show ∃ _, _ ∧ _ ∧ Weak _ _ _)); first | ((with_reducible show guardA _ _ _ _ _ _ ∨ _); first | (refine .inr ?_; (conv => whnf); refine ⟨_, ?_, fun h => rfl, rfl, ?_⟩; ((conv => whnf); first | exact trivial | (refine ⟨?_, trivial⟩; exact okG))) | (refine .inr ?_; (conv => whnf); refine ⟨_, trivial, fun h => ⟨?_, ?_, ?_, rfl⟩, rfl, ?_⟩; (first | exact h | rfl); exact okG; exact okG) | refine .inl ?_) | refine cY ?_ (by first | (with_reducible first | rfl | assumption) | decide) | refine cN ?_ (by first | (with_reducible first | rfl | assumption) | decide) | refine gA ?_ (by first | (with_reducible first | rfl | assumption) | decide) | refine gB ?_ (by first | (with_reducible first | rfl | assumption) | decide) | refine gC ?_ (by first | (with_reducible first | rfl | assumption) | decide) | ((first | refine gsT (fun h => ?_) (fun h => ?_) | refine gsF (fun h => ?_) (fun h => ?_) | refine ⟨fun h => ?_, fun h => ?_⟩) <;> (have hs := h; try simp only [cs, reduceCtorEq, Int.reduceEq, Int.reduceNe, Int.reduceLT, Int.reduceLE, Int.reduceBEq, Int.reduceBNe] at hs)) | (refine .inl ⟨_, _, c_Contains hn, ?_⟩) | (refine .inl ⟨_, _, c_Writes_copy ha hb, ?_⟩) | ((with_reducible show _ ∧ _ ∧ Weak _ _ _); refine ⟨?_, ?_, Weak.go⟩; (omega)) | ((with_reducible show (_ ∧ _ ∧ _) ∧ _); refine ⟨⟨by kernel_rfl, by kernel_rfl, by rfl⟩, ?_⟩) | ((with_reducible show AV.pf _ = true ∧ _); refine pfA ?_) | (refine ⟨rfl, ?_, ?_, ?_⟩; exact okG; exact okG) | ((with_reducible show (_ ∨ _) ∧ _ ∧ retA _ _ _ _ _); refine ⟨?_, rfl, ?_⟩; (first | exact .inr rfl | exact .inl rfl)) | ((with_reducible show _ = _ ∧ _ = false ∧ _ = _); refine ⟨?_, rfl, rfl⟩; try (first | rfl | (conv => lhs; whnf))) | ((with_reducible show _ = _ ∧ (_ → _)); refine ⟨?_, ?_⟩; try (first | rfl | (conv => lhs; whnf))) | exact fun h => h | exact fun _ => rfl | refine ⟨rfl, ?_⟩ | (refine ⟨Nat.le_of_ble_eq_true rfl, ?_⟩) | (refine ⟨?_, ?_, ?_⟩; exact okS; exact okS) | (refine ⟨?_, ?_⟩; exact okS) | rw [wrapId (by omega) (by omega)] | fail)
    · exact absurd hs (Nat.lt_irrefl 1)
    · conv => whnf
      refine leq_cmd2 ?_
      unfold mayE; rw [if_pos hA', if_neg hs]
    · conv => whnf
      refine leq_cmd2 ?_
      unfold mayE; rw [if_pos hA', if_pos hs]
end Go.Proofs.YtepdiooaoegpfaaGreatDoor.Fx
end
section
/- Disks as the document's answer writes them. Conditions: those in each statement. -/
namespace Go.Proofs.YtepdiooaoegpfaaGreatDoor.Fx
open Go Go.Proofs Go.Ev Go.RowKit
set_option maxRecDepth 100000
set_option maxHeartbeats 1600000
set_option linter.unusedSimpArgs false
set_option linter.unusedVariables false
def SzF (l : List File) : Prop := l.length ≤ 1000000000 ∧ ∀ f ∈ l, f.name.size ≤ 140737488355328
theorem SzF.at {l : List File} (h : SzF l) (i : Nat) (hi : i < l.length) : (l.getD i File.none).name.size ≤ 140737488355328 :=
  h.2 _ (by simp [List.getD_eq_getElem?_getD, hi])
end Go.Proofs.YtepdiooaoegpfaaGreatDoor.Fx
end
section
/- What is compared: files, disks, what a command did. Conditions: those in each statement. -/
namespace Go.Proofs.YtepdiooaoegpfaaGreatDoor.Fx
open Go Go.Proofs Go.Ev Go.RowKit
set_option maxRecDepth 100000
set_option maxHeartbeats 1600000
set_option linter.unusedSimpArgs false
set_option linter.unusedVariables false
def sameF (a b : File) : Bool := beqS a.name b.name && beqS a.text b.text && (a.stamp == b.stamp)
def sameGo : List File → List File → Bool
  | a :: l, b :: m => sameF a b && sameGo l m
  | _, _ => true
def sameFs (l m : List File) : Bool := decide (l.length = m.length) && sameGo l m
theorem sameGo_step {l m : List File} {i : Nat} (h : i < l.length) (k : i < m.length) : sameGo (l.drop i) (m.drop i) = (sameF (l.getD i File.none) (m.getD i File.none) && sameGo (l.drop (i + 1)) (m.drop (i + 1))) := by
  rw [drop_getD File.none h, drop_getD File.none k]; rfl
theorem sameGo_end {l m : List File} {i : Nat} (h : ¬ i < l.length) : sameGo (l.drop i) (m.drop i) = true := by
  rw [List.drop_eq_nil_of_le (by omega)]; rfl
theorem c_plain_Files {l m : List File} (hl : l.length ≤ 1000000000) (hm : m.length ≤ 1000000000) : XPure Tryz.prog 33 [eFs l, eFs m] (bln (sameFs l m)) false := by
  refine XPure.body ⟨_, Tryz.func33, rfl, by kernel_rfl⟩ Tryz.func33 rfl (Nat.le_of_ble_eq_true (by rfl)) (pf_of1 rfl) fun env => ?_
  repeat' ((conv => whnf); (fail_if_success (with_reducible show ∃ _, _ ∧ _ ∧ Weak _ _ _)); first | ((with_reducible show guardA _ _ _ _ _ _ ∨ _); first | (refine .inr ?_; (conv => whnf); refine ⟨_, ?_, fun h => rfl, rfl, ?_⟩; ((conv => whnf); first | exact trivial | (refine ⟨?_, trivial⟩; exact okG))) | (refine .inr ?_; (conv => whnf); refine ⟨_, trivial, fun h => ⟨?_, ?_, ?_, rfl⟩, rfl, ?_⟩; (first | exact h | rfl); exact okG; exact okG) | refine .inl ?_) | refine cY ?_ | refine cN ?_ | refine gA ?_ | refine gB ?_ | refine gC ?_ | ((first | refine gsT (fun h => ?_) (fun h => ?_) | refine gsF (fun h => ?_) (fun h => ?_) | refine ⟨fun h => ?_, fun h => ?_⟩) <;> (have hs := h; try simp only [cs, reduceCtorEq, Int.reduceEq, Int.reduceNe, Int.reduceLT, Int.reduceLE, Int.reduceBEq, Int.reduceBNe] at hs)) | ((with_reducible show _ ∧ _ ∧ Weak _ _ _); refine ⟨?_, ?_, Weak.go⟩; (omega)) | ((with_reducible show (_ ∧ _ ∧ _) ∧ _); refine ⟨⟨by kernel_rfl, by kernel_rfl, by rfl⟩, ?_⟩) | ((with_reducible show AV.pf _ = true ∧ _); refine pfA ?_) | (refine ⟨rfl, ?_, ?_, ?_⟩; exact okG; exact okG) | ((with_reducible show (_ ∨ _) ∧ _ ∧ retA _ _ _ _ _); refine ⟨?_, rfl, ?_⟩; (first | exact .inr rfl | exact .inl rfl)) | ((with_reducible show _ = _ ∧ _ = false ∧ _ = _); refine ⟨?_, rfl, rfl⟩; try (first | rfl | (conv => lhs; whnf))) | ((with_reducible show LeqD _ _); try (first | exact okN | (first | rfl | (conv => lhs; whnf))); done) | ((with_reducible show _ = _ ∧ (_ → _)); refine ⟨?_, ?_⟩; try (first | rfl | (conv => lhs; whnf))) | exact fun h => h | exact fun _ => rfl | refine ⟨rfl, ?_⟩ | (refine ⟨Nat.le_of_ble_eq_true rfl, ?_⟩) | (refine ⟨?_, ?_, ?_⟩; exact okS; exact okS) | (refine ⟨?_, ?_⟩; exact okS) | rw [wrapId (by omega) (by omega)] | fail)
  · have e : sameFs l m = false := by unfold sameFs; rw [decide_eq_false (by omega), Bool.false_and]
    rw [e]
  · have e : sameFs l m = sameGo l m := by unfold sameFs; rw [decide_eq_true (by omega), Bool.true_and]
    refine XW.countL l.length [0, 1, 12] (fun i => [(13, i64 i)]) (fun _ => []) (fun _ => []) (fun i => sameFs l m = sameGo (l.drop i) (m.drop i)) Weak.go e ?_
    intro i hi hA
    refine codeS ?_
    repeat' ((conv => whnf); (fail_if_success (with_reducible show ∃ _, _ ∧ _ ∧ Weak _ _ _)); first | ((with_reducible show guardA _ _ _ _ _ _ ∨ _); first | (refine .inr ?_; (conv => whnf); refine ⟨_, ?_, fun h => rfl, rfl, ?_⟩; ((conv => whnf); first | exact trivial | (refine ⟨?_, trivial⟩; exact okG))) | (refine .inr ?_; (conv => whnf); refine ⟨_, trivial, fun h => ⟨?_, ?_, ?_, rfl⟩, rfl, ?_⟩; (first | exact h | rfl); exact okG; exact okG) | refine .inl ?_) | refine cY ?_ | refine cN ?_ | refine gA ?_ | refine gB ?_ | refine gC ?_ | ((first | refine gsT (fun h => ?_) (fun h => ?_) | refine gsF (fun h => ?_) (fun h => ?_) | refine ⟨fun h => ?_, fun h => ?_⟩) <;> (have hs := h; try simp only [cs, reduceCtorEq, Int.reduceEq, Int.reduceNe, Int.reduceLT, Int.reduceLE, Int.reduceBEq, Int.reduceBNe] at hs)) | ((with_reducible show _ ∧ _ ∧ Weak _ _ _); refine ⟨?_, ?_, Weak.go⟩; (omega)) | refine XW.dr (m := 9) ?_ | ((with_reducible show (_ ∧ _ ∧ _) ∧ _); refine ⟨⟨by kernel_rfl, by kernel_rfl, by rfl⟩, ?_⟩) | ((with_reducible show AV.pf _ = true ∧ _); refine pfA ?_) | (refine ⟨rfl, ?_, ?_, ?_⟩; exact okG; exact okG) | ((with_reducible show (_ ∨ _) ∧ _ ∧ retA _ _ _ _ _); refine ⟨?_, rfl, ?_⟩; (first | exact .inr rfl | exact .inl rfl)) | ((with_reducible show _ = _ ∧ _ = false ∧ _ = _); refine ⟨?_, rfl, rfl⟩; try (first | rfl | (conv => lhs; whnf))) | ((with_reducible show LeqD _ _); try (first | exact okN | (first | rfl | (conv => lhs; whnf))); done) | ((with_reducible show _ = _ ∧ (_ → _)); refine ⟨?_, ?_⟩; try (first | rfl | (conv => lhs; whnf))) | exact fun h => h | exact fun _ => rfl | refine ⟨rfl, ?_⟩ | (refine ⟨Nat.le_of_ble_eq_true rfl, ?_⟩) | (refine ⟨?_, ?_, ?_⟩; exact okS; exact okS) | (refine ⟨?_, ?_⟩; exact okS) | rw [getD_mapI (File.none) (by omega)] | rw [getD_map (File.none) (by omega)] | rw [wrapId (by omega) (by omega)] | fail)
    · have e2 : sameF (l.getD i File.none) (m.getD i File.none) = false := by
        rw [← Bool.not_eq_true]; simp only [sameF, Bool.and_eq_true, beqS_iff, beq_iff_eq]; grind
      rw [hA, sameGo_step ‹_› (by omega), e2]; rfl
    · have e2 : sameF (l.getD i File.none) (m.getD i File.none) = true := by
        simp only [sameF, Bool.and_eq_true, beqS_iff, beq_iff_eq]; grind
      rw [hA, sameGo_step ‹_› (by omega), e2, Bool.true_and]
    · rw [hA, sameGo_end hs]
theorem c_plain_Disk {a b : Int} {l m : List File} (hl : l.length ≤ 1000000000) (hm : m.length ≤ 1000000000) : XPure Tryz.prog 12 [eD a l, eD b m] (bln ((a == b) && sameFs l m)) false := by
  refine XPure.body ⟨_, Tryz.func12, rfl, by kernel_rfl⟩ Tryz.func12 rfl (Nat.le_of_ble_eq_true (by rfl)) (pf_of1 rfl) fun env => ?_
  repeat' ((conv => whnf); (fail_if_success (with_reducible show ∃ _, _ ∧ _ ∧ Weak _ _ _)); first | ((with_reducible show guardA _ _ _ _ _ _ ∨ _); first | (refine .inr ?_; (conv => whnf); refine ⟨_, ?_, fun h => rfl, rfl, ?_⟩; ((conv => whnf); first | exact trivial | (refine ⟨?_, trivial⟩; exact okG))) | (refine .inr ?_; (conv => whnf); refine ⟨_, trivial, fun h => ⟨?_, ?_, ?_, rfl⟩, rfl, ?_⟩; (first | exact h | rfl); exact okG; exact okG) | refine .inl ?_) | refine cY ?_ | refine cN ?_ | refine gA ?_ | refine gB ?_ | refine gC ?_ | ((first | refine gsT (fun h => ?_) (fun h => ?_) | refine gsF (fun h => ?_) (fun h => ?_) | refine ⟨fun h => ?_, fun h => ?_⟩) <;> (have hs := h; try simp only [cs, reduceCtorEq, Int.reduceEq, Int.reduceNe, Int.reduceLT, Int.reduceLE, Int.reduceBEq, Int.reduceBNe] at hs)) | (refine .inl ⟨_, _, c_plain_Files hl hm, ?_⟩) | ((with_reducible show _ ∧ _ ∧ Weak _ _ _); refine ⟨?_, ?_, Weak.go⟩; (omega)) | ((with_reducible show (_ ∧ _ ∧ _) ∧ _); refine ⟨⟨by kernel_rfl, by kernel_rfl, by rfl⟩, ?_⟩) | ((with_reducible show AV.pf _ = true ∧ _); refine pfA ?_) | (refine ⟨rfl, ?_, ?_, ?_⟩; exact okG; exact okG) | ((with_reducible show (_ ∨ _) ∧ _ ∧ retA _ _ _ _ _); refine ⟨?_, rfl, ?_⟩; (first | exact .inr rfl | exact .inl rfl)) | ((with_reducible show _ = _ ∧ _ = false ∧ _ = _); refine ⟨?_, rfl, rfl⟩; try (first | rfl | (conv => lhs; whnf))) | ((with_reducible show LeqD _ _); try (first | exact okN | (first | rfl | (conv => lhs; whnf))); done) | ((with_reducible show _ = _ ∧ (_ → _)); refine ⟨?_, ?_⟩; try (first | rfl | (conv => lhs; whnf))) | exact fun h => h | exact fun _ => rfl | refine ⟨rfl, ?_⟩ | (refine ⟨Nat.le_of_ble_eq_true rfl, ?_⟩) | (refine ⟨?_, ?_, ?_⟩; exact okS; exact okS) | (refine ⟨?_, ?_⟩; exact okS) | rw [wrapId (by omega) (by omega)] | fail)
  · exact congrArg (fun b => bln b) (Bool.cond_false_right ..)
  · exact congrArg (fun b => bln b) (by rw [h, Bool.false_and])
structure Done where
  clock : Int
  files : List File
  said : ByteArray
  wrote : Bool
  status : Int
  code : Int
abbrev eDone (x : Done) : AV := .agg [i64 x.clock, eFs x.files, str x.said, bln x.wrote, i64 x.status, i64 x.code]
end Go.Proofs.YtepdiooaoegpfaaGreatDoor.Fx
end
section
/- What a copying command does. Conditions: those in each statement. -/
namespace Go.Proofs.YtepdiooaoegpfaaGreatDoor.Fx
open Go Go.Proofs Go.Ev Go.RowKit
set_option maxRecDepth 100000
set_option maxHeartbeats 6400000
set_option linter.unusedSimpArgs false
set_option linter.unusedVariables false
attribute [local irreducible] readE readT
@[irreducible] def doneE (clock : Int) (l : List File) (a b : ByteArray) : Int := if readE clock l [a] = 0 then wrE clock l b (readT clock l [a]) else readE clock l [a]
@[irreducible] def doneC (clock : Int) (l : List File) (a b : ByteArray) : Int := if readE clock l [a] = 0 then wrC clock l b (readT clock l [a]) else clock
@[irreducible] def doneL (clock : Int) (l : List File) (a b : ByteArray) : List File := if readE clock l [a] = 0 then wrL' clock l b (readT clock l [a]) else l
theorem tup4 {c c' e e' : Int} {L L' : List File} (h1 : c = c') (h2 : L = L') (h3 : e = e') : AV.tup [eD c L, str .empty, i64 0, i64 e] = AV.tup [eD c' L', str .empty, i64 0, i64 e'] := by subst h1 h2 h3; rfl
theorem c_done_copy {clock : Int} {l : List File} {a b : ByteArray} : XPure Tryz.prog 30 [eC 1 b [a] [] 0, eD clock l] (.tup [eD (doneC clock l a b) (doneL clock l a b), str .empty, i64 0, i64 (doneE clock l a b)]) false := by
  refine XPure.body ⟨_, Tryz.func30, rfl, by kernel_rfl⟩ Tryz.func30 rfl (Nat.le_of_ble_eq_true (by rfl)) (pf_of1 rfl) fun env => ?_
  repeat' ((conv => whnf); (fail_if_success (with_reducible show ∃ _, _ ∧ _ ∧ Weak _ _ _)); first | ((with_reducible show guardA _ _ _ _ _ _ ∨ _); first | (refine .inr ?_; (conv => whnf); refine ⟨_, ?_, fun h => rfl, rfl, ?_⟩; ((conv => whnf); first | exact trivial | (refine ⟨?_, trivial⟩; exact okG))) | (refine .inr ?_; (conv => whnf); refine ⟨_, trivial, fun h => ⟨?_, ?_, ?_, rfl⟩, rfl, ?_⟩; (first | exact h | rfl); exact okG; exact okG) | refine .inl ?_) | refine cY ?_ (by first | (with_reducible first | rfl | assumption) | decide) | refine cN ?_ (by first | (with_reducible first | rfl | assumption) | decide) | refine gA ?_ (by first | (with_reducible first | rfl | assumption) | decide) | refine gB ?_ (by first | (with_reducible first | rfl | assumption) | decide) | refine gC ?_ (by first | (with_reducible first | rfl | assumption) | decide) | ((first | refine gsT (fun h => ?_) (fun h => ?_) | refine gsF (fun h => ?_) (fun h => ?_) | refine ⟨fun h => ?_, fun h => ?_⟩) <;> (have hs := h; try simp only [cs, reduceCtorEq, Int.reduceEq, Int.reduceNe, Int.reduceLT, Int.reduceLE, Int.reduceBEq, Int.reduceBNe] at hs)) | (refine .inl ⟨_, _, c_exec_read (Nat.le_of_ble_eq_true rfl), ?_⟩) | (refine .inl ⟨_, _, c_disk_Write, ?_⟩) | ((with_reducible show _ ∧ _ ∧ Weak _ _ _); refine ⟨?_, ?_, Weak.go⟩; (omega)) | ((with_reducible show (_ ∧ _ ∧ _) ∧ _); refine ⟨⟨by kernel_rfl, by kernel_rfl, by rfl⟩, ?_⟩) | ((with_reducible show AV.pf _ = true ∧ _); refine pfA ?_) | (refine ⟨rfl, ?_, ?_, ?_⟩; exact okG; exact okG) | ((with_reducible show (_ ∨ _) ∧ _ ∧ retA _ _ _ _ _); refine ⟨?_, rfl, ?_⟩; (first | exact .inr rfl | exact .inl rfl)) | ((with_reducible show _ = _ ∧ _ = false ∧ _ = _); refine ⟨?_, rfl, rfl⟩; try (first | rfl | (conv => lhs; whnf))) | ((with_reducible show LeqD _ _); try (first | exact okN | (first | rfl | (conv => lhs; whnf))); done) | ((with_reducible show _ = _ ∧ (_ → _)); refine ⟨?_, ?_⟩; try (first | rfl | (conv => lhs; whnf))) | exact fun h => h | exact fun _ => rfl | refine ⟨rfl, ?_⟩ | (refine ⟨Nat.le_of_ble_eq_true rfl, ?_⟩) | (refine ⟨?_, ?_, ?_⟩; exact okS; exact okS) | (refine ⟨?_, ?_⟩; exact okS) | rw [wrapId (by omega) (by omega)] | fail)
  · exact tup4 (by unfold doneC; rw [if_neg hs]) (by unfold doneL; rw [if_neg hs]) (by unfold doneE; rw [if_neg hs])
  · exact tup4 (by unfold doneC; rw [if_pos hs]) (by unfold doneL; rw [if_pos hs]) (by unfold doneE; rw [if_pos hs])
@[irreducible] def statusOf (e : Int) : Int := if e = 0 then 0 else if e = 171 then 1 else if e = 150 ∨ e = 9 ∨ e = 160 ∨ e = 3 then 2 else if e = 170 then 3 else if e = 21 then 4 else if e = 20 then 5 else if e = 22 then 6 else if e = 23 then 7 else 8
theorem c_Status' {e : Int} : XPure Tryz.prog 21 [i64 e] (i64 (statusOf e)) false := by unfold statusOf; exact c_exec_Status
theorem cellOwn_xp {c : Cfg} {p : Operand} {i off : Nat} {l : List AV} (h1 : evA c p = .xp i off) (h2 : c.env[i]? = some (.cells l [])) : cellOwn c p = none := by
  unfold cellOwn
  rw [h1]
  simp only [h2]
  split
  · rfl
  · rfl
theorem tupD {c e st st' : Int} {l : List File} (h : st = st') : AV.tup [eDone ⟨c, l, .empty, false, st, e⟩, i64 0] = AV.tup [eDone ⟨c, l, .empty, false, st', e⟩, i64 0] := by subst h; rfl
theorem c_Do1 {q : Nat} {clock e st : Int} {l : List File} {env : List Bx} (hq : env[q]? = some (.cells [i64 clock, eFs l] [])) :
    XCalls Tryz.prog 28 [i64 e, i64 st, .xp q 0] env fun r ow env' => r = .tup [eDone ⟨clock, l, .empty, false, if st = 0 then statusOf e else st, e⟩, i64 0] ∧ ow = false ∧ env' = env := by
  have hkk : q < env.length := (List.getElem?_eq_some_iff.1 hq).1
  refine XCalls.body Tryz.func28 rfl (Nat.le_of_ble_eq_true (by rfl)) ?_
  repeat' ((conv => whnf); (fail_if_success (with_reducible show ∃ _, _ ∧ _ ∧ Weak _ _ _)); first | ((with_reducible show guardA _ _ _ _ _ _ ∨ _); first | (refine .inr ?_; (conv => whnf); refine ⟨_, ?_, fun h => rfl, rfl, ?_⟩; ((conv => whnf); first | exact trivial | (refine ⟨?_, trivial⟩; exact okG))) | (refine .inr ?_; (conv => whnf); refine ⟨_, trivial, fun h => ⟨?_, ?_, ?_, rfl⟩, rfl, ?_⟩; (first | exact h | rfl); exact okG; exact okG) | refine .inl ?_) | refine cY ?_ | refine cN ?_ | refine gA ?_ | refine gB ?_ | refine gC ?_ | ((first | refine gsT (fun h => ?_) (fun h => ?_) | refine gsF (fun h => ?_) (fun h => ?_) | refine ⟨fun h => ?_, fun h => ?_⟩) <;> (have hs := h; try simp only [cs, reduceCtorEq, Int.reduceEq, Int.reduceNe, Int.reduceLT, Int.reduceLE, Int.reduceBEq, Int.reduceBNe] at hs)) | (refine .inl ⟨_, _, c_Status', ?_⟩) | ((with_reducible show _ ∧ _ ∧ Weak _ _ _); refine ⟨?_, ?_, Weak.go⟩; (omega)) | (first | rw [cellOwn_xp (i := q) (off := 0) rfl hq] | (refine ⟨_, _, hq, ?_⟩)) | ((with_reducible show (_ ∧ _ ∧ _) ∧ _); refine ⟨⟨by kernel_rfl, by kernel_rfl, by rfl⟩, ?_⟩) | ((with_reducible show AV.pf _ = true ∧ _); refine pfA ?_) | (refine ⟨rfl, ?_, ?_, ?_⟩; exact okG; exact okG) | ((with_reducible show (_ ∨ _) ∧ _ ∧ retA _ _ _ _ _); refine ⟨?_, rfl, ?_⟩; (first | exact .inr rfl | exact .inl rfl)) | ((with_reducible show _ = _ ∧ _ = false ∧ _ = _); refine ⟨?_, rfl, rfl⟩; try (first | rfl | (conv => lhs; whnf))) | ((with_reducible show LeqD _ _); try (first | exact okN | (first | rfl | (conv => lhs; whnf))); done) | ((with_reducible show _ = _ ∧ (_ → _)); refine ⟨?_, ?_⟩; try (first | rfl | (conv => lhs; whnf))) | exact fun h => h | exact fun _ => rfl | refine ⟨rfl, ?_⟩ | (refine ⟨Nat.le_of_ble_eq_true rfl, ?_⟩) | (refine ⟨?_, ?_, ?_⟩; exact okS; exact okS) | (refine ⟨?_, ?_⟩; exact okS) | fail)
  · exact tupD (by rw [if_pos hs])
  · exact tupD (by rw [if_neg hs])
/-- What a copying command comes to. -/
@[irreducible] def doCopy (n : Node) (clock : Int) (l : List File) (a b : ByteArray) : Done :=
  if mayE n a b = 0 then if doneE clock l a b = 0 then ⟨doneC clock l a b, doneL clock l a b, .empty, true, 0, 0⟩ else ⟨clock, l, .empty, false, statusOf (doneE clock l a b), doneE clock l a b⟩ else ⟨clock, l, .empty, false, statusOf (mayE n a b), mayE n a b⟩
end Go.Proofs.YtepdiooaoegpfaaGreatDoor.Fx
end
section
/- A copying command is done. Conditions: those in each statement. -/
namespace Go.Proofs.YtepdiooaoegpfaaGreatDoor.Fx
open Go Go.Proofs Go.Ev Go.RowKit
set_option maxRecDepth 100000
set_option maxHeartbeats 6400000
set_option linter.unusedSimpArgs false
set_option linter.unusedVariables false
attribute [local irreducible] mayE
theorem doneEq {x y : Done} (h : x = y) : AV.tup [eDone x, i64 0] = AV.tup [eDone y, i64 0] := by rw [h]
theorem callG_args {P : Program} {c : Cfg} {args args' : List AV} {f : FuncId} {dst : Option Tmp} {K : Cfg → Prop} (h : args = args') (hg : callG P c args' f dst K) : callG P c args f dst K := h ▸ hg
theorem callG_do1 {c : Cfg} {dst : Option Tmp} {K : Cfg → Prop} {clock e st : Int} {l : List File} (hbox : c.own[1]? = some (.cells [i64 clock, eFs l] []))
    (h : K (c.after dst (.tup [eDone ⟨clock, l, .empty, false, if st = 0 then statusOf e else st, e⟩, i64 0]) false)) : callG Tryz.prog c [i64 e, i64 st, .bp 1 0] 28 dst K :=
  callG_same ⟨_, Tryz.func28, rfl, by kernel_rfl⟩ rfl (c_Do1 (q := c.base + 1) (clock := clock) (l := l) (boxUp rfl hbox)) h
theorem c_Do_copy {n : Node} {t a b : ByteArray} {clock : Int} {l : List File} (hz : SzN n) (hn : aloneOk n = true) (ht : t.size ≤ 65536) (hd : okD clock l = true) (hl : l.length ≤ 256) (hV : wordsV t = [copyW, a, b]) (hE : wordsE t = 0) (ha : isName a = true) (hb : isName b = true) :
    XPure Tryz.prog 9 [eN n, str t, eD clock l, i64 0] (.tup [eDone (doCopy n clock l a b), i64 0]) false := by
  have hA : XPure Tryz.prog 25 [eN n] (i64 0) false := by
    have h := c_alone hz
    rwa [hn, show errIf true 7 = 0 from rfl] at h
  have hD : XPure Tryz.prog 26 [eD clock l] (i64 0) false := by
    have h := c_disk_Check (clock := clock) (l := l)
    rwa [hd, show errIf true 4 = 0 from rfl] at h
  refine XPure.body ⟨_, Tryz.func9, rfl, by kernel_rfl⟩ Tryz.func9 rfl (Nat.le_of_ble_eq_true (by rfl)) (pf_of1 rfl) fun env => ?_
  iterate 16 any_goals try ((conv => whnf); (fail_if_success (with_reducible show ∃ _, _ ∧ _ ∧ Weak _ _ _)); first | ((with_reducible show guardA _ _ _ _ _ _ ∨ _); first | (refine .inr ?_; (conv => whnf); refine ⟨_, ?_, fun h => rfl, rfl, ?_⟩; ((conv => whnf); first | exact trivial | (refine ⟨?_, trivial⟩; exact okG))) | (refine .inr ?_; (conv => whnf); refine ⟨_, trivial, fun h => ⟨?_, ?_, ?_, rfl⟩, rfl, ?_⟩; (first | exact h | rfl); exact okG; exact okG) | refine .inl ?_) | refine cY ?_ (by first | (with_reducible first | rfl | assumption) | decide) | refine cN ?_ (by first | (with_reducible first | rfl | assumption) | decide) | refine gA ?_ (by first | (with_reducible first | rfl | assumption) | decide) | refine gB ?_ (by first | (with_reducible first | rfl | assumption) | decide) | refine gC ?_ (by first | (with_reducible first | rfl | assumption) | decide) | ((first | refine gsT (fun h => ?_) (fun h => ?_) | refine gsF (fun h => ?_) (fun h => ?_) | refine ⟨fun h => ?_, fun h => ?_⟩) <;> (have hs := h; try simp only [cs, reduceCtorEq, Int.reduceEq, Int.reduceNe, Int.reduceLT, Int.reduceLE, Int.reduceBEq, Int.reduceBNe] at hs)) | (refine .inl ⟨_, _, hA, ?_⟩) | (refine .inl ⟨_, _, hD, ?_⟩) | (refine .inl ⟨_, _, c_CloneF (by omega), ?_⟩) | (refine .inl ⟨_, _, c_may_copy hz.needs.1 hV hE ha hb, ?_⟩) | ((with_reducible show _ ∧ _ ∧ Weak _ _ _); refine ⟨?_, ?_, Weak.go⟩; (omega)) | ((with_reducible show (_ ∧ _ ∧ _) ∧ _); refine ⟨⟨by kernel_rfl, by kernel_rfl, by rfl⟩, ?_⟩) | ((with_reducible show AV.pf _ = true ∧ _); refine pfA ?_) | (refine ⟨rfl, ?_, ?_, ?_⟩; exact okG; exact okG) | ((with_reducible show (_ ∨ _) ∧ _ ∧ retA _ _ _ _ _); refine ⟨?_, rfl, ?_⟩; (first | exact .inr rfl | exact .inl rfl)) | ((with_reducible show _ = _ ∧ _ = false ∧ _ = _); refine ⟨?_, rfl, rfl⟩; try (first | rfl | (conv => lhs; whnf))) | ((with_reducible show LeqD _ _); try (first | exact okN | (first | rfl | (conv => lhs; whnf))); done) | ((with_reducible show _ = _ ∧ (_ → _)); refine ⟨?_, ?_⟩; try (first | rfl | (conv => lhs; whnf))) | exact fun h => h | exact fun _ => rfl | refine ⟨rfl, ?_⟩ | (refine ⟨Nat.le_of_ble_eq_true rfl, ?_⟩) | (refine ⟨?_, ?_, ?_⟩; exact okS; exact okS) | (refine ⟨?_, ?_⟩; exact okS) | fail)
  · omega
  · repeat' ((conv => whnf); (fail_if_success (with_reducible show ∃ _, _ ∧ _ ∧ Weak _ _ _)); first | ((with_reducible show guardA _ _ _ _ _ _ ∨ _); first | (refine .inr ?_; (conv => whnf); refine ⟨_, ?_, fun h => rfl, rfl, ?_⟩; ((conv => whnf); first | exact trivial | (refine ⟨?_, trivial⟩; exact okG))) | (refine .inr ?_; (conv => whnf); refine ⟨_, trivial, fun h => ⟨?_, ?_, ?_, rfl⟩, rfl, ?_⟩; (first | exact h | rfl); exact okG; exact okG) | refine .inl ?_) | refine cY ?_ (by first | (with_reducible first | rfl | assumption) | decide) | refine cN ?_ (by first | (with_reducible first | rfl | assumption) | decide) | refine gA ?_ (by first | (with_reducible first | rfl | assumption) | decide) | refine gB ?_ (by first | (with_reducible first | rfl | assumption) | decide) | refine gC ?_ (by first | (with_reducible first | rfl | assumption) | decide) | ((first | refine gsT (fun h => ?_) (fun h => ?_) | refine gsF (fun h => ?_) (fun h => ?_) | refine ⟨fun h => ?_, fun h => ?_⟩) <;> (have hs := h; try simp only [cs, reduceCtorEq, Int.reduceEq, Int.reduceNe, Int.reduceLT, Int.reduceLE, Int.reduceBEq, Int.reduceBNe] at hs)) | (refine .inl ⟨_, _, c_done_copy, ?_⟩) | ((with_reducible show _ ∧ _ ∧ Weak _ _ _); refine ⟨?_, ?_, Weak.go⟩; (omega)) | ((with_reducible show (_ ∧ _ ∧ _) ∧ _); refine ⟨⟨by kernel_rfl, by kernel_rfl, by rfl⟩, ?_⟩) | ((with_reducible show AV.pf _ = true ∧ _); refine pfA ?_) | (refine ⟨rfl, ?_, ?_, ?_⟩; exact okG; exact okG) | ((with_reducible show (_ ∨ _) ∧ _ ∧ retA _ _ _ _ _); refine ⟨?_, rfl, ?_⟩; (first | exact .inr rfl | exact .inl rfl)) | ((with_reducible show _ = _ ∧ _ = false ∧ _ = _); refine ⟨?_, rfl, rfl⟩; try (skip)) | ((with_reducible show LeqD _ _); try (first | exact okN | (skip)); done) | ((with_reducible show _ = _ ∧ (_ → _)); refine ⟨?_, ?_⟩; try (skip)) | exact fun h => h | exact fun _ => rfl | refine ⟨rfl, ?_⟩ | (refine ⟨Nat.le_of_ble_eq_true rfl, ?_⟩) | (refine ⟨?_, ?_, ?_⟩; exact okS; exact okS) | (refine ⟨?_, ?_⟩; exact okS) | fail)
    refine callG_args (args' := [i64 (mayE n a b), i64 0, .bp 1 0]) (by kernel_rfl) ?_
    refine callG_do1 (clock := clock) (l := l) (by kernel_rfl) ?_
    repeat' ((conv => whnf); (fail_if_success (with_reducible show ∃ _, _ ∧ _ ∧ Weak _ _ _)); first | ((with_reducible show guardA _ _ _ _ _ _ ∨ _); first | (refine .inr ?_; (conv => whnf); refine ⟨_, ?_, fun h => rfl, rfl, ?_⟩; ((conv => whnf); first | exact trivial | (refine ⟨?_, trivial⟩; exact okG))) | (refine .inr ?_; (conv => whnf); refine ⟨_, trivial, fun h => ⟨?_, ?_, ?_, rfl⟩, rfl, ?_⟩; (first | exact h | rfl); exact okG; exact okG) | refine .inl ?_) | refine cY ?_ (by first | (with_reducible first | rfl | assumption) | decide) | refine cN ?_ (by first | (with_reducible first | rfl | assumption) | decide) | refine gA ?_ (by first | (with_reducible first | rfl | assumption) | decide) | refine gB ?_ (by first | (with_reducible first | rfl | assumption) | decide) | refine gC ?_ (by first | (with_reducible first | rfl | assumption) | decide) | ((first | refine gsT (fun h => ?_) (fun h => ?_) | refine gsF (fun h => ?_) (fun h => ?_) | refine ⟨fun h => ?_, fun h => ?_⟩) <;> (have hs := h; try simp only [cs, reduceCtorEq, Int.reduceEq, Int.reduceNe, Int.reduceLT, Int.reduceLE, Int.reduceBEq, Int.reduceBNe] at hs)) | ((with_reducible show _ ∧ _ ∧ Weak _ _ _); refine ⟨?_, ?_, Weak.go⟩; (omega)) | ((with_reducible show (_ ∧ _ ∧ _) ∧ _); refine ⟨⟨by kernel_rfl, by kernel_rfl, by rfl⟩, ?_⟩) | ((with_reducible show AV.pf _ = true ∧ _); refine pfA ?_) | (refine ⟨rfl, ?_, ?_, ?_⟩; exact okG; exact okG) | ((with_reducible show (_ ∨ _) ∧ _ ∧ retA _ _ _ _ _); refine ⟨?_, rfl, ?_⟩; (first | exact .inr rfl | exact .inl rfl)) | ((with_reducible show _ = _ ∧ _ = false ∧ _ = _); refine ⟨?_, rfl, rfl⟩; try (skip)) | ((with_reducible show LeqD _ _); try (first | exact okN | (skip)); done) | ((with_reducible show _ = _ ∧ (_ → _)); refine ⟨?_, ?_⟩; try (skip)) | exact fun h => h | exact fun _ => rfl | refine ⟨rfl, ?_⟩ | (refine ⟨Nat.le_of_ble_eq_true rfl, ?_⟩) | (refine ⟨?_, ?_, ?_⟩; exact okS; exact okS) | (refine ⟨?_, ?_⟩; exact okS) | fail)
    refine Eq.trans (b := AV.tup [eDone ⟨clock, l, .empty, false, if (0 : Int) = 0 then statusOf (mayE n a b) else 0, mayE n a b⟩, i64 0]) (by kernel_rfl) ?_
    exact doneEq (by unfold doCopy; rw [if_neg hs]; rfl)
  · repeat' ((conv => whnf); (fail_if_success (with_reducible show ∃ _, _ ∧ _ ∧ Weak _ _ _)); first | ((with_reducible show guardA _ _ _ _ _ _ ∨ _); first | (refine .inr ?_; (conv => whnf); refine ⟨_, ?_, fun h => rfl, rfl, ?_⟩; ((conv => whnf); first | exact trivial | (refine ⟨?_, trivial⟩; exact okG))) | (refine .inr ?_; (conv => whnf); refine ⟨_, trivial, fun h => ⟨?_, ?_, ?_, rfl⟩, rfl, ?_⟩; (first | exact h | rfl); exact okG; exact okG) | refine .inl ?_) | refine cY ?_ (by first | (with_reducible first | rfl | assumption) | decide) | refine cN ?_ (by first | (with_reducible first | rfl | assumption) | decide) | refine gA ?_ (by first | (with_reducible first | rfl | assumption) | decide) | refine gB ?_ (by first | (with_reducible first | rfl | assumption) | decide) | refine gC ?_ (by first | (with_reducible first | rfl | assumption) | decide) | ((first | refine gsT (fun h => ?_) (fun h => ?_) | refine gsF (fun h => ?_) (fun h => ?_) | refine ⟨fun h => ?_, fun h => ?_⟩) <;> (have hs := h; try simp only [cs, reduceCtorEq, Int.reduceEq, Int.reduceNe, Int.reduceLT, Int.reduceLE, Int.reduceBEq, Int.reduceBNe] at hs)) | (refine .inl ⟨_, _, c_done_copy, ?_⟩) | ((with_reducible show _ ∧ _ ∧ Weak _ _ _); refine ⟨?_, ?_, Weak.go⟩; (omega)) | ((with_reducible show (_ ∧ _ ∧ _) ∧ _); refine ⟨⟨by kernel_rfl, by kernel_rfl, by rfl⟩, ?_⟩) | ((with_reducible show AV.pf _ = true ∧ _); refine pfA ?_) | (refine ⟨rfl, ?_, ?_, ?_⟩; exact okG; exact okG) | ((with_reducible show (_ ∨ _) ∧ _ ∧ retA _ _ _ _ _); refine ⟨?_, rfl, ?_⟩; (first | exact .inr rfl | exact .inl rfl)) | ((with_reducible show _ = _ ∧ _ = false ∧ _ = _); refine ⟨?_, rfl, rfl⟩; try (skip)) | ((with_reducible show LeqD _ _); try (first | exact okN | (skip)); done) | ((with_reducible show _ = _ ∧ (_ → _)); refine ⟨?_, ?_⟩; try (skip)) | exact fun h => h | exact fun _ => rfl | refine ⟨rfl, ?_⟩ | (refine ⟨Nat.le_of_ble_eq_true rfl, ?_⟩) | (refine ⟨?_, ?_, ?_⟩; exact okS; exact okS) | (refine ⟨?_, ?_⟩; exact okS) | fail)
    · refine callG_args (args' := [i64 (doneE clock l a b), i64 0, .bp 1 0]) (by kernel_rfl) ?_
      refine callG_do1 (clock := clock) (l := l) (by kernel_rfl) ?_
      repeat' ((conv => whnf); (fail_if_success (with_reducible show ∃ _, _ ∧ _ ∧ Weak _ _ _)); first | ((with_reducible show guardA _ _ _ _ _ _ ∨ _); first | (refine .inr ?_; (conv => whnf); refine ⟨_, ?_, fun h => rfl, rfl, ?_⟩; ((conv => whnf); first | exact trivial | (refine ⟨?_, trivial⟩; exact okG))) | (refine .inr ?_; (conv => whnf); refine ⟨_, trivial, fun h => ⟨?_, ?_, ?_, rfl⟩, rfl, ?_⟩; (first | exact h | rfl); exact okG; exact okG) | refine .inl ?_) | refine cY ?_ (by first | (with_reducible first | rfl | assumption) | decide) | refine cN ?_ (by first | (with_reducible first | rfl | assumption) | decide) | refine gA ?_ (by first | (with_reducible first | rfl | assumption) | decide) | refine gB ?_ (by first | (with_reducible first | rfl | assumption) | decide) | refine gC ?_ (by first | (with_reducible first | rfl | assumption) | decide) | ((first | refine gsT (fun h => ?_) (fun h => ?_) | refine gsF (fun h => ?_) (fun h => ?_) | refine ⟨fun h => ?_, fun h => ?_⟩) <;> (have hs := h; try simp only [cs, reduceCtorEq, Int.reduceEq, Int.reduceNe, Int.reduceLT, Int.reduceLE, Int.reduceBEq, Int.reduceBNe] at hs)) | ((with_reducible show _ ∧ _ ∧ Weak _ _ _); refine ⟨?_, ?_, Weak.go⟩; (omega)) | ((with_reducible show (_ ∧ _ ∧ _) ∧ _); refine ⟨⟨by kernel_rfl, by kernel_rfl, by rfl⟩, ?_⟩) | ((with_reducible show AV.pf _ = true ∧ _); refine pfA ?_) | (refine ⟨rfl, ?_, ?_, ?_⟩; exact okG; exact okG) | ((with_reducible show (_ ∨ _) ∧ _ ∧ retA _ _ _ _ _); refine ⟨?_, rfl, ?_⟩; (first | exact .inr rfl | exact .inl rfl)) | ((with_reducible show _ = _ ∧ _ = false ∧ _ = _); refine ⟨?_, rfl, rfl⟩; try (skip)) | ((with_reducible show LeqD _ _); try (first | exact okN | (skip)); done) | ((with_reducible show _ = _ ∧ (_ → _)); refine ⟨?_, ?_⟩; try (skip)) | exact fun h => h | exact fun _ => rfl | refine ⟨rfl, ?_⟩ | (refine ⟨Nat.le_of_ble_eq_true rfl, ?_⟩) | (refine ⟨?_, ?_, ?_⟩; exact okS; exact okS) | (refine ⟨?_, ?_⟩; exact okS) | fail)
      refine Eq.trans (b := AV.tup [eDone ⟨clock, l, .empty, false, if (0 : Int) = 0 then statusOf (doneE clock l a b) else 0, doneE clock l a b⟩, i64 0]) (by kernel_rfl) ?_
      have hm : mayE n a b = 0 := by assumption
      exact doneEq (by unfold doCopy; rw [if_pos hm, if_neg hs]; rfl)
    · repeat' ((conv => whnf); (fail_if_success (with_reducible show ∃ _, _ ∧ _ ∧ Weak _ _ _)); first | ((with_reducible show guardA _ _ _ _ _ _ ∨ _); first | (refine .inr ?_; (conv => whnf); refine ⟨_, ?_, fun h => rfl, rfl, ?_⟩; ((conv => whnf); first | exact trivial | (refine ⟨?_, trivial⟩; exact okG))) | (refine .inr ?_; (conv => whnf); refine ⟨_, trivial, fun h => ⟨?_, ?_, ?_, rfl⟩, rfl, ?_⟩; (first | exact h | rfl); exact okG; exact okG) | refine .inl ?_) | refine cY ?_ (by first | (with_reducible first | rfl | assumption) | decide) | refine cN ?_ (by first | (with_reducible first | rfl | assumption) | decide) | refine gA ?_ (by first | (with_reducible first | rfl | assumption) | decide) | refine gB ?_ (by first | (with_reducible first | rfl | assumption) | decide) | refine gC ?_ (by first | (with_reducible first | rfl | assumption) | decide) | ((first | refine gsT (fun h => ?_) (fun h => ?_) | refine gsF (fun h => ?_) (fun h => ?_) | refine ⟨fun h => ?_, fun h => ?_⟩) <;> (have hs := h; try simp only [cs, reduceCtorEq, Int.reduceEq, Int.reduceNe, Int.reduceLT, Int.reduceLE, Int.reduceBEq, Int.reduceBNe] at hs)) | (refine .inl ⟨_, _, c_Writes_copy ha hb, ?_⟩) | ((with_reducible show _ ∧ _ ∧ Weak _ _ _); refine ⟨?_, ?_, Weak.go⟩; (omega)) | ((with_reducible show (_ ∧ _ ∧ _) ∧ _); refine ⟨⟨by kernel_rfl, by kernel_rfl, by rfl⟩, ?_⟩) | ((with_reducible show AV.pf _ = true ∧ _); refine pfA ?_) | (refine ⟨rfl, ?_, ?_, ?_⟩; exact okG; exact okG) | ((with_reducible show (_ ∨ _) ∧ _ ∧ retA _ _ _ _ _); refine ⟨?_, rfl, ?_⟩; (first | exact .inr rfl | exact .inl rfl)) | ((with_reducible show _ = _ ∧ _ = false ∧ _ = _); refine ⟨?_, rfl, rfl⟩; try (skip)) | ((with_reducible show LeqD _ _); try (first | exact okN | (skip)); done) | ((with_reducible show _ = _ ∧ (_ → _)); refine ⟨?_, ?_⟩; try (skip)) | exact fun h => h | exact fun _ => rfl | refine ⟨rfl, ?_⟩ | (refine ⟨Nat.le_of_ble_eq_true rfl, ?_⟩) | (refine ⟨?_, ?_, ?_⟩; exact okS; exact okS) | (refine ⟨?_, ?_⟩; exact okS) | fail)
      refine Eq.trans (b := AV.tup [eDone ⟨doneC clock l a b, doneL clock l a b, .empty, true, 0, 0⟩, i64 0]) (by kernel_rfl) ?_
      have hm : mayE n a b = 0 := by assumption
      exact doneEq (by unfold doCopy; rw [if_pos hm, if_pos hs])
end Go.Proofs.YtepdiooaoegpfaaGreatDoor.Fx
end
section
/- The little program of the laws of commands that are done. Conditions: none. -/
namespace Go.Proofs.YtepdiooaoegpfaaGreatDoor.Fx
open Go Go.Proofs Go.Ev Go.RowKit
set_option maxRecDepth 100000
set_option maxHeartbeats 6400000
set_option linter.unusedSimpArgs false
set_option linter.unusedVariables false
abbrev aW : ByteArray := ⟨#[97]⟩
abbrev bW : ByteArray := ⟨#[98]⟩
abbrev tW : ByteArray := ⟨#[116]⟩
abbrev xW : ByteArray := ⟨#[120]⟩
abbrev line1 : ByteArray := ⟨#[99, 111, 112, 121, 32, 97, 32, 116]⟩
abbrev line2 : ByteArray := ⟨#[99, 111, 112, 121, 32, 98, 32, 116]⟩
abbrev fs0 : List File := [⟨aW, xW, 2⟩, ⟨bW, .empty, 1⟩]
abbrev n0 : Node := { target := tW, needs := [aW], recipe := [], has := false, source := .empty, stem := .empty, phony := false, precious := false, ignore := false, silent := false }
theorem v1 : wordsV line1 = [copyW, aW, tW] := by kernel_rfl
theorem v2 : wordsV line2 = [copyW, bW, tW] := by kernel_rfl
theorem e1 : wordsE line1 = 0 := by kernel_rfl
theorem e2 : wordsE line2 = 0 := by kernel_rfl
theorem na : isName aW = true := by kernel_rfl
theorem nb : isName bW = true := by kernel_rfl
theorem nt : isName tW = true := by kernel_rfl
theorem ok0 : okD 4 fs0 = true := by kernel_rfl
theorem alone0 : aloneOk n0 = true := by kernel_rfl
theorem do1 : doCopy n0 4 fs0 aW tW = ⟨5, [⟨aW, xW, 2⟩, ⟨bW, .empty, 1⟩, ⟨tW, xW, 5⟩], .empty, true, 0, 0⟩ := by kernel_rfl
theorem do2 : doCopy n0 4 fs0 bW tW = ⟨4, fs0, .empty, false, 3, 170⟩ := by kernel_rfl
theorem sz0 : SzN n0 := ⟨Nat.le_of_ble_eq_true rfl, ⟨Nat.le_of_ble_eq_true rfl, by intro x hx; rw [List.mem_singleton] at hx; subst hx; exact Nat.le_of_ble_eq_true rfl⟩, ⟨Nat.zero_le _, by intro x hx; cases hx⟩⟩
abbrev vN0 : AV := .agg [str tW, eS [aW], nilv, bln false, str .empty, str .empty, bln false, bln false, bln false, bln false]
theorem leqN0 {t : ByteArray} : LeqDL [vN0, str t, eD 4 fs0, i64 0] [eN n0, str t, eD 4 fs0, i64 0] := by
  refine LeqDL.cons (LeqD.agg ?_) (LeqDL.refl _)
  repeat' (first | exact LeqD.nil (by decide) | exact LeqD.refl _ | exact LeqDL.refl _ | refine LeqDL.cons ?_ ?_)
theorem c_Do1' : XPure Tryz.prog 9 [vN0, str line1, eD 4 fs0, i64 0] (.tup [eDone ⟨5, [⟨aW, xW, 2⟩, ⟨bW, .empty, 1⟩, ⟨tW, xW, 5⟩], .empty, true, 0, 0⟩, i64 0]) false := by
  have h := (c_Do_copy (t := line1) sz0 alone0 (Nat.le_of_ble_eq_true rfl) ok0 (Nat.le_of_ble_eq_true rfl) v1 e1 na nt).nils leqN0
  rwa [do1] at h
theorem c_Do2' : XPure Tryz.prog 9 [vN0, str line2, eD 4 fs0, i64 0] (.tup [eDone ⟨4, fs0, .empty, false, 3, 170⟩, i64 0]) false := by
  have h := (c_Do_copy (t := line2) sz0 alone0 (Nat.le_of_ble_eq_true rfl) ok0 (Nat.le_of_ble_eq_true rfl) v2 e2 nb nt).nils leqN0
  rwa [do2] at h
end Go.Proofs.YtepdiooaoegpfaaGreatDoor.Fx
end
section
/- The little program of the laws of commands that are done. Conditions: none. -/
namespace Go.Proofs.YtepdiooaoegpfaaGreatDoor.Fx
open Go Go.Proofs Go.Ev Go.RowKit
set_option maxRecDepth 100000
set_option maxHeartbeats 6400000
set_option linter.unusedSimpArgs false
set_option linter.unusedVariables false
theorem absF {b : Bool} (h1 : b = false) (h2 : b = true) : False := by rw [h2] at h1; cases h1
theorem xargs {P : Program} {f : FuncId} {args args' : List AV} {r : AV} {ow : Bool} (h : args = args') (hx : XPure P f args' r ow) : XPure P f args r ow := h ▸ hx
theorem c_small : XPure Tryz.prog 13 [] (bln true) false := by
  refine XPure.body ⟨_, Tryz.func13, rfl, by kernel_rfl⟩ Tryz.func13 rfl (Nat.le_of_ble_eq_true (by rfl)) (pf_of1 rfl) fun env => ?_
  repeat' ((conv => whnf); (fail_if_success (with_reducible show ∃ _, _ ∧ _ ∧ Weak _ _ _)); first | ((with_reducible show guardA _ _ _ _ _ _ ∨ _); first | (refine .inr ?_; (conv => whnf); refine ⟨_, ?_, fun h => rfl, rfl, ?_⟩; ((conv => whnf); first | exact trivial | (refine ⟨?_, trivial⟩; exact okG))) | (refine .inr ?_; (conv => whnf); refine ⟨_, trivial, fun h => ⟨?_, ?_, ?_, rfl⟩, rfl, ?_⟩; (first | exact h | rfl); exact okG; exact okG) | refine .inl ?_) | refine cY ?_ | refine cN ?_ | refine gA ?_ | refine gB ?_ | refine gC ?_ | ((first | refine gsT (fun h => ?_) (fun h => ?_) | refine gsF (fun h => ?_) (fun h => ?_) | refine ⟨fun h => ?_, fun h => ?_⟩) <;> (have hs := h; try simp only [cs, reduceCtorEq, Int.reduceEq, Int.reduceNe, Int.reduceLT, Int.reduceLE, Int.reduceBEq, Int.reduceBNe] at hs)) | ((with_reducible show _ ∧ _ ∧ Weak _ _ _); refine ⟨?_, ?_, Weak.go⟩; (omega)) | ((with_reducible show (_ ∧ _ ∧ _) ∧ _); refine ⟨⟨by kernel_rfl, by kernel_rfl, by rfl⟩, ?_⟩) | ((with_reducible show AV.pf _ = true ∧ _); refine pfA ?_) | (refine ⟨rfl, ?_, ?_, ?_⟩; exact okG; exact okG) | ((with_reducible show (_ ∨ _) ∧ _ ∧ retA _ _ _ _ _); refine ⟨?_, rfl, ?_⟩; (first | exact .inr rfl | exact .inl rfl)) | ((with_reducible show _ = _ ∧ _ = false ∧ _ = _); refine ⟨?_, rfl, rfl⟩; try (skip)) | ((with_reducible show LeqD _ _); try (first | exact okN | (skip)); done) | ((with_reducible show _ = _ ∧ (_ → _)); refine ⟨?_, ?_⟩; try (skip)) | exact fun h => h | exact fun _ => rfl | refine ⟨rfl, ?_⟩ | (refine ⟨Nat.le_of_ble_eq_true rfl, ?_⟩) | (refine ⟨?_, ?_, ?_⟩; exact okS; exact okS) | (refine ⟨?_, ?_⟩; exact okS) | fail)
  refine .inl ⟨_, _, xargs (args' := [vN0, str line1, eD 4 fs0, i64 0]) (by kernel_rfl) c_Do1', ?_⟩
  iterate 10 any_goals try ((conv => whnf); (fail_if_success (with_reducible show ∃ _, _ ∧ _ ∧ Weak _ _ _)); first | ((with_reducible show guardA _ _ _ _ _ _ ∨ _); first | (refine .inr ?_; (conv => whnf); refine ⟨_, ?_, fun h => rfl, rfl, ?_⟩; ((conv => whnf); first | exact trivial | (refine ⟨?_, trivial⟩; exact okG))) | (refine .inr ?_; (conv => whnf); refine ⟨_, trivial, fun h => ⟨?_, ?_, ?_, rfl⟩, rfl, ?_⟩; (first | exact h | rfl); exact okG; exact okG) | refine .inl ?_) | refine cY ?_ | refine cN ?_ | refine gA ?_ | refine gB ?_ | refine gC ?_ | ((first | refine gsT (fun h => ?_) (fun h => ?_) | refine gsF (fun h => ?_) (fun h => ?_) | refine ⟨fun h => ?_, fun h => ?_⟩) <;> (have hs := h; try simp only [cs, reduceCtorEq, Int.reduceEq, Int.reduceNe, Int.reduceLT, Int.reduceLE, Int.reduceBEq, Int.reduceBNe] at hs)) | ((with_reducible show _ ∧ _ ∧ Weak _ _ _); refine ⟨?_, ?_, Weak.go⟩; (omega)) | ((with_reducible show (_ ∧ _ ∧ _) ∧ _); refine ⟨⟨by kernel_rfl, by kernel_rfl, by rfl⟩, ?_⟩) | ((with_reducible show AV.pf _ = true ∧ _); refine pfA ?_) | (refine ⟨rfl, ?_, ?_, ?_⟩; exact okG; exact okG) | ((with_reducible show (_ ∨ _) ∧ _ ∧ retA _ _ _ _ _); refine ⟨?_, rfl, ?_⟩; (first | exact .inr rfl | exact .inl rfl)) | ((with_reducible show _ = _ ∧ _ = false ∧ _ = _); refine ⟨?_, rfl, rfl⟩; try (skip)) | ((with_reducible show LeqD _ _); try (first | exact okN | (skip)); done) | ((with_reducible show _ = _ ∧ (_ → _)); refine ⟨?_, ?_⟩; try (skip)) | exact fun h => h | exact fun _ => rfl | refine ⟨rfl, ?_⟩ | (refine ⟨Nat.le_of_ble_eq_true rfl, ?_⟩) | (refine ⟨?_, ?_, ?_⟩; exact okS; exact okS) | (refine ⟨?_, ?_⟩; exact okS) | fail)
  refine .inl ⟨_, _, xargs (args' := [vN0, str line2, eD 4 fs0, i64 0]) (by kernel_rfl) c_Do2', ?_⟩
  repeat' ((conv => whnf); (fail_if_success (with_reducible show ∃ _, _ ∧ _ ∧ Weak _ _ _)); first | ((with_reducible show guardA _ _ _ _ _ _ ∨ _); first | refine .inl ?_) | refine cY ?_ (by first | (with_reducible first | rfl | assumption) | decide) | refine cN ?_ (by first | (with_reducible first | rfl | assumption) | decide) | refine gA ?_ (by first | (with_reducible first | rfl | assumption) | decide) | refine gB ?_ (by first | (with_reducible first | rfl | assumption) | decide) | refine gC ?_ (by first | (with_reducible first | rfl | assumption) | decide) | ((first | refine gsT (fun h => ?_) (fun h => ?_) | refine gsF (fun h => ?_) (fun h => ?_) | refine ⟨fun h => ?_, fun h => ?_⟩) <;> (have hs := h; try simp only [cs, reduceCtorEq, Int.reduceEq, Int.reduceNe, Int.reduceLT, Int.reduceLE, Int.reduceBEq, Int.reduceBNe] at hs)) | ((with_reducible show _ ∧ _ ∧ Weak _ _ _); refine ⟨?_, ?_, Weak.go⟩; (omega)) | ((with_reducible show (_ ∧ _ ∧ _) ∧ _); refine ⟨⟨by kernel_rfl, by kernel_rfl, by rfl⟩, ?_⟩) | ((with_reducible show AV.pf _ = true ∧ _); refine pfA ?_) | (refine ⟨rfl, ?_, ?_, ?_⟩; exact okG; exact okG) | ((with_reducible show (_ ∨ _) ∧ _ ∧ retA _ _ _ _ _); refine ⟨?_, rfl, ?_⟩; (first | exact .inr rfl | exact .inl rfl)) | ((with_reducible show _ = _ ∧ _ = false ∧ _ = _); refine ⟨?_, rfl, rfl⟩; try (skip)) | ((with_reducible show LeqD _ _); try (first | exact okN | (skip)); done) | ((with_reducible show _ = _ ∧ (_ → _)); refine ⟨?_, ?_⟩; try (skip)) | exact fun h => h | exact fun _ => rfl | refine ⟨rfl, ?_⟩ | (refine ⟨Nat.le_of_ble_eq_true rfl, ?_⟩) | (refine ⟨?_, ?_, ?_⟩; exact okS; exact okS) | (refine ⟨?_, ?_⟩; exact okS) | fail)
  all_goals try exact (absF h (by kernel_rfl)).elim
  · conv => whnf
    refine .inl ⟨_, _, xargs (args' := [eD 4 fs0, eD 4 fs0]) (by kernel_rfl) (c_plain_Disk (l := fs0) (m := fs0) (Nat.le_of_ble_eq_true rfl) (Nat.le_of_ble_eq_true rfl)), ?_⟩
    repeat' ((conv => whnf); (fail_if_success (with_reducible show ∃ _, _ ∧ _ ∧ Weak _ _ _)); first | ((with_reducible show guardA _ _ _ _ _ _ ∨ _); first | refine .inl ?_) | refine cY ?_ (by first | (with_reducible first | rfl | assumption) | decide) | refine cN ?_ (by first | (with_reducible first | rfl | assumption) | decide) | refine gA ?_ (by first | (with_reducible first | rfl | assumption) | decide) | refine gB ?_ (by first | (with_reducible first | rfl | assumption) | decide) | refine gC ?_ (by first | (with_reducible first | rfl | assumption) | decide) | ((first | refine gsT (fun h => ?_) (fun h => ?_) | refine gsF (fun h => ?_) (fun h => ?_) | refine ⟨fun h => ?_, fun h => ?_⟩) <;> (have hs := h; try simp only [cs, reduceCtorEq, Int.reduceEq, Int.reduceNe, Int.reduceLT, Int.reduceLE, Int.reduceBEq, Int.reduceBNe] at hs)) | ((with_reducible show _ ∧ _ ∧ Weak _ _ _); refine ⟨?_, ?_, Weak.go⟩; (omega)) | ((with_reducible show (_ ∧ _ ∧ _) ∧ _); refine ⟨⟨by kernel_rfl, by kernel_rfl, by rfl⟩, ?_⟩) | ((with_reducible show AV.pf _ = true ∧ _); refine pfA ?_) | (refine ⟨rfl, ?_, ?_, ?_⟩; exact okG; exact okG) | ((with_reducible show (_ ∨ _) ∧ _ ∧ retA _ _ _ _ _); refine ⟨?_, rfl, ?_⟩; (first | exact .inr rfl | exact .inl rfl)) | ((with_reducible show _ = _ ∧ _ = false ∧ _ = _); refine ⟨?_, rfl, rfl⟩; try (skip)) | ((with_reducible show LeqD _ _); try (first | exact okN | (skip)); done) | ((with_reducible show _ = _ ∧ (_ → _)); refine ⟨?_, ?_⟩; try (skip)) | exact fun h => h | exact fun _ => rfl | refine ⟨rfl, ?_⟩ | (refine ⟨Nat.le_of_ble_eq_true rfl, ?_⟩) | (refine ⟨?_, ?_, ?_⟩; exact okS; exact okS) | (refine ⟨?_, ?_⟩; exact okS) | fail)
    all_goals kernel_rfl
end Go.Proofs.YtepdiooaoegpfaaGreatDoor.Fx
end
section
/- The law ExecMays as a function: always true. Conditions: the sizes that a row tells. -/
namespace Go.Proofs.YtepdiooaoegpfaaGreatDoor.Fx
open Go Go.Proofs Go.Ev Go.RowKit
set_option maxRecDepth 100000
set_option maxHeartbeats 6400000
set_option linter.unusedSimpArgs false
set_option linter.unusedVariables false
abbrev eCase (n : Node) (t : ByteArray) (c : Int) (l : List File) (k : Int) : AV := .agg [str n.target, eS n.needs, eS n.recipe, bln n.has, str n.source, str n.stem, bln n.phony, bln n.precious, bln n.ignore, bln n.silent, str t, i64 c, eFs l, i64 k]
theorem c_law_Mays {n : Node} {t : ByteArray} {c k st : Int} {l : List File} (hz : SzN n) : XPure Tryz.prog 6 [eCase n t c l k, i64 st] (bln true) false := by
  refine XPure.body ⟨_, Tryz.func6, rfl, by kernel_rfl⟩ Tryz.func6 rfl (Nat.le_of_ble_eq_true (by rfl)) (pf_of1 rfl) fun env => ?_
  repeat' ((conv => whnf); (fail_if_success (with_reducible show ∃ _, _ ∧ _ ∧ Weak _ _ _)); first | ((with_reducible show guardA _ _ _ _ _ _ ∨ _); first | refine .inl ?_) | refine cY ?_ (by first | (with_reducible first | rfl | assumption) | grind [beqS_self]) | refine cN ?_ (by first | (with_reducible first | rfl | assumption) | grind [beqS_self]) | refine gA ?_ (by first | (with_reducible first | rfl | assumption) | grind [beqS_self]) | refine gB ?_ (by first | (with_reducible first | rfl | assumption) | grind [beqS_self]) | refine gC ?_ (by first | (with_reducible first | rfl | assumption) | grind [beqS_self]) | ((first | refine gsT (fun h => ?_) (fun h => ?_) | refine gsF (fun h => ?_) (fun h => ?_) | refine ⟨fun h => ?_, fun h => ?_⟩) <;> (have hs := h; try simp only [cs, reduceCtorEq, Int.reduceEq, Int.reduceNe, Int.reduceLT, Int.reduceLE, Int.reduceBEq, Int.reduceBNe] at hs)) | (refine .inl ⟨_, _, c_exec_May (n := n) (t := t) hz, ?_⟩) | (refine .inl ⟨_, _, c_ref17_May (n := n) (t := t) hz, ?_⟩) | (refine .inl ⟨_, _, c_exec_Status, ?_⟩) | (refine .inl ⟨_, _, c_ref17_Status, ?_⟩) | (refine .inl ⟨_, _, c_small, ?_⟩) | ((with_reducible show _ ∧ _ ∧ Weak _ _ _); refine ⟨?_, ?_, Weak.go⟩; (omega)) | refine XW.dr (m := 22) ?_ | (refine ⟨_, _, c_exec_May (n := n) (t := t) hz, ?_⟩) | (refine ⟨_, _, c_ref17_May (n := n) (t := t) hz, ?_⟩) | (refine ⟨_, _, c_exec_Status, ?_⟩) | (refine ⟨_, _, c_ref17_Status, ?_⟩) | (refine ⟨_, _, c_small, ?_⟩) | ((with_reducible show (_ ∧ _ ∧ _) ∧ _); refine ⟨⟨by kernel_rfl, by kernel_rfl, by rfl⟩, ?_⟩) | ((with_reducible show AV.pf _ = true ∧ _); refine pfA ?_) | (refine ⟨rfl, ?_, ?_, ?_⟩; exact okG; exact okG) | ((with_reducible show (_ ∨ _) ∧ _ ∧ retA _ _ _ _ _); refine ⟨?_, rfl, ?_⟩; (first | exact .inr rfl | exact .inl rfl)) | ((with_reducible show _ = _ ∧ _ = false ∧ _ = _); refine ⟨?_, rfl, rfl⟩; try (skip)) | ((with_reducible show LeqD _ _); try (first | exact okN | (skip)); done) | ((with_reducible show _ = _ ∧ (_ → _)); refine ⟨?_, ?_⟩; try (skip)) | exact fun h => h | exact fun _ => rfl | refine ⟨rfl, ?_⟩ | (refine ⟨Nat.le_of_ble_eq_true rfl, ?_⟩) | (refine ⟨?_, ?_, ?_⟩; exact okS; exact okS) | (refine ⟨?_, ?_⟩; exact okS) | fail)
  all_goals (conv => lhs; whnf)
  all_goals simp [beqS_self]
end Go.Proofs.YtepdiooaoegpfaaGreatDoor.Fx
end
section
/- The law ExecScripted as a function: always true. Conditions: none beyond the length. -/
namespace Go.Proofs.YtepdiooaoegpfaaGreatDoor.Fx
open Go Go.Proofs Go.Ev Go.RowKit
set_option maxRecDepth 100000
set_option maxHeartbeats 6400000
set_option linter.unusedSimpArgs false
set_option linter.unusedVariables false
end Go.Proofs.YtepdiooaoegpfaaGreatDoor.Fx
end
section
/- From the row's reading of []api.Fail, a text and a number to trees, and the law's call. Conditions: none beyond those in each statement. -/
namespace Go.Proofs.YtepdiooaoegpfaaGreatDoor.Fx
open Go Go.Proofs Go.Ev Go.RowKit
set_option maxRecDepth 100000
set_option linter.unusedSimpArgs false
set_option linter.unusedVariables false
theorem leaf1 {x : AV} (h : x.isAgg = false) : x.leaves = [x] := by cases x <;> first | rfl | cases h
theorem shape_str {R : Nat} {P : Program} {d : Nat} {t : TypeId} {ls : List AV} (hu : P.underlying t = some .string) (h : Shape R P (d + 1) t ls) : ∃ s : ByteArray, ls = [str s] ∧ s.size ≤ R := by
  unfold Shape at h; rw [hu] at h; exact h
theorem shape_int {R : Nat} {P : Program} {d : Nat} {t : TypeId} {k : IntKind} {ls : List AV} (hu : P.underlying t = some (.int k)) (h : Shape R P (d + 1) t ls) : ∃ n : Int, ls = [.v (.int k n)] ∧ (Lit.int k n).wf = true := by
  unfold Shape at h; rw [hu] at h; exact h
theorem shape_sl {R : Nat} {P : Program} {d : Nat} {t e : TypeId} {ls : List AV} (hu : P.underlying t = some (.slice e)) (h : Shape R P (d + 1) t ls) : ∃ l : List AV, ls = [.sl (P.cellsOf e) l] ∧ l.length ≤ R ∧ ∀ x ∈ l, x.isAgg = isAggT P e ∧ x.isTup = false ∧ Shape R P d e x.leaves := by
  unfold Shape at h; rw [hu] at h; exact h
theorem shape_st {R : Nat} {P : Program} {d : Nat} {t : TypeId} {fs : Array Field} {ls : List AV} (hu : P.underlying t = some (.struct fs)) (h : Shape R P (d + 1) t ls) : ls.length = P.cellsOf t ∧ ∀ f ∈ fs.toList, Shape R P d f.type ((ls.drop f.offset).take (P.cellsOf f.type)) := by
  unfold Shape at h; rw [hu] at h; exact h
theorem cStr : Tryz.prog.cellsOf 9 = 1 := by kernel_rfl
theorem cInt : Tryz.prog.cellsOf 3 = 1 := by kernel_rfl
theorem one_of {x a : AV} (h : x.isAgg = false) (e : x.leaves = [a]) : x = a := by rw [leaf1 h] at e; exact (List.cons.inj e).1
end Go.Proofs.YtepdiooaoegpfaaGreatDoor.Fx
end
section
/- From the row's reading of a Case and a number to trees. Conditions: none beyond those in each statement. -/
namespace Go.Proofs.YtepdiooaoegpfaaGreatDoor.Fx
open Go Go.Proofs Go.Ev Go.RowKit
set_option maxRecDepth 100000
set_option linter.unusedSimpArgs false
set_option linter.unusedVariables false
/-- Are all elements of slices of so many bytes at most? -/
def szT (P : Program) (S : Nat) : Nat → TypeId → Bool
  | 0, _ => false
  | d + 1, t => match P.underlying t with
    | some (.slice e) => Nat.ble (P.bytesOf e) S && szT P S d e
    | some (.struct fs) => fs.toList.all fun f => szT P S d f.type
    | some .bool | some (.int _) | some .string => true
    | _ => false
theorem bulk_pos {H : Type} : ∀ d : DataW H, 1 ≤ Rows.uptoBulk d
  | .lit l => by cases l <;> simp [Rows.uptoBulk]
  | .nil | .held _ => by simp [Rows.uptoBulk]
  | .ptr _ | .slice _ _ | .agg _ | .iface _ _ | .map _ => by simp [Rows.uptoBulk]
theorem bulk_len {H : Type} : ∀ l : List (DataW H), l.length ≤ Rows.uptoBulkAll l
  | [] => Nat.le_refl _
  | d :: r => by
    have h1 := bulk_pos d
    have h2 := bulk_len r
    simp only [Rows.uptoBulkAll, List.length_cons]; omega
theorem bulk_mem {H : Type} : ∀ {l : List (DataW H)} {d : DataW H}, d ∈ l → Rows.uptoBulk d ≤ Rows.uptoBulkAll l
  | [], _, h => by cases h
  | x :: r, d, h => by
    simp only [Rows.uptoBulkAll]
    rcases List.mem_cons.1 h with rfl | h
    · omega
    · have := bulk_mem h; omega
theorem weightsAll_of {H : Type} {P : Program} {e : TypeId} {M : Nat} : ∀ {l : List (DataW H)}, (∀ x ∈ l, (DataW.weights P e x).all (· ≤ M) = true) → (DataW.weightsAll P e l).all (· ≤ M) = true
  | [], _ => rfl
  | x :: r, h => by
    simp only [DataW.weightsAll, List.all_append, Bool.and_eq_true]
    exact ⟨h x (by simp), weightsAll_of fun y hy => h y (by simp [hy])⟩
theorem weightsEach_of {H : Type} {P : Program} {M : Nat} : ∀ {ts : List TypeId} {l : List (DataW H)}, (∀ t ∈ ts, ∀ x ∈ l, (DataW.weights P t x).all (· ≤ M) = true) → (DataW.weightsEach P ts l).all (· ≤ M) = true
  | [], _, _ => by simp [DataW.weightsEach]
  | _ :: _, [], _ => by simp [DataW.weightsEach]
  | t :: ts, x :: r, h => by
    simp only [DataW.weightsEach, List.all_append, Bool.and_eq_true]
    exact ⟨h t (by simp) x (by simp), weightsEach_of fun u hu y hy => h u (by simp [hu]) y (by simp [hy])⟩
/-- What is of small bulk weighs little. -/
theorem bulk_w {H : Type} {P : Program} {S : Nat} (hS : 1 ≤ S) (n : Nat) : ∀ (d : Nat) (t : TypeId), szT P S d t = true → ∀ x : DataW H, Rows.uptoBulk x ≤ n → (DataW.weights P t x).all (· ≤ n * S) = true
  | 0, _, h, _, _ => by cases h
  | d + 1, t, h, x, hx => by
    have hn : n ≤ n * S := Nat.le_mul_of_pos_right _ hS
    unfold szT at h
    cases x with
    | lit l =>
      cases l with
      | string b =>
        simp only [Rows.uptoBulk] at hx
        simp only [DataW.weights, List.all_cons, List.all_nil, Bool.and_true, decide_eq_true_eq]; omega
      | _ => simp [DataW.weights]
    | nil | held _ | iface _ _ => simp [DataW.weights]
    | ptr y =>
      simp only [DataW.weights]
      split
      · rename_i hu; rw [hu] at h; cases h
      · rfl
    | map y =>
      simp only [DataW.weights]
      split
      · rename_i hu; rw [hu] at h; cases h
      · rfl
    | slice elems spare =>
      simp only [DataW.weights]
      split
      · rename_i e hu
        rw [hu] at h
        simp only [Bool.and_eq_true] at h
        simp only [Rows.uptoBulk] at hx
        have h1 := bulk_len elems
        have h2 := bulk_len spare
        simp only [List.all_cons, List.all_append, Bool.and_eq_true, decide_eq_true_eq]
        refine ⟨Nat.mul_le_mul (by omega) (Nat.le_of_ble_eq_true h.1), weightsAll_of fun y hy => ?_, weightsAll_of fun y hy => ?_⟩
        · have := bulk_mem hy; exact bulk_w hS n d e h.2 y (by omega)
        · have := bulk_mem hy; exact bulk_w hS n d e h.2 y (by omega)
      · rfl
    | agg parts =>
      simp only [DataW.weights]
      split
      · rename_i fs hu
        rw [hu] at h
        simp only [Rows.uptoBulk] at hx
        refine weightsEach_of fun u hu y hy => ?_
        obtain ⟨f, hf, rfl⟩ := List.mem_map.1 hu
        have := bulk_mem hy
        exact bulk_w hS n d f.type (List.all_eq_true.1 h f hf) y (by omega)
      · rename_i hu; rw [hu] at h; cases h
      · rfl
theorem bulk_each {H : Type} {P : Program} {S : Nat} (hS : 1 ≤ S) {d : Nat} {ts : List TypeId} (h : ts.all (szT P S d) = true) {l : List (DataW H)} {n : Nat} (hl : Rows.uptoBulkAll l ≤ n) : (DataW.weightsEach P ts l).all (· ≤ n * S) = true :=
  weightsEach_of fun t ht x hx => bulk_w hS n d t (List.all_eq_true.1 h t ht) x (Nat.le_trans (bulk_mem hx) hl)
theorem shape_bool {R : Nat} {P : Program} {d : Nat} {t : TypeId} {ls : List AV} (hu : P.underlying t = some .bool) (h : Shape R P (d + 1) t ls) : ∃ b : Bool, ls = [bln b] := by
  unfold Shape at h; rw [hu] at h; exact h
theorem shapeAll2 {R : Nat} {P : Program} {d : Nat} {t1 t2 : TypeId} : ∀ {avs : List AV}, ShapeAll R P d [t1, t2] avs → ∃ a b, avs = [a, b] ∧ (a.isAgg = isAggT P t1 ∧ Shape R P d t1 a.leaves) ∧ (b.isAgg = isAggT P t2 ∧ Shape R P d t2 b.leaves)
  | [], h => h.elim
  | [_], h => h.2.elim
  | [a, b], h => ⟨a, b, rfl, h.1, h.2.1⟩
  | _ :: _ :: _ :: _, h => h.2.2.elim
theorem cBool : Tryz.prog.cellsOf 4 = 1 := by kernel_rfl
theorem cSl : Tryz.prog.cellsOf 22 = 1 := by kernel_rfl
theorem cSlF : Tryz.prog.cellsOf 25 = 1 := by kernel_rfl
theorem cFile : Tryz.prog.cellsOf 41 = 3 := by kernel_rfl
theorem cNode : Tryz.prog.cellsOf 24 = 10 := by kernel_rfl
theorem cDisk : Tryz.prog.cellsOf 27 = 2 := by kernel_rfl
theorem cCase : Tryz.prog.cellsOf 29 = 14 := by kernel_rfl
theorem strs_all {R d : Nat} : ∀ {l : List AV}, (∀ x ∈ l, x.isAgg = isAggT Tryz.prog 9 ∧ x.isTup = false ∧ Shape R Tryz.prog (d + 1) 9 x.leaves) → ∃ ss : List ByteArray, l = ss.map (fun s => AV.v (.string s)) ∧ ∀ s ∈ ss, s.size ≤ R
  | [], _ => ⟨[], rfl, fun _ h => by cases h⟩
  | x :: l, h => by
    obtain ⟨ss, rfl, hs⟩ := strs_all (fun y hy => h y (List.mem_cons_of_mem _ hy))
    obtain ⟨h1, _, h2⟩ := h x (by simp)
    obtain ⟨s, e, hz⟩ := shape_str Tryz.underlying9 h2
    obtain rfl := one_of (h1.trans (by kernel_rfl)) e
    exact ⟨s :: ss, rfl, fun y hy => by rcases List.mem_cons.1 hy with rfl | hy; exact hz; exact hs y hy⟩
theorem shape_strs {R d : Nat} {ls : List AV} (h : Shape R Tryz.prog (d + 2) 22 ls) : ∃ ss : List ByteArray, ls = [eS ss] ∧ ss.length ≤ R ∧ ∀ s ∈ ss, s.size ≤ R := by
  obtain ⟨l, e, hl, hx⟩ := shape_sl Tryz.underlying22 h
  obtain ⟨ss, rfl, hs⟩ := strs_all hx
  rw [List.length_map] at hl
  exact ⟨ss, by rw [e, cStr], hl, hs⟩
theorem file_of {R d : Nat} {y : AV} (ha : y.isAgg = isAggT Tryz.prog 41) (h : Shape R Tryz.prog (d + 2) 41 y.leaves) : ∃ f : File, y = eF f := by
  have ha' : y.isAgg = true := ha.trans (by kernel_rfl)
  cases y with
  | agg ls =>
    obtain ⟨hl, hf⟩ := shape_st Tryz.underlying41 h
    rw [cFile] at hl
    match ls, hl with
    | [a, b, c], _ =>
      obtain ⟨f0, hf⟩ := List.forall_mem_cons.1 hf
      obtain ⟨f1, hf⟩ := List.forall_mem_cons.1 hf
      obtain ⟨f2, hf⟩ := List.forall_mem_cons.1 hf
      simp only [cStr, cInt] at f0 f1 f2
      obtain ⟨s, e0, _⟩ := shape_str Tryz.underlying9 f0
      obtain ⟨n, e1, _⟩ := shape_str Tryz.underlying9 f1
      obtain ⟨m, e2, _⟩ := shape_int Tryz.underlying3 f2
      obtain rfl := (List.cons.inj e0).1
      obtain rfl := (List.cons.inj e1).1
      obtain rfl := (List.cons.inj e2).1
      exact ⟨⟨s, n, m⟩, rfl⟩
  | _ => cases ha'
theorem files_all {R d : Nat} : ∀ {l : List AV}, (∀ x ∈ l, x.isAgg = isAggT Tryz.prog 41 ∧ x.isTup = false ∧ Shape R Tryz.prog (d + 2) 41 x.leaves) → ∃ fs : List File, l = fs.map eF
  | [], _ => ⟨[], rfl⟩
  | x :: l, h => by
    obtain ⟨fs, rfl⟩ := files_all (fun y hy => h y (List.mem_cons_of_mem _ hy))
    obtain ⟨h1, _, h2⟩ := h x (by simp)
    obtain ⟨f, rfl⟩ := file_of h1 h2
    exact ⟨f :: fs, rfl⟩
theorem node_of {R d : Nat} {ls : List AV} (hR : R ≤ 1000000000) (h : Shape R Tryz.prog (d + 3) 24 ls) : ∃ n : Node, AV.agg ls = eN n ∧ SzN n := by
  obtain ⟨hl, hf⟩ := shape_st Tryz.underlying24 h
  rw [cNode] at hl
  match ls, hl with
  | [a0, a1, a2, a3, a4, a5, a6, a7, a8, a9], _ =>
    obtain ⟨f0, hf⟩ := List.forall_mem_cons.1 hf
    obtain ⟨f1, hf⟩ := List.forall_mem_cons.1 hf
    obtain ⟨f2, hf⟩ := List.forall_mem_cons.1 hf
    obtain ⟨f3, hf⟩ := List.forall_mem_cons.1 hf
    obtain ⟨f4, hf⟩ := List.forall_mem_cons.1 hf
    obtain ⟨f5, hf⟩ := List.forall_mem_cons.1 hf
    obtain ⟨f6, hf⟩ := List.forall_mem_cons.1 hf
    obtain ⟨f7, hf⟩ := List.forall_mem_cons.1 hf
    obtain ⟨f8, hf⟩ := List.forall_mem_cons.1 hf
    obtain ⟨f9, hf⟩ := List.forall_mem_cons.1 hf
    simp only [cStr, cSl, cBool] at f0 f1 f2 f3 f4 f5 f6 f7 f8 f9
    obtain ⟨t, e0, z0⟩ := shape_str Tryz.underlying9 f0
    obtain ⟨ne, e1, z1, y1⟩ := shape_strs f1
    obtain ⟨re, e2, z2, y2⟩ := shape_strs f2
    obtain ⟨b3, e3⟩ := shape_bool Tryz.underlying4 f3
    obtain ⟨s4, e4, z4⟩ := shape_str Tryz.underlying9 f4
    obtain ⟨s5, e5, z5⟩ := shape_str Tryz.underlying9 f5
    obtain ⟨b6, e6⟩ := shape_bool Tryz.underlying4 f6
    obtain ⟨b7, e7⟩ := shape_bool Tryz.underlying4 f7
    obtain ⟨b8, e8⟩ := shape_bool Tryz.underlying4 f8
    obtain ⟨b9, e9⟩ := shape_bool Tryz.underlying4 f9
    obtain rfl := (List.cons.inj e0).1
    obtain rfl := (List.cons.inj e1).1
    obtain rfl := (List.cons.inj e2).1
    obtain rfl := (List.cons.inj e3).1
    obtain rfl := (List.cons.inj e4).1
    obtain rfl := (List.cons.inj e5).1
    obtain rfl := (List.cons.inj e6).1
    obtain rfl := (List.cons.inj e7).1
    obtain rfl := (List.cons.inj e8).1
    obtain rfl := (List.cons.inj e9).1
    exact ⟨⟨t, ne, re, b3, s4, s5, b6, b7, b8, b9⟩, rfl, by show t.size ≤ _; omega, ⟨by show ne.length ≤ _; omega, fun x hx => by have := y1 x hx; omega⟩, ⟨by show re.length ≤ _; omega, fun x hx => by have := y2 x hx; omega⟩⟩
theorem disk_of {R d : Nat} {ls : List AV} (h : Shape R Tryz.prog (d + 4) 27 ls) : ∃ (c : Int) (l : List File), ls = [i64 c, eFs l] ∧ l.length ≤ R := by
  obtain ⟨hl, hf⟩ := shape_st Tryz.underlying27 h
  rw [cDisk] at hl
  match ls, hl with
  | [a, b], _ =>
    obtain ⟨f0, hf⟩ := List.forall_mem_cons.1 hf
    obtain ⟨f1, hf⟩ := List.forall_mem_cons.1 hf
    simp only [cInt, cSlF] at f0 f1
    obtain ⟨c, e0, _⟩ := shape_int Tryz.underlying3 f0
    obtain ⟨l, e1, hl, hx⟩ := shape_sl Tryz.underlying25 f1
    obtain ⟨fs, rfl⟩ := files_all hx
    obtain rfl := (List.cons.inj e0).1
    obtain rfl := (List.cons.inj e1).1
    rw [List.length_map] at hl
    exact ⟨c, fs, by rw [cFile], hl⟩
theorem case_of {R d : Nat} {y : AV} (hR : R ≤ 1000000000) (ha : y.isAgg = isAggT Tryz.prog 29) (h : Shape R Tryz.prog (d + 5) 29 y.leaves) : ∃ (n : Node) (t : ByteArray) (c k : Int) (l : List File), y = eCase n t c l k ∧ SzN n ∧ t.size ≤ R ∧ l.length ≤ R := by
  have ha' : y.isAgg = true := ha.trans (by kernel_rfl)
  cases y with
  | agg ls =>
    obtain ⟨hl, hf⟩ := shape_st Tryz.underlying29 h
    rw [cCase] at hl
    match ls, hl with
    | [a0, a1, a2, a3, a4, a5, a6, a7, a8, a9, a10, a11, a12, a13], _ =>
      obtain ⟨f0, hf⟩ := List.forall_mem_cons.1 hf
      obtain ⟨f1, hf⟩ := List.forall_mem_cons.1 hf
      obtain ⟨f2, hf⟩ := List.forall_mem_cons.1 hf
      obtain ⟨f3, hf⟩ := List.forall_mem_cons.1 hf
      simp only [cNode, cStr, cDisk, cInt] at f0 f1 f2 f3
      obtain ⟨n, e0, hz⟩ := node_of hR f0
      obtain ⟨t, e1, ht⟩ := shape_str Tryz.underlying9 f1
      obtain ⟨c, l, e2, hl⟩ := disk_of f2
      obtain ⟨k, e3, _⟩ := shape_int Tryz.underlying3 f3
      have e0 := AV.agg.inj e0
      have e0 : [a0, a1, a2, a3, a4, a5, a6, a7, a8, a9] = _ := e0
      have e2 : [a11, a12] = _ := e2
      obtain rfl := (List.cons.inj e1).1
      obtain rfl := (List.cons.inj e3).1
      obtain ⟨q0, e0_0⟩ := List.cons.inj e0
      obtain ⟨q1, e0_1⟩ := List.cons.inj e0_0
      obtain ⟨q2, e0_2⟩ := List.cons.inj e0_1
      obtain ⟨q3, e0_3⟩ := List.cons.inj e0_2
      obtain ⟨q4, e0_4⟩ := List.cons.inj e0_3
      obtain ⟨q5, e0_5⟩ := List.cons.inj e0_4
      obtain ⟨q6, e0_6⟩ := List.cons.inj e0_5
      obtain ⟨q7, e0_7⟩ := List.cons.inj e0_6
      obtain ⟨q8, e0_8⟩ := List.cons.inj e0_7
      obtain ⟨q9, e0_9⟩ := List.cons.inj e0_8
      obtain ⟨p0, e2_0⟩ := List.cons.inj e2
      obtain ⟨p1, _⟩ := List.cons.inj e2_0
      subst q0 q1 q2 q3 q4 q5 q6 q7 q8 q9 p0 p1
      exact ⟨n, t, c, k, l, rfl, hz, ht, hl⟩
  | _ => cases ha'
theorem mays_args {R : Nat} {avs : List AV} (hR : R ≤ 1000000000) (h : ShapeAll R Tryz.prog 8 [29, 3] avs) : ∃ (n : Node) (t : ByteArray) (c k st : Int) (l : List File), avs = [eCase n t c l k, i64 st] ∧ SzN n := by
  obtain ⟨a, b, rfl, ⟨a1, a2⟩, ⟨b1, b2⟩⟩ := shapeAll2 h
  obtain ⟨n, t, c, k, l, rfl, hz, _⟩ := case_of hR a1 a2
  obtain ⟨st, e1, _⟩ := shape_int Tryz.underlying3 b2
  obtain rfl := one_of (b1.trans (by kernel_rfl)) e1
  exact ⟨n, t, c, k, st, l, rfl, hz⟩
/-- The package variables that the row lays are as Ev asks. -/
theorem glob_of {W : World} (h1 : ∃ te pe, W.cell? ⟨1, 0, none⟩ = some (.iface te pe)) (h2 : ∃ te pe, W.cell? ⟨2, 0, none⟩ = some (.iface te pe))
    (h1' : ∃ cs e f, W.heap[1]? = some (.cells cs e f) ∧ cs.size = 1) (h2' : ∃ cs e f, W.heap[2]? = some (.cells cs e f) ∧ cs.size = 1)
    (h3 : Lib.TabIs Tryz.prog W "internal/strconv.uint64pow10" .u64 Lib.pow10Tab) : GlobOk W (blockHw W) := by
  refine ⟨fun p hp => (by cases hp), fun p hp => ?_⟩
  have err : ∀ g : Nat, (∃ te pe, W.cell? ⟨g, 0, none⟩ = some (.iface te pe)) → (∃ cs e f, W.heap[g]? = some (.cells cs e f) ∧ cs.size = 1) → ∃ vs, IsErr vs ∧ Whole W (blockHw W) g vs := by
    rintro g ⟨t, p, hc⟩ ⟨cs, e, f, hh, hs⟩
    refine ⟨[.iface t p], ⟨t, p, rfl⟩, cs.size, blockHw_cells hh, by simp [hs], fun j => ?_⟩
    unfold World.cell? at hc ⊢
    simp only [hh, Option.isSome_none, Bool.false_eq_true, if_false] at hc ⊢
    cases j with
    | zero => rw [hc]; rfl
    | succ j => rw [Array.getElem?_eq_none (by omega)]; simp
  simp only [globP, List.mem_cons, List.not_mem_nil, or_false] at hp
  rcases hp with rfl | rfl | rfl
  · unfold Lib.TabIs World.var? at h3
    rw [gPow, Option.bind_some] at h3
    split at h3
    · rename_i cs e f hh
      cases h3
      refine ⟨_, rfl, _, blockHw_cells hh, by simp, fun j => ?_⟩
      unfold World.cell?
      simp only [hh, Option.isSome_none, Bool.false_eq_true, if_false, List.getElem?_toArray]
    · cases h3
  · exact err _ h1 h1'
  · exact err _ h2 h2'
end Go.Proofs.YtepdiooaoegpfaaGreatDoor.Fx
end
