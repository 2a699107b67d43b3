/- Written by programs of this session: laws and contracts that the law's proof stands on, merged into one text. Conditions: none beyond those in each statement. -/
import Derived.Test.YtepdiooaoegpfaaGreatDoorPkFx5
import Derived.Test.YtepdiooaoegpfaaGreatDoorPkFx2
section
/- A command is done upon a disk, for a target. Conditions: those in each statement. -/
namespace Go.Proofs.YtepdiooaoegpfaaGreatDoor.Fx
open Go Go.Proofs Go.Ev Go.RowKit
set_option maxRecDepth 100000
set_option maxHeartbeats 6400000
set_option linter.unusedSimpArgs false
set_option linter.unusedVariables false
/-- A failure: the disk as it was. -/
def failD (clock : Int) (l : List File) (e st : Int) : Done := ⟨clock, l, .empty, false, if st = 0 then statusOf e else st, e⟩
def doneD (c : Cm) (r : DR) (clock : Int) (l : List File) : Done := if r.e = 0 then ⟨r.clock, r.files, r.said, wrOf c, 0, 0⟩ else failD clock l r.e r.st
/-- What a right target's command comes to, upon a right disk. -/
def doIt (n : Node) (t : ByteArray) (clock : Int) (l : List File) (fail : Int) : Done :=
  if 0 < fail then failD clock l 171 fail else if mayX n t = 0 then doneD (lineC t) (doneOf (lineC t) clock l) clock l else failD clock l (mayX n t) 0
@[irreducible] def doE (n : Node) (t : ByteArray) (clock : Int) (l : List File) (fail : Int) : Int :=
  if nodeOk n = false then 7 else if 65536 < t.size then 2 else if okD clock l = false then 4 else if fail < 0 ∨ 255 < fail then 1 else 0
def noD : Done := ⟨0, [], .empty, false, 0, 0⟩
@[irreducible] def doD (n : Node) (t : ByteArray) (clock : Int) (l : List File) (fail : Int) : Done := if doE n t clock l fail = 0 then doIt n t clock l fail else noD
theorem c_Do_gen {n : Node} {t : ByteArray} {clock fail m : Int} {l : List File} {c : Cm} {r : DR} (hz : SzN n) (hn : nodeOk n = true) (ht : t.size ≤ 65536) (hd : okD clock l = true) (h0 : 0 ≤ fail) (h1 : fail ≤ 255)
    (hM : XPure Tryz.prog 29 [eN n, str t] (.tup [c.av, i64 m]) false) (hk : m = 0 → Kind c) (hR : m = 0 → XPure Tryz.prog 30 [c.av, eD clock l] r.av false) :
    XPure Tryz.prog 9 [eN n, str t, eD clock l, i64 fail] (.tup [eDone (if 0 < fail then failD clock l 171 fail else if m = 0 then doneD c r clock l else failD clock l m 0), i64 0]) false := by
  have hl := (okD_sorted hd).1
  have hA : XPure Tryz.prog 25 [eN n] (i64 0) false := by
    have h := c_alone hz
    rwa [aloneOk_eq, hn, show errIf true 7 = 0 from rfl] at h
  have hD : XPure Tryz.prog 26 [eD clock l] (i64 0) false := by
    have h := c_disk_Check (clock := clock) (l := l)
    rwa [hd, show errIf true 4 = 0 from rfl] at h
  refine XPure.body ⟨_, Tryz.func9, rfl, by kernel_rfl⟩ Tryz.func9 rfl (Nat.le_of_ble_eq_true (by rfl)) (pf_of1 rfl) fun env => ?_
  repeat' ((conv => whnf); (fail_if_success refine zC ?_); first | refine zSd ?_ | refine zB (fun h hs => ?_) (fun h hs => ?_) <;> try exact hs.elim | refine .inl ⟨_, _, hA, ?_⟩ | refine .inl ⟨_, _, hD, ?_⟩ | refine .inl ⟨_, _, c_CloneF (by omega), ?_⟩ | refine .inl ⟨_, _, hM, ?_⟩ | exact zEwf | refine zZwf ?_ | fail)
  · exfalso; omega
  · exfalso; omega
  · refine callG_args (args' := [i64 171, i64 fail, .bp 1 0]) (by kernel_rfl) ?_
    refine callG_do1 (clock := clock) (l := l) (by kernel_rfl) ?_
    repeat' ((conv => whnf); (fail_if_success refine zC ?_); first | refine zSd ?_ | refine zB (fun h hs => ?_) (fun h hs => ?_) <;> try exact hs.elim | exact zEwf | refine zZwf ?_ | fail)
    refine Eq.trans (b := AV.tup [eDone ⟨clock, l, .empty, false, if fail = 0 then statusOf 171 else fail, 171⟩, i64 0]) (by kernel_rfl) ?_
    exact doneEq (by rw [if_pos hs]; rfl)
  · refine callG_args (args' := [i64 m, i64 0, .bp 1 0]) (by kernel_rfl) ?_
    refine callG_do1 (clock := clock) (l := l) (by kernel_rfl) ?_
    repeat' ((conv => whnf); (fail_if_success refine zC ?_); first | refine zSd ?_ | refine zB (fun h hs => ?_) (fun h hs => ?_) <;> try exact hs.elim | exact zEwf | refine zZwf ?_ | fail)
    refine Eq.trans (b := AV.tup [eDone ⟨clock, l, .empty, false, if (0 : Int) = 0 then statusOf m else 0, m⟩, i64 0]) (by kernel_rfl) ?_
    have hf : ¬ 0 < fail := by omega
    exact doneEq (by rw [if_neg hf, if_neg hs]; rfl)
  · have hf : ¬ 0 < fail := by omega
    have hm : m = 0 := hs
    have hdn := hR hm
    repeat' ((conv => whnf); (fail_if_success refine zC ?_); first | refine zSd ?_ | refine zB (fun h hs => ?_) (fun h hs => ?_) <;> try exact hs.elim | refine .inl ⟨_, _, hdn, ?_⟩ | exact zEwf | refine zZwf ?_ | fail)
    · refine callG_args (args' := [i64 r.e, i64 r.st, .bp 1 0]) (by kernel_rfl) ?_
      refine callG_do1 (clock := clock) (l := l) (by kernel_rfl) ?_
      repeat' ((conv => whnf); (fail_if_success refine zC ?_); first | refine zSd ?_ | refine zB (fun h hs => ?_) (fun h hs => ?_) <;> try exact hs.elim | exact zEwf | refine zZwf ?_ | fail)
      refine Eq.trans (b := AV.tup [eDone ⟨clock, l, .empty, false, if r.st = 0 then statusOf r.e else r.st, r.e⟩, i64 0]) (by kernel_rfl) ?_
      exact doneEq (by rw [if_neg hf, if_pos hm]; unfold doneD; rw [if_neg hs]; rfl)
    · repeat' ((conv => whnf); (fail_if_success refine zC ?_); first | refine zSd ?_ | refine zB (fun h hs => ?_) (fun h hs => ?_) <;> try exact hs.elim | refine .inl ⟨_, _, c_Writes (hk hm), ?_⟩ | exact zEwf | refine zZwf ?_ | fail)
      refine Eq.trans (b := AV.tup [eDone ⟨r.clock, r.files, r.said, wrOf c, 0, 0⟩, i64 0]) (by kernel_rfl) ?_
      exact doneEq (by rw [if_neg hf, if_pos hm]; unfold doneD; rw [if_pos hs])
theorem wordsV_le {t : ByteArray} : ∀ x ∈ wordsV t, x.size ≤ 65536 := by
  intro x hm
  unfold wordsV at hm
  split at hm
  · cases hm
  · cases hL : wordsL t with
    | none => rw [hL] at hm; cases hm
    | some r =>
      rw [hL] at hm
      have := wordsF_small _ _ _ _ _ (by intro x hx; cases hx) hL x hm
      omega
theorem cmOf_words {op : Int} {l : List ByteArray} : ∀ x ∈ (cmOf op l).words, x ∈ l := by
  intro x hx
  unfold cmOf at hx
  repeat' (first | (split at hx) | (cases hx; done) | exact List.mem_of_mem_drop hx | exact hx)
theorem line_words {t : ByteArray} : ∀ x ∈ (lineC t).words, x.size ≤ 65536 := by
  intro x hx
  unfold lineC at hx
  split at hx
  · unfold parseC at hx
    split at hx
    · exact wordsV_le x (List.mem_of_mem_tail (cmOf_words x hx))
    · cases hx
  · cases hx
theorem do_bad {n : Node} {t : ByteArray} {clock fail e : Int} {l : List File} (h : doE n t clock l fail = e) : LeqD (.tup [.agg [i64 0, nilv, str ⟨#[]⟩, bln false, i64 0, i64 0], i64 e]) (.tup [eDone noD, i64 (doE n t clock l fail)]) := by
  rw [h]
  repeat' (first | exact LeqD.nil (by decide) | exact LeqD.refl _ | exact LeqDL.refl _ | refine LeqDL.cons ?_ ?_ | refine LeqD.agg ?_ | refine LeqD.tup ?_)
theorem c_Do_in {n : Node} {t : ByteArray} {clock fail : Int} {l : List File} (hz : SzN n) (hn : nodeOk n = true) (ht : t.size ≤ 65536) (hd : okD clock l = true) (h0 : 0 ≤ fail) (h1 : fail ≤ 255) :
    XPure Tryz.prog 9 [eN n, str t, eD clock l, i64 fail] (.tup [eDone (doIt n t clock l fail), i64 0]) false := by
  have hk : mayX n t = 0 → Kind (lineC t) := fun h => line_kind (by
    unfold mayX mayOf at h
    by_cases he : lineE t = 0
    · exact he
    · rw [if_neg he] at h; exact absurd h he)
  exact c_Do_gen (r := doneOf (lineC t) clock l) hz hn ht hd h0 h1 (c_exec_may hz.needs.1) hk fun h => c_done (hk h) line_words
theorem c_Do {n : Node} {t : ByteArray} {clock fail : Int} {l : List File} (hz : SzN n) : XPure Tryz.prog 9 [eN n, str t, eD clock l, i64 fail] (.tup [eDone (doD n t clock l fail), i64 (doE n t clock l fail)]) false := by
  by_cases hE : doE n t clock l fail = 0
  · have hD : doD n t clock l fail = doIt n t clock l fail := by unfold doD; rw [if_pos hE]
    rw [hD, hE]
    unfold doE at hE
    split at hE
    · cases hE
    split at hE
    · cases hE
    split at hE
    · cases hE
    split at hE
    · cases hE
    exact c_Do_in hz (by simpa using ‹¬ nodeOk n = false›) (by omega) (by simpa using ‹¬ okD clock l = false›) (by omega) (by omega)
  · have hD : doD n t clock l fail = noD := by unfold doD; rw [if_neg hE]
    rw [hD]
    have hA := c_alone hz
    rw [aloneOk_eq] at hA
    refine XPure.bodyN ⟨_, Tryz.func9, rfl, by kernel_rfl⟩ Tryz.func9 rfl (Nat.le_of_ble_eq_true (by rfl)) (pf_of1 rfl) fun env => ?_
    iterate 16 any_goals try ((conv => whnf); (fail_if_success refine zC ?_); first | refine zSd ?_ | refine zB (fun h hs => ?_) (fun h hs => ?_) <;> try exact hs.elim | refine .inl ⟨_, _, hA, ?_⟩ | refine .inl ⟨_, _, c_disk_Check, ?_⟩ | exact zElw | refine zZlw ?_ | fail)
    · obtain ⟨h1, h2⟩ := errIf_not hs
      exact do_bad (by unfold doE; rw [if_pos h1, h2])
    all_goals have hb : nodeOk n = true := errIf_yes (k := 7) (by decide) (by assumption)
    · exact do_bad (by unfold doE; rw [if_neg (by rw [hb]; simp), if_pos (by omega)])
    · obtain ⟨h1, h2⟩ := errIf_not hs
      exact do_bad (by unfold doE; rw [if_neg (by rw [hb]; simp), if_neg (by omega), if_pos h1])
    all_goals have hd : okD clock l = true := errIf_yes (k := 4) (by decide) (by assumption)
    · exact do_bad (by unfold doE; rw [if_neg (by rw [hb]; simp), if_neg (by omega), if_neg (by rw [hd]; simp), if_pos hs])
    · exact absurd (by unfold doE; rw [if_neg (by rw [hb]; simp), if_neg (by omega), if_neg (by rw [hd]; simp), if_neg (by omega)]) hE
end Go.Proofs.YtepdiooaoegpfaaGreatDoor.Fx
end
section
/- What a command leaves of a disk: plain facts. Conditions: those in each statement. -/
namespace Go.Proofs.YtepdiooaoegpfaaGreatDoor.Fx
open Go Go.Proofs Go.Ev Go.RowKit
set_option linter.unusedSimpArgs false
set_option linter.unusedVariables false
abbrev Sorted (l : List File) : Prop := l.Pairwise fun a b => ltS a.name b.name = true
theorem chk_of {clock : Int} : ∀ {l : List File} {p : Option ByteArray}, (∀ f ∈ l, fileOk clock f = true) → Sorted l → (∀ q, p = some q → ∀ f ∈ l, ltS q f.name = true) → chkF clock p l = true
  | [], _, _, _, _ => rfl
  | f :: r, p, h1, h2, h3 => by
    obtain ⟨h4, h5⟩ := List.pairwise_cons.1 h2
    have ih := chk_of (p := some f.name) (fun g hg => h1 g (List.mem_cons_of_mem _ hg)) h5 (fun q e g hg => by cases e; exact h4 g hg)
    unfold chkF
    rw [h1 f (List.mem_cons_self ..), ih]
    cases p with
    | none => rfl
    | some q => dsimp only; rw [h3 q rfl f (List.mem_cons_self ..)]; rfl
theorem okD_iff {clock : Int} {l : List File} : okD clock l = true ↔ 0 ≤ clock ∧ clock ≤ 1099511627776 ∧ l.length ≤ 256 ∧ (∀ f ∈ l, fileOk clock f = true) ∧ Sorted l := by
  constructor
  · intro h
    have h' := h
    simp only [okD, Bool.and_eq_true, decide_eq_true_eq] at h
    exact ⟨h.1.1.1, h.1.1.2, h.1.2, chk_all l none h.2, (sorted_of h.2).2⟩
  · rintro ⟨h1, h2, h3, h4, h5⟩
    simp only [okD, Bool.and_eq_true, decide_eq_true_eq]
    exact ⟨⟨⟨h1, h2⟩, h3⟩, chk_of h4 h5 fun _ e => by cases e⟩
/-- A row of files, parted at a name. -/
theorem parts {s : ByteArray} : ∀ {l : List File}, Sorted l → ∃ A B : List File, (∀ a ∈ A, ltS a.name s = true) ∧ (∀ b ∈ B, ltS s b.name = true) ∧ posF l s = A.length ∧
    ((thereF l s = true ∧ ∃ g, g.name = s ∧ l = A ++ g :: B) ∨ (thereF l s = false ∧ l = A ++ B))
  | [], _ => ⟨[], [], (by simp), (by simp), rfl, .inr ⟨rfl, rfl⟩⟩
  | x :: r, h => by
    obtain ⟨h1, h2⟩ := List.pairwise_cons.1 h
    cases hx : ltS x.name s with
    | true =>
      have hp : posF (x :: r) s = posF r s + 1 := by simp only [posF, hx, if_true]
      have ht : thereF (x :: r) s = thereF r s := by unfold thereF; rw [hp, List.getElem?_cons_succ]
      obtain ⟨A, B, q1, q2, q3, q4⟩ := parts (s := s) h2
      refine ⟨x :: A, B, fun a ha => by rcases List.mem_cons.1 ha with rfl | ha; exact hx; exact q1 a ha, q2, by rw [hp, q3]; rfl, ?_⟩
      rw [ht]
      rcases q4 with ⟨e, g, hg, rfl⟩ | ⟨e, rfl⟩
      · exact .inl ⟨e, g, hg, rfl⟩
      · exact .inr ⟨e, rfl⟩
    | false =>
      have hp : posF (x :: r) s = 0 := by simp only [posF, hx, Bool.false_eq_true, if_false]
      have ht : thereF (x :: r) s = beqS x.name s := by unfold thereF; rw [hp]; rfl
      cases hb : beqS x.name s with
      | true =>
        have e := beqS_iff.1 hb
        exact ⟨[], r, (by simp), fun b hb => by rw [← e]; exact h1 b hb, hp, .inl ⟨ht.trans hb, x, e, rfl⟩⟩
      | false =>
        have hl : ltS s x.name = true := by
          cases hq : ltS s x.name with
          | true => rfl
          | false => exact absurd (ltS_total hx hq) (beqS_no.1 hb)
        refine ⟨[], x :: r, (by simp), fun b hb => ?_, hp, .inr ⟨ht.trans hb, rfl⟩⟩
        rcases List.mem_cons.1 hb with rfl | hb
        · exact hl
        · exact ltS_trans hl (h1 b hb)
theorem findF_app (A B : List File) (q : ByteArray) : findF (A ++ B) q = (findF A q).or (findF B q) := by
  induction A with
  | nil => rfl
  | cons a A ih =>
    simp only [List.cons_append, findF]
    split
    · rfl
    · exact ih
theorem findF_none {l : List File} {q : ByteArray} (h : ∀ f ∈ l, f.name ≠ q) : findF l q = none := by
  induction l with
  | nil => rfl
  | cons a l ih =>
    simp only [findF]
    rw [if_neg (by rw [beqS_iff]; exact h a (List.mem_cons_self ..))]
    exact ih fun f hf => h f (List.mem_cons_of_mem _ hf)
theorem lt_ne {a b : ByteArray} (h : ltS a b = true) : a ≠ b := by rintro rfl; rw [ltS_irrefl] at h; cases h
/-- A row with a file in the place of a name. -/
theorem laid_facts {l : List File} {f : File} (hs : Sorted l) (he : laidE l f = 0) : Sorted (laidL l f) ∧ (∀ g ∈ laidL l f, g = f ∨ g ∈ l) ∧ findF (laidL l f) f.name = some f ∧ (∀ q, q ≠ f.name → findF (laidL l f) q = findF l q) := by
  obtain ⟨A, B, hA, hB, hp, h⟩ := parts (s := f.name) hs
  have hL : laidL l f = A ++ f :: B := by
    rcases h with ⟨ht, g, hg, rfl⟩ | ⟨ht, rfl⟩
    · have := (laidE_yes (l := A ++ g :: B) (f := f) ht).2
      rw [this, hp, List.set_append_right _ _ (Nat.le_refl _), Nat.sub_self]; rfl
    · have hn : ¬ (A ++ B).length = 256 := fun e => by have := (laidE_full (l := A ++ B) (f := f) ht e).1; rw [this] at he; cases he
      have := (laidE_no (l := A ++ B) (f := f) ht hn).2
      rw [this, hp, List.take_left, List.drop_left]
  have hAB : ∀ a ∈ A, ∀ b ∈ B, ltS a.name b.name = true := fun a ha b hb => ltS_trans (hA a ha) (hB b hb)
  have hsA : Sorted A := by
    rcases h with ⟨ht, g, hg, rfl⟩ | ⟨ht, rfl⟩ <;> exact (List.pairwise_append.1 hs).1
  have hsB : Sorted B := by
    rcases h with ⟨ht, g, hg, rfl⟩ | ⟨ht, rfl⟩
    · exact (List.pairwise_cons.1 (List.pairwise_append.1 hs).2.1).2
    · exact (List.pairwise_append.1 hs).2.1
  rw [hL]
  refine ⟨List.pairwise_append.2 ⟨hsA, List.pairwise_cons.2 ⟨hB, hsB⟩, fun a ha b hb => ?_⟩, fun g hg => ?_, ?_, fun q hq => ?_⟩
  · rcases List.mem_cons.1 hb with rfl | hb
    · exact hA a ha
    · exact hAB a ha b hb
  · rcases List.mem_append.1 hg with hg | hg
    · right; rcases h with ⟨_, _, _, rfl⟩ | ⟨_, rfl⟩ <;> simp [hg]
    · rcases List.mem_cons.1 hg with rfl | hg
      · exact .inl rfl
      · right; rcases h with ⟨_, _, _, rfl⟩ | ⟨_, rfl⟩ <;> simp [hg]
  · rw [findF_app, findF_none fun a ha => lt_ne (hA a ha)]
    simp only [Option.none_or, findF, beqS_self, if_true]
  · have e1 : findF (f :: B) q = findF B q := by simp only [findF]; rw [if_neg (by rw [beqS_iff]; exact fun e => hq e.symm)]
    rcases h with ⟨_, g, hg, rfl⟩ | ⟨_, rfl⟩
    · have e2 : findF (g :: B) q = findF B q := by simp only [findF]; rw [if_neg (by rw [beqS_iff, hg]; exact fun e => hq e.symm)]
      rw [findF_app, findF_app, e1, e2]
    · rw [findF_app, findF_app, e1]
theorem laid_len {l : List File} {f : File} (hl : l.length ≤ 256) : (laidL l f).length ≤ 256 := by
  cases ht : thereF l f.name with
  | true => rw [(laidE_yes ht).2, List.length_set]; exact hl
  | false =>
    by_cases hn : l.length = 256
    · rw [(laidE_full ht hn).2]; simp
    · rw [(laidE_no ht hn).2]; simp only [List.length_append, List.length_cons, List.length_take, List.length_drop]; have := @posF_le l f.name; omega
/-- A row of which a file is taken out. -/
theorem cut_facts {l : List File} {s : ByteArray} (hs : Sorted l) (ht : thereF l s = true) : Sorted (cutL l s) ∧ (∀ g ∈ cutL l s, g ∈ l) ∧ (cutL l s).length ≤ l.length ∧ findF (cutL l s) s = none ∧ (∀ q, q ≠ s → findF (cutL l s) q = findF l q) := by
  obtain ⟨A, B, hA, hB, hp, h⟩ := parts (s := s) hs
  rcases h with ⟨_, g, hg, rfl⟩ | ⟨h, _⟩
  · have hL : cutL (A ++ g :: B) s = A ++ B := by
      unfold cutL
      rw [hp, List.take_left, List.drop_append, List.drop_of_length_le (by omega), show A.length + 1 - A.length = 1 from by omega]; rfl
    have hsp := List.pairwise_append.1 hs
    rw [hL]
    refine ⟨List.pairwise_append.2 ⟨hsp.1, (List.pairwise_cons.1 hsp.2.1).2, fun a ha b hb => ltS_trans (hA a ha) (hB b hb)⟩, fun x hx => ?_, by simp, ?_, fun q hq => ?_⟩
    · rcases List.mem_append.1 hx with hx | hx <;> simp [hx]
    · refine findF_none fun x hx => ?_
      rcases List.mem_append.1 hx with hx | hx
      · exact lt_ne (hA x hx)
      · exact (lt_ne (hB x hx)).symm
    · have e2 : findF (g :: B) q = findF B q := by simp only [findF]; rw [if_neg (by rw [beqS_iff, hg]; exact fun e => hq e.symm)]
      rw [findF_app, findF_app, e2]
  · rw [ht] at h; cases h
/-- What a disk is behind a command that went well: right, and of other names as it was. -/
structure Behind (clock : Int) (l : List File) (s : ByteArray) (c' : Int) (l' : List File) : Prop where
  ok : okD c' l' = true
  self : (findF l' s = none ∧ c' = clock) ∨ ∃ f, findF l' s = some f ∧ f.stamp = c' ∧ c' = clock + 1
  others : ∀ q, q ≠ s → findF l' q = findF l q
theorem fileOk_up {clock : Int} {f : File} (h : fileOk clock f = true) : fileOk (clock + 1) f = true := by
  rw [fileOk_iff] at h ⊢; exact ⟨h.1, h.2.1, h.2.2.1, by omega⟩
theorem writ_behind {clock : Int} {l : List File} {s t : ByteArray} (hd : okD clock l = true) (hs : isName s = true) (ht : t.size ≤ 4096) (he : writE clock l ⟨s, t, clock + 1⟩ = 0) : Behind clock l s (clock + 1) (laidL l ⟨s, t, clock + 1⟩) := by
  obtain ⟨h1, h2, h3, h4, h5⟩ := okD_iff.1 hd
  have hL : laidE l ⟨s, t, clock + 1⟩ = 0 ∧ ¬ clock = 1099511627776 := by
    unfold writE at he
    split at he
    · split at he
      · cases he
      · exact ⟨‹_›, ‹_›⟩
    · exact absurd he ‹_›
  obtain ⟨q1, q2, q3, q4⟩ := laid_facts h5 hL.1
  refine ⟨okD_iff.2 ⟨by omega, by omega, laid_len h3, fun f hf => ?_, q1⟩, .inr ⟨_, q3, rfl, rfl⟩, q4⟩
  rcases q2 f hf with rfl | hf
  · exact fileOk_iff.2 ⟨hs, ht, by show (0 : Int) ≤ clock + 1; omega, Int.le_refl _⟩
  · exact fileOk_up (h4 f hf)
theorem wr_behind {clock : Int} {l : List File} {s t : ByteArray} (he : wrE clock l s t = 0) : Behind clock l s (wrC clock l s t) (wrL' clock l s t) := by
  have hC : wrC clock l s t = clock + 1 := by unfold wrC; rw [if_pos he]
  have hL : wrL' clock l s t = laidL l ⟨s, t, clock + 1⟩ := by unfold wrL'; rw [if_pos he]
  rw [hC, hL]
  unfold wrE at he
  split at he
  · split at he
    · split at he
      · cases he
      · exact writ_behind ‹_› ‹_› (by omega) he
    · cases he
  · cases he
theorem textF_le {clock : Int} {l : List File} {s : ByteArray} (hd : okD clock l = true) : (textF l s).size ≤ 4096 := by
  unfold textF
  split
  · rename_i h
    have hlt := posF_lt h
    rw [List.getD_eq_getElem?_getD, List.getElem?_eq_getElem hlt]
    exact (fileOk_iff.1 ((okD_iff.1 hd).2.2.2.1 _ (List.getElem_mem hlt))).2.1
  · exact Nat.zero_le _
theorem tc_behind {clock : Int} {l : List File} {s : ByteArray} (he : tcE clock l s = 0) : Behind clock l s (tcC clock l s) (tcL clock l s) := by
  have hC : tcC clock l s = clock + 1 := by unfold tcC; rw [if_pos he]
  have hL : tcL clock l s = laidL l ⟨s, textF l s, clock + 1⟩ := by unfold tcL; rw [if_pos he]
  rw [hC, hL]
  unfold tcE at he
  split at he
  · split at he
    · exact writ_behind ‹_› ‹_› (textF_le ‹_›) he
    · cases he
  · cases he
theorem rm_behind {clock : Int} {l : List File} {s : ByteArray} (he : rmE clock l s = 0) : Behind clock l s (rmC clock l s) (rmL clock l s) := by
  have hC : rmC clock l s = clock := by unfold rmC; rw [if_pos he]
  have hL : rmL clock l s = cutL l s := by unfold rmL; rw [if_pos he]
  rw [hC, hL]
  unfold rmE at he
  split at he
  · split at he
    · split at he
      · rename_i hd _ ht
        obtain ⟨h1, h2, h3, h4, h5⟩ := okD_iff.1 hd
        obtain ⟨q1, q2, q3, q4, q5⟩ := cut_facts h5 ht
        exact ⟨okD_iff.2 ⟨h1, h2, by omega, fun f hf => h4 f (q2 f hf), q1⟩, .inl ⟨q4, rfl⟩, q5⟩
      · cases he
    · cases he
  · cases he
/-- What is done well: the disk behind it. -/
theorem done_behind {c : Cm} {clock : Int} {l : List File} (hk : Kind c) (he : (doneOf c clock l).e = 0) :
    (wrOf c = true → Behind clock l c.dst (doneOf c clock l).clock (doneOf c clock l).files) ∧ (wrOf c = false → (doneOf c clock l).clock = clock ∧ (doneOf c clock l).files = l) := by
  have rd : ∀ {d : ByteArray} {src : List ByteArray}, (if readE clock l src = 0 then (⟨wrC clock l d (readT clock l src), wrL' clock l d (readT clock l src), .empty, 0, wrE clock l d (readT clock l src)⟩ : DR) else ⟨clock, l, .empty, 0, readE clock l src⟩).e = 0 →
      Behind clock l d (if readE clock l src = 0 then (⟨wrC clock l d (readT clock l src), wrL' clock l d (readT clock l src), .empty, 0, wrE clock l d (readT clock l src)⟩ : DR) else ⟨clock, l, .empty, 0, readE clock l src⟩).clock (if readE clock l src = 0 then (⟨wrC clock l d (readT clock l src), wrL' clock l d (readT clock l src), .empty, 0, wrE clock l d (readT clock l src)⟩ : DR) else ⟨clock, l, .empty, 0, readE clock l src⟩).files := by
    intro d src h
    split
    · rename_i hr; rw [if_pos hr] at h; exact wr_behind h
    · rename_i hr; rw [if_neg hr] at h; exact absurd h hr
  cases hk with
  | copy ha hb => exact ⟨fun _ => rd he, fun h => by cases h⟩
  | concat hd h1 h2 hl => exact ⟨fun _ => rd he, fun h => by cases h⟩
  | echo hd hw => exact ⟨fun _ => wr_behind he, fun h => by cases h⟩
  | touch hd => exact ⟨fun _ => tc_behind he, fun h => by cases h⟩
  | remove hd => exact ⟨fun _ => rm_behind he, fun h => by cases h⟩
  | @test s hs =>
    refine ⟨fun h => (by cases h), fun _ => ?_⟩
    by_cases hf : findE clock l s = 0
    · have e : doneOf ⟨6, ⟨#[]⟩, [s], [], 0⟩ clock l = ⟨clock, l, .empty, 0, 0⟩ := show (if findE clock l s = 0 then _ else _) = _ from if_pos hf
      rw [e]; exact ⟨rfl, rfl⟩
    · have e : doneOf ⟨6, ⟨#[]⟩, [s], [], 0⟩ clock l = ⟨clock, l, .empty, 1, 171⟩ := show (if findE clock l s = 0 then _ else _) = _ from if_neg hf
      rw [e]; exact ⟨rfl, rfl⟩
  | fail h1 h2 => exact ⟨fun h => (by cases h), fun _ => ⟨rfl, rfl⟩⟩
  | say hw => exact ⟨fun h => (by cases h), fun _ => ⟨rfl, rfl⟩⟩
theorem status_ne {e : Int} (h : e ≠ 0) : statusOf e ≠ 0 := by
  unfold statusOf; rw [if_neg h]
  repeat' (first | (split) | decide)
/-- A command keeps all but the target. -/
structure Keeps (n : Node) (clock : Int) (l : List File) (x : Done) : Prop where
  ok : okD x.clock x.files = true
  kept : (x.code ≠ 0 ∨ x.wrote = false) → x.clock = clock ∧ x.files = l ∧ (x.code ≠ 0 → x.said = .empty ∧ x.status ≠ 0) ∧ (x.code = 0 → x.status = 0)
  wrote : x.code = 0 → x.wrote = true → Behind clock l n.target x.clock x.files
theorem fail_keeps {n : Node} {clock e st : Int} {l : List File} (hd : okD clock l = true) (he : e ≠ 0) : Keeps n clock l (failD clock l e st) := by
  refine ⟨hd, fun _ => ⟨rfl, rfl, fun _ => ⟨rfl, ?_⟩, fun h => absurd h he⟩, fun h => absurd h he⟩
  show (if st = 0 then statusOf e else st) ≠ 0
  split
  · exact status_ne he
  · assumption
theorem do_keeps {n : Node} {t : ByteArray} {clock fail : Int} {l : List File} (hd : okD clock l = true) : Keeps n clock l (doIt n t clock l fail) := by
  unfold doIt
  split
  · exact fail_keeps hd (by decide)
  split
  · rename_i hm
    have hL : lineE t = 0 := by
      unfold mayX mayOf at hm
      by_cases he : lineE t = 0
      · exact he
      · rw [if_neg he] at hm; exact absurd hm he
    have hk := line_kind hL
    have hdst : wrOf (lineC t) = true → (lineC t).dst = n.target := by
      unfold mayX mayOf at hm
      rw [if_pos hL] at hm
      split at hm
      · rename_i q; exact q.2
      · cases hm
    unfold doneD
    split
    · rename_i he
      obtain ⟨b1, b2⟩ := done_behind hk he
      cases hw : wrOf (lineC t) with
      | true =>
        have B := b1 hw
        rw [hdst hw] at B
        exact ⟨B.ok, fun h => (by rcases h with h | h; exact absurd rfl h; cases h), fun _ _ => B⟩
      | false =>
        obtain ⟨e1, e2⟩ := b2 hw
        refine ⟨?_, fun _ => ⟨e1, e2, fun h => absurd rfl h, fun _ => rfl⟩, fun _ h => (by cases h)⟩
        show okD (doneOf (lineC t) clock l).clock (doneOf (lineC t) clock l).files = true
        rw [e1, e2]; exact hd
    · rename_i he
      exact fail_keeps hd he
  · rename_i hm
    exact fail_keeps hd hm
end Go.Proofs.YtepdiooaoegpfaaGreatDoor.Fx
end
section
/- What a command does hangs on no file but the target and its needs: plain facts. Conditions: those in each statement. -/
namespace Go.Proofs.YtepdiooaoegpfaaGreatDoor.Fx
open Go Go.Proofs Go.Ev Go.RowKit
set_option linter.unusedSimpArgs false
set_option linter.unusedVariables false
/-- Two disks that are the same but for a file of that name, with room for one more. -/
structure Twins (nm : ByteArray) (c : Int) (l : List File) (c' : Int) (l' : List File) : Prop where
  ok : okD c l = true
  ok' : okD c' l' = true
  room : l.length < 256
  room' : l'.length < 256
  early : c < 1099511627776
  same : ∀ q, q ≠ nm → findF l' q = findF l q
variable {nm : ByteArray} {c c' : Int} {l l' : List File}
def textAt (l : List File) (s : ByteArray) : Option ByteArray := (findF l s).map File.text
theorem Twins.findE (T : Twins nm c l c' l') {q : ByteArray} (h : q ≠ nm) : findE c' l' q = findE c l q := by
  unfold Fx.findE; rw [T.ok, T.ok', T.same q h]
theorem Twins.findD (T : Twins nm c l c' l') {q : ByteArray} (h : q ≠ nm) : findD c' l' q = findD c l q := by
  unfold Fx.findD; rw [T.ok, T.ok', T.same q h]
theorem Twins.there (T : Twins nm c l c' l') {q : ByteArray} (h : q ≠ nm) : thereF l' q = thereF l q := by
  have h1 := findF_sorted (l := l) (s := q) (okD_sorted T.ok).2
  have h2 := findF_sorted (l := l') (s := q) (okD_sorted T.ok').2
  rw [T.same q h, h1] at h2
  cases ha : thereF l q <;> cases hb : thereF l' q <;> simp [ha, hb] at h2 ⊢
theorem Twins.text (T : Twins nm c l c' l') {q : ByteArray} (h : q ≠ nm) : textF l' q = textF l q := by
  have h1 := findF_sorted (l := l) (s := q) (okD_sorted T.ok).2
  have h2 := findF_sorted (l := l') (s := q) (okD_sorted T.ok').2
  rw [T.same q h, h1, T.there h] at h2
  unfold textF
  rw [T.there h]
  cases ha : thereF l q
  · rfl
  · rw [ha] at h2
    simp only [if_true, Option.some.injEq] at h2 ⊢
    rw [h2]
theorem Twins.at (T : Twins nm c l c' l') {q : ByteArray} (h : q ≠ nm) : textAt l' q = textAt l q := by unfold textAt; rw [T.same q h]
theorem Twins.read (T : Twins nm c l c' l') : ∀ (src : List ByteArray) (acc : List UInt8), (∀ q ∈ src, q ≠ nm) → readGo c' l' src acc = readGo c l src acc
  | [], _, _ => rfl
  | q :: r, acc, h => by
    have hq := h q (List.mem_cons_self ..)
    simp only [readGo]
    rw [T.findE hq, T.findD hq, T.read r _ fun x hx => h x (List.mem_cons_of_mem _ hx)]
theorem room_laid {f : File} (h : l.length < 256) : laidE l f = 0 := by
  cases ht : thereF l f.name with
  | true => exact (laidE_yes ht).1
  | false => exact (laidE_no ht (by omega)).1
theorem Twins.writ (T : Twins nm c l c' l') {d t : ByteArray} : writE c l ⟨d, t, c + 1⟩ = 0 ∧ (writE c' l' ⟨d, t, c' + 1⟩ = 0 ∨ writE c' l' ⟨d, t, c' + 1⟩ = 23) := by
  have := T.early
  unfold writE
  rw [if_pos (room_laid T.room), if_pos (room_laid T.room'), if_neg (by omega)]
  refine ⟨rfl, ?_⟩
  split
  · exact .inr rfl
  · exact .inl rfl
/-- Two ends of a command. -/
def Near (e e' : Int) (f f' : List File) (s : ByteArray) : Prop := e' = 23 ∨ (e' = e ∧ (e = 0 → textAt f' s = textAt f s))
theorem text_laid {l : List File} {f : File} (hs : Sorted l) (he : laidE l f = 0) : textAt (laidL l f) f.name = some f.text := by
  unfold textAt; rw [(laid_facts hs he).2.2.1]; rfl
theorem Twins.wr (T : Twins nm c l c' l') {d t : ByteArray} : Near (wrE c l d t) (wrE c' l' d t) (wrL' c l d t) (wrL' c' l' d t) d := by
  obtain ⟨h1, h2⟩ := T.writ (d := d) (t := t)
  have e1 : wrE c l d t = if isName d = true then if 4096 < t.size then 20 else 0 else 3 := by unfold wrE; rw [if_pos T.ok, h1]
  have e2 : wrE c' l' d t = if isName d = true then if 4096 < t.size then 20 else writE c' l' ⟨d, t, c' + 1⟩ else 3 := by unfold wrE; rw [if_pos T.ok']
  have hT : wrE c l d t = 0 → wrE c' l' d t = 0 → textAt (wrL' c' l' d t) d = textAt (wrL' c l d t) d := fun q1 q2 => by
    unfold wrL'
    rw [if_pos q1, if_pos q2, text_laid (f := ⟨d, t, c + 1⟩) (okD_sorted T.ok).2 (room_laid T.room), text_laid (f := ⟨d, t, c' + 1⟩) (okD_sorted T.ok').2 (room_laid T.room')]
  by_cases q : wrE c' l' d t = 23
  · exact .inl q
  · have e : wrE c' l' d t = wrE c l d t := by
      rcases h2 with h2 | h2
      · rw [e1, e2, h2]
      · rw [h2] at e2
        rw [e1, e2]
        rw [e2] at q
        by_cases hn : isName d = true
        · rw [if_pos hn] at q ⊢
          rw [if_pos hn]
          by_cases hz : 4096 < t.size
          · rw [if_pos hz, if_pos hz]
          · rw [if_neg hz] at q; exact absurd rfl q
        · rw [if_neg hn, if_neg hn]
    exact .inr ⟨e, fun h => hT h (e.trans h)⟩
theorem Twins.tc (T : Twins nm c l c' l') {d : ByteArray} (hd : d ≠ nm) : Near (tcE c l d) (tcE c' l' d) (tcL c l d) (tcL c' l' d) d := by
  have ht := T.text hd
  obtain ⟨h1, h2⟩ := T.writ (d := d) (t := textF l d)
  have e1 : tcE c l d = if isName d = true then 0 else 3 := by unfold tcE; rw [if_pos T.ok, h1]
  have e2 : tcE c' l' d = if isName d = true then writE c' l' ⟨d, textF l d, c' + 1⟩ else 3 := by unfold tcE; rw [if_pos T.ok', ht]
  have hT : tcE c l d = 0 → tcE c' l' d = 0 → textAt (tcL c' l' d) d = textAt (tcL c l d) d := fun q1 q2 => by
    unfold tcL
    rw [if_pos q1, if_pos q2, ht, text_laid (f := ⟨d, textF l d, c + 1⟩) (okD_sorted T.ok).2 (room_laid T.room), text_laid (f := ⟨d, textF l d, c' + 1⟩) (okD_sorted T.ok').2 (room_laid T.room')]
  by_cases q : tcE c' l' d = 23
  · exact .inl q
  · have e : tcE c' l' d = tcE c l d := by
      rcases h2 with h2 | h2
      · rw [e1, e2, h2]
      · rw [h2] at e2
        rw [e1, e2]
        rw [e2] at q
        by_cases hn : isName d = true
        · rw [if_pos hn] at q; exact absurd rfl q
        · rw [if_neg hn, if_neg hn]
    exact .inr ⟨e, fun h => hT h (e.trans h)⟩
theorem Twins.rm (T : Twins nm c l c' l') {d : ByteArray} (hd : d ≠ nm) : Near (rmE c l d) (rmE c' l' d) (rmL c l d) (rmL c' l' d) d := by
  have e : rmE c' l' d = rmE c l d := by unfold rmE; rw [if_pos T.ok, if_pos T.ok', T.there hd]
  refine .inr ⟨e, fun h => ?_⟩
  have h' := e.trans h
  have ht : thereF l d = true := by
    unfold rmE at h
    repeat' (first | (split at h) | (cases h; done) | assumption)
  unfold rmL
  rw [if_pos h, if_pos h']
  unfold textAt
  rw [(cut_facts (okD_sorted T.ok).2 ht).2.2.2.1, (cut_facts (okD_sorted T.ok').2 ((T.there hd).trans ht)).2.2.2.1]
/-- What is done upon the one, and upon the other. -/
structure NearR (s : ByteArray) (r r' : DR) : Prop where
  said : r'.said = r.said
  st : r'.st = r.st
  near : Near r.e r'.e r.files r'.files s
theorem Twins.done (T : Twins nm c l c' l') {k : Cm} {s : ByteArray} (hk : Kind k) (hsrc : ∀ q ∈ k.src, q ≠ nm) (hs : s ≠ nm) (hw : wrOf k = true → k.dst = s) : NearR s (doneOf k c l) (doneOf k c' l') := by
  have rd : ∀ {d : ByteArray} {src : List ByteArray}, d = s → (∀ q ∈ src, q ≠ nm) →
      NearR s (if readE c l src = 0 then (⟨wrC c l d (readT c l src), wrL' c l d (readT c l src), .empty, 0, wrE c l d (readT c l src)⟩ : DR) else ⟨c, l, .empty, 0, readE c l src⟩) (if readE c' l' src = 0 then (⟨wrC c' l' d (readT c' l' src), wrL' c' l' d (readT c' l' src), .empty, 0, wrE c' l' d (readT c' l' src)⟩ : DR) else ⟨c', l', .empty, 0, readE c' l' src⟩) := by
    intro d src hd h
    have e1 : readE c' l' src = readE c l src := by unfold readE; rw [T.read src _ h]
    have e2 : readT c' l' src = readT c l src := by unfold readT; rw [T.read src _ h]
    rw [e1, e2]
    by_cases hr : readE c l src = 0
    · rw [if_pos hr, if_pos hr]; exact ⟨rfl, rfl, hd ▸ T.wr⟩
    · rw [if_neg hr, if_neg hr]; exact ⟨rfl, rfl, .inr ⟨rfl, fun q => absurd q hr⟩⟩
  cases hk with
  | copy ha hb => exact rd (hw rfl) hsrc
  | concat hd h1 h2 hl => exact rd (hw rfl) hsrc
  | echo hd hn => obtain rfl := hw rfl; exact ⟨rfl, rfl, T.wr⟩
  | touch hd => obtain rfl := hw rfl; exact ⟨rfl, rfl, T.tc hs⟩
  | remove hd => obtain rfl := hw rfl; exact ⟨rfl, rfl, T.rm hs⟩
  | @test q hq =>
    have e := T.findE (hsrc q (List.mem_cons_self ..))
    by_cases hf : Fx.findE c l q = 0
    · have e1 : doneOf ⟨6, ⟨#[]⟩, [q], [], 0⟩ c l = ⟨c, l, .empty, 0, 0⟩ := show (if Fx.findE c l q = 0 then _ else _) = _ from if_pos hf
      have e2 : doneOf ⟨6, ⟨#[]⟩, [q], [], 0⟩ c' l' = ⟨c', l', .empty, 0, 0⟩ := show (if Fx.findE c' l' q = 0 then _ else _) = _ from if_pos (e.trans hf)
      rw [e1, e2]; exact ⟨rfl, rfl, .inr ⟨rfl, fun _ => T.at hs⟩⟩
    · have e1 : doneOf ⟨6, ⟨#[]⟩, [q], [], 0⟩ c l = ⟨c, l, .empty, 1, 171⟩ := show (if Fx.findE c l q = 0 then _ else _) = _ from if_neg hf
      have e2 : doneOf ⟨6, ⟨#[]⟩, [q], [], 0⟩ c' l' = ⟨c', l', .empty, 1, 171⟩ := show (if Fx.findE c' l' q = 0 then _ else _) = _ from if_neg (by rw [e]; exact hf)
      rw [e1, e2]; exact ⟨rfl, rfl, .inr ⟨rfl, fun h => by cases h⟩⟩
  | fail h1 h2 => exact ⟨rfl, rfl, .inr ⟨rfl, fun h => by cases h⟩⟩
  | say hn => exact ⟨rfl, rfl, .inr ⟨rfl, fun _ => T.at hs⟩⟩
/-- The ends of a command, as told. -/
def NearD (s : ByteArray) (x y : Done) : Prop := y.code = 23 ∨ (y.said = x.said ∧ y.wrote = x.wrote ∧ y.status = x.status ∧ y.code = x.code ∧ textAt y.files s = textAt x.files s)
theorem Twins.failD (T : Twins nm c l c' l') {s : ByteArray} {e st : Int} (hs : s ≠ nm) : NearD s (failD c l e st) (failD c' l' e st) := .inr ⟨rfl, rfl, rfl, rfl, T.at hs⟩
theorem Twins.doneD (T : Twins nm c l c' l') {k : Cm} {s : ByteArray} {r r' : DR} (hs : s ≠ nm) (h : NearR s r r') : NearD s (doneD k r c l) (doneD k r' c' l') := by
  obtain ⟨h1, h2, h3 | ⟨h3, h4⟩⟩ := h
  · refine .inl ?_
    unfold Fx.doneD
    rw [if_neg (by rw [h3]; decide)]
    exact h3
  · unfold Fx.doneD
    by_cases q : r.e = 0
    · rw [if_pos q, if_pos (h3.trans q)]
      exact .inr ⟨h1, rfl, rfl, rfl, h4 q⟩
    · rw [if_neg q, if_neg (by rw [h3]; exact q), h3, h2]
      exact T.failD hs
theorem src_apart {src needs : List ByteArray} (h : src.all (hasS needs) = true) (hn : hasS needs nm = false) : ∀ q ∈ src, q ≠ nm := by
  intro q hq e
  subst e
  rw [List.all_eq_true] at h
  rw [h q hq] at hn; cases hn
theorem Twins.doIt (T : Twins nm c l c' l') {n : Node} {t : ByteArray} {k : Int} (hs : n.target ≠ nm) (hn : hasS n.needs nm = false) : NearD n.target (doIt n t c l k) (doIt n t c' l' k) := by
  unfold Fx.doIt
  by_cases hk : 0 < k
  · rw [if_pos hk, if_pos hk]; exact T.failD hs
  · rw [if_neg hk, if_neg hk]
    by_cases hm : mayX n t = 0
    · rw [if_pos hm, if_pos hm]
      have hm' := hm
      unfold mayX mayOf at hm'
      have hL : lineE t = 0 := by
        by_cases he : lineE t = 0
        · exact he
        · rw [if_neg he] at hm'; exact absurd hm' he
      rw [if_pos hL] at hm'
      split at hm'
      · rename_i q
        exact T.doneD hs (T.done (line_kind hL) (src_apart q.1 hn) hs q.2)
      · cases hm'
    · rw [if_neg hm, if_neg hm]; exact T.failD hs
theorem laid_grow {f : File} (h : laidE l f = 0) : l.length ≤ (laidL l f).length := by
  cases ht : thereF l f.name with
  | true => rw [(laidE_yes ht).2, List.length_set]; exact Nat.le_refl _
  | false =>
    by_cases hn : l.length = 256
    · rw [(laidE_full ht hn).1] at h; cases h
    · rw [(laidE_no ht hn).2]; simp only [List.length_append, List.length_cons, List.length_take, List.length_drop]; have := @posF_le l f.name; omega
/-- A file written beside. -/
theorem twins_of {t : ByteArray} (he : wrE c l nm t = 0) (hl : (wrL' c l nm t).length ≠ 256) : Twins nm c l (wrC c l nm t) (wrL' c l nm t) := by
  have B := wr_behind he
  have hL : wrL' c l nm t = laidL l ⟨nm, t, c + 1⟩ := by unfold wrL'; rw [if_pos he]
  have h0 : okD c l = true ∧ laidE l ⟨nm, t, c + 1⟩ = 0 ∧ ¬ c = 1099511627776 := by
    unfold wrE at he
    split at he
    · split at he
      · split at he
        · cases he
        · unfold writE at he
          split at he
          · split at he
            · cases he
            · exact ⟨by assumption, by assumption, by assumption⟩
          · exact absurd he (by assumption)
      · cases he
    · cases he
  have hg := laid_grow h0.2.1
  have h2 := (okD_sorted B.ok).1
  rw [hL] at hl h2
  exact ⟨h0.1, B.ok, by omega, by rw [hL]; omega, by have := okD_clock h0.1; omega, B.others⟩
end Go.Proofs.YtepdiooaoegpfaaGreatDoor.Fx
end
section
/- Disks as the document's answer writes them. Conditions: those in each statement. -/
namespace Go.Proofs.YtepdiooaoegpfaaGreatDoor.Fx
open Go Go.Proofs Go.Ev Go.RowKit
set_option maxRecDepth 100000
set_option maxHeartbeats 1600000
set_option linter.unusedSimpArgs false
set_option linter.unusedVariables false
def laidGo (f : File) (done : Bool) : List File → List File
  | [] => bif done then [] else [f]
  | x :: r => bif !done && !ltS x.name f.name then f :: (bif beqS x.name f.name then laidGo f true r else x :: laidGo f true r) else bif beqS x.name f.name then laidGo f done r else x :: laidGo f done r
theorem laidGo_end {f : File} {l : List File} {i : Nat} {d : Bool} (h : ¬ i < l.length) : laidGo f d (l.drop i) = bif d then [] else [f] := by
  rw [List.drop_eq_nil_of_le (by omega)]; rfl
theorem laidGo_step {f : File} {l : List File} {i : Nat} {d : Bool} (h : i < l.length) : laidGo f d (l.drop i) = bif !d && !ltS (l.getD i File.none).name f.name then f :: (bif beqS (l.getD i File.none).name f.name then laidGo f true (l.drop (i + 1)) else l.getD i File.none :: laidGo f true (l.drop (i + 1))) else bif beqS (l.getD i File.none).name f.name then laidGo f d (l.drop (i + 1)) else l.getD i File.none :: laidGo f d (l.drop (i + 1)) := by
  rw [drop_getD File.none h]; rfl
theorem map_snoc2 {α : Type} (f : α → AV) (l : List α) (x y : α) : l.map f ++ [f x] ++ [f y] = (l ++ [x, y]).map f := by simp
theorem Weak.goOwn {n : Nat} {c c0 : Cfg} {own : List Bx} (e : c.own = own) (he : c0.env = c.env)
    (hf : FrLeq1 c.base c0.own.length c.fr c0.fr) (ho : OsLeq n c c0.fr c0.os) (hw : OwnLeq1 c.base c0.own.length own c0.own) : Weak n c c0 := by
  subst e; exact Weak.of he (FrLeq_of1 hf) ho (OwnLeq_of1 hw)
theorem c_ref02_laid {clock : Int} {l : List File} {f : File} (hl : l.length ≤ 1000000000) : XPure Tryz.prog 61 [eD clock l, eF f] (eD clock (laidGo f false l)) false := by
  refine XPure.body ⟨_, Tryz.func61, rfl, by kernel_rfl⟩ Tryz.func61 rfl (Nat.le_of_ble_eq_true (by rfl)) (pf_of1 rfl) fun env => ?_
  repeat' ((conv => whnf); (fail_if_success refine zC ?_); first | refine zS ?_ | refine zB (fun h hs => ?_) (fun h hs => ?_) <;> try exact hs.elim | exact zE | refine zZ ?_ | fail)
  refine XW.overL [2, 3, 4, 5] (fun (p : Nat × Bool × List File) => [(6, bln p.2.1), (7, i64 p.1)]) (fun _ => []) (fun p => [.cells [i64 clock, eFs l] [], .cells (eF f).leaves [], .cells [i64 0, nilv] [], .cells [i64 clock, eFs p.2.2] [1]]) (fun p => p.1 ≤ l.length ∧ p.2.2.length ≤ 2 * p.1 ∧ p.2.2 ++ laidGo f p.2.1 (l.drop p.1) = laidGo f false l) (fun p => l.length - p.1) (0, false, []) Weak.go ⟨Nat.zero_le _, Nat.zero_le _, rfl⟩ ?_
  rintro ⟨i, d, acc⟩ ⟨hi, ha, hA⟩
  dsimp only at hi ha hA ⊢
  refine codeS ?_
  have hM1 := map_snoc eF acc f
  have hM2 := map_snoc eF acc (l.getD i File.none)
  have hM3 := map_snoc2 eF acc f (l.getD i File.none)
  repeat' ((conv => whnf); (fail_if_success refine zC ?_); first | refine zS ?_ | refine zB (fun h hs => ?_) (fun h hs => ?_) <;> try exact hs.elim | exact zE | refine zZ ?_ | rw [getD_mapI (File.none) (by omega)] | rw [getD_map (File.none) (by omega)] | fail)
  · conv => whnf
    refine ⟨(i + 1, true, acc ++ [f, l.getD i File.none]), by dsimp only; omega, ⟨by dsimp only; omega, by simp only [List.length_append, List.length_cons, List.length_nil]; omega, ?_⟩, Weak.goOwn (own := [.cells [i64 clock, eFs l] [], .cells (eF f).leaves [], .cells [i64 0, nilv] [], .cells [i64 clock, eFs (acc ++ [f, l.getD i File.none])] [1], .cells (eF (l.getD i File.none)).leaves []]) (Eq.trans (b := [.cells [i64 clock, eFs l] [], .cells (eF f).leaves [], .cells [i64 0, nilv] [], .cells [i64 clock, .sl 3 (acc.map eF ++ [eF f] ++ [eF (l.getD i File.none)])] [1], .cells (eF (l.getD i File.none)).leaves []]) (by kernel_rfl) (congrArg (fun z => ([.cells [i64 clock, eFs l] [], .cells (eF f).leaves [], .cells [i64 0, nilv] [], .cells [i64 clock, .sl 3 z] [1], .cells (eF (l.getD i File.none)).leaves []] : List Bx)) hM3)) rfl ?_ ?_ ?_⟩
    · have b0 : (!d && !ltS (l.getD i File.none).name f.name) = true := by grind
      have b1 : beqS (l.getD i File.none).name f.name = false := by simpa using h
      dsimp only
      rw [← hA, laidGo_step (i := i) (by assumption), b0, b1]
      simp
    · repeat' (first | ((with_reducible show Leq _ _); first | exact Or.inr (Or.inl rfl) | exact Or.inr (Or.inl (congrArg (fun z => AV.v (Value.int IntKind.i64 z)) (wrapTo (by omega) (by omega) (by omega)))) | fail) | ((with_reducible show cl1 _ _ _); first | exact trivial | exact Nat.le_of_ble_eq_true rfl | (refine ⟨?_, ?_⟩)) | ((with_reducible show clL _ _ _); first | exact trivial | (refine ⟨?_, ?_⟩)) | ((with_reducible show FrLeq1 _ _ _ _); first | exact trivial | (refine ⟨?_, ?_, ?_⟩)))
    · exact trivial
    · exact ⟨⟨.inr (.inl rfl), trivial, .inr (.inl rfl), trivial, trivial⟩, (fun j hj => absurd hj List.not_mem_nil), ⟨.inr (.inl rfl), trivial, .inr (.inl rfl), trivial, .inr (.inl rfl), trivial, trivial⟩, (fun j hj => absurd hj List.not_mem_nil), ⟨.inr (.inl rfl), trivial, .inr (.inl rfl), trivial, trivial⟩, (fun j hj => absurd hj List.not_mem_nil), ⟨.inr (.inl rfl), trivial, .inr (.inl rfl), trivial, trivial⟩, (fun j hj => by obtain rfl := List.mem_singleton.1 hj; exact ⟨Or.inl (List.mem_singleton.2 rfl), rfl⟩), trivial⟩
  · conv => whnf
    refine ⟨(i + 1, true, acc ++ [f]), by dsimp only; omega, ⟨by dsimp only; omega, by simp only [List.length_append, List.length_cons, List.length_nil]; omega, ?_⟩, Weak.go⟩
    have b0 : (!d && !ltS (l.getD i File.none).name f.name) = true := by grind
    have b1 : beqS (l.getD i File.none).name f.name = true := by simpa using h
    dsimp only
    rw [← hA, laidGo_step (i := i) (by assumption), b0, b1]
    simp
  · conv => whnf
    refine ⟨(i + 1, d, acc ++ [l.getD i File.none]), by dsimp only; omega, ⟨by dsimp only; omega, by simp only [List.length_append, List.length_cons, List.length_nil]; omega, ?_⟩, Weak.go⟩
    have b0 : (!d && !ltS (l.getD i File.none).name f.name) = false := by grind
    have b1 : beqS (l.getD i File.none).name f.name = false := by simpa using h
    dsimp only
    rw [← hA, laidGo_step (i := i) (by assumption), b0, b1]
    simp
  · conv => whnf
    refine ⟨(i + 1, d, acc), by dsimp only; omega, ⟨by dsimp only; omega, by simp only [List.length_append, List.length_cons, List.length_nil]; omega, ?_⟩, Weak.go⟩
    have b0 : (!d && !ltS (l.getD i File.none).name f.name) = false := by grind
    have b1 : beqS (l.getD i File.none).name f.name = true := by simpa using h
    dsimp only
    rw [← hA, laidGo_step (i := i) (by assumption), b0, b1]
    simp
  · conv => whnf
    refine ⟨(i + 1, d, acc ++ [l.getD i File.none]), by dsimp only; omega, ⟨by dsimp only; omega, by simp only [List.length_append, List.length_cons, List.length_nil]; omega, ?_⟩, Weak.go⟩
    have b0 : (!d && !ltS (l.getD i File.none).name f.name) = false := by grind
    have b1 : beqS (l.getD i File.none).name f.name = false := by simpa using h
    dsimp only
    rw [← hA, laidGo_step (i := i) (by assumption), b0, b1]
    simp
  · conv => whnf
    refine ⟨(i + 1, d, acc), by dsimp only; omega, ⟨by dsimp only; omega, by simp only [List.length_append, List.length_cons, List.length_nil]; omega, ?_⟩, Weak.go⟩
    have b0 : (!d && !ltS (l.getD i File.none).name f.name) = false := by grind
    have b1 : beqS (l.getD i File.none).name f.name = true := by simpa using h
    dsimp only
    rw [← hA, laidGo_step (i := i) (by assumption), b0, b1]
    simp
  all_goals have e : laidGo f false l = acc ++ (bif d then [] else [f]) := by (rw [← hA, laidGo_end (by assumption)])
  · rw [e, hs]
    refine Eq.trans (b := AV.agg [i64 clock, .sl 3 (acc.map eF ++ [eF f])]) (by kernel_rfl) ?_
    rw [hM1]; rfl
  · rw [e, hs]
    refine Eq.trans (b := AV.agg [i64 clock, .sl 3 (acc.map eF)]) (by kernel_rfl) ?_
    rw [show acc ++ (bif true then [] else [f]) = acc from List.append_nil _]
end Go.Proofs.YtepdiooaoegpfaaGreatDoor.Fx
end
section
/- Disks as the document's answer writes, touches and clears them: the same as the program's. Conditions: those in each statement. -/
namespace Go.Proofs.YtepdiooaoegpfaaGreatDoor.Fx
open Go Go.Proofs Go.Ev Go.RowKit
set_option maxRecDepth 100000
set_option maxHeartbeats 3200000
set_option linter.unusedSimpArgs false
set_option linter.unusedVariables false
theorem placeN_app {s : ByteArray} : ∀ (A B : List File) (i : Nat), (∀ a ∈ A, a.name ≠ s) → placeN (A ++ B) s i = placeN B s (i + A.length)
  | [], B, i, _ => rfl
  | a :: A, B, i, h => by
    show (if beqS a.name s then (i : Int) else placeN (A ++ B) s (i + 1)) = _
    rw [if_neg (by rw [beqS_iff]; exact h a (List.mem_cons_self ..)), placeN_app A B (i + 1) fun x hx => h x (List.mem_cons_of_mem _ hx)]
    congr 1; simp; omega
theorem placeN_not {s : ByteArray} {l : List File} (h : ∀ a ∈ l, a.name ≠ s) : placeN l s 0 = -1 := by
  have := placeN_app l [] 0 h
  rwa [List.append_nil] at this
theorem place_yes {l : List File} {s : ByteArray} (hs : Sorted l) (h : thereF l s = true) : placeN l s 0 = (posF l s : Nat) := by
  obtain ⟨A, B, hA, hB, hp, ⟨_, g, hg, rfl⟩ | ⟨h', _⟩⟩ := parts (s := s) hs
  · rw [placeN_app A _ 0 fun a ha => lt_ne (hA a ha), hp]
    show (if beqS g.name s then ((0 + A.length : Nat) : Int) else _) = _
    rw [if_pos (beqS_iff.2 hg), Nat.zero_add]
  · rw [h] at h'; cases h'
theorem place_no {l : List File} {s : ByteArray} (hs : Sorted l) (h : thereF l s = false) : placeN l s 0 = -1 := by
  obtain ⟨A, B, hA, hB, hp, ⟨h', _⟩ | ⟨_, rfl⟩⟩ := parts (s := s) hs
  · rw [h] at h'; cases h'
  · refine placeN_not fun a ha => ?_
    rcases List.mem_append.1 ha with ha | ha
    · exact lt_ne (hA a ha)
    · exact (lt_ne (hB a ha)).symm
theorem c_place_yes {clock : Int} {l : List File} {s : ByteArray} (hl : l.length ≤ 256) (hs : Sorted l) (h : thereF l s = true) : XPure Tryz.prog 60 [eD clock l, str s] (i64 ((posF l s : Nat) : Int)) false := by
  rw [← place_yes hs h]; exact c_ref02_place (by omega)
theorem c_place_no {clock : Int} {l : List File} {s : ByteArray} (hl : l.length ≤ 256) (hs : Sorted l) (h : thereF l s = false) : XPure Tryz.prog 60 [eD clock l, str s] (i64 (-1)) false := by
  rw [← place_no hs h]; exact c_ref02_place (by omega)
theorem laidGo_low {f : File} : ∀ (A r : List File), (∀ a ∈ A, ltS a.name f.name = true) → laidGo f false (A ++ r) = A ++ laidGo f false r
  | [], r, _ => rfl
  | a :: A, r, h => by
    have ha := h a (List.mem_cons_self ..)
    have hb : beqS a.name f.name = false := beqS_no.2 (lt_ne ha)
    show (bif !false && !ltS a.name f.name then _ else bif beqS a.name f.name then laidGo f false (A ++ r) else a :: laidGo f false (A ++ r)) = _
    rw [ha, hb, laidGo_low A r fun x hx => h x (List.mem_cons_of_mem _ hx)]; rfl
theorem laidGo_high {f : File} : ∀ (B : List File), (∀ b ∈ B, ltS f.name b.name = true) → laidGo f true B = B
  | [], _ => rfl
  | b :: B, h => by
    have hb : beqS b.name f.name = false := beqS_no.2 (lt_ne (h b (List.mem_cons_self ..))).symm
    show (bif !true && !ltS b.name f.name then _ else bif beqS b.name f.name then laidGo f true B else b :: laidGo f true B) = _
    rw [hb, laidGo_high B fun x hx => h x (List.mem_cons_of_mem _ hx)]; rfl
theorem laidGo_at {f : File} {B : List File} (h : ∀ b ∈ B, ltS f.name b.name = true) : laidGo f false B = f :: B := by
  cases B with
  | nil => rfl
  | cons b B =>
    have h1 := h b (List.mem_cons_self ..)
    have hb : beqS b.name f.name = false := beqS_no.2 (lt_ne h1).symm
    have hl : ltS b.name f.name = false := by
      cases hq : ltS b.name f.name with
      | false => rfl
      | true => exact absurd (ltS_trans h1 hq) (by rw [ltS_irrefl]; simp)
    show (bif !false && !ltS b.name f.name then f :: (bif beqS b.name f.name then laidGo f true B else b :: laidGo f true B) else _) = _
    rw [hl, hb, laidGo_high B fun x hx => h x (List.mem_cons_of_mem _ hx)]; rfl
theorem laidGo_eq {l : List File} {f : File} (hs : Sorted l) (he : laidE l f = 0) : laidGo f false l = laidL l f := by
  obtain ⟨A, B, hA, hB, hp, h⟩ := parts (s := f.name) hs
  rcases h with ⟨ht, g, hg, rfl⟩ | ⟨ht, rfl⟩
  · rw [(laidE_yes (l := A ++ g :: B) (f := f) ht).2, hp, List.set_append_right _ _ (Nat.le_refl _), Nat.sub_self, laidGo_low A _ hA]
    have hb : beqS g.name f.name = true := beqS_iff.2 hg
    have hl : ltS g.name f.name = false := by rw [hg]; exact ltS_irrefl _
    show A ++ (bif !false && !ltS g.name f.name then f :: (bif beqS g.name f.name then laidGo f true B else g :: laidGo f true B) else _) = _
    rw [hl, hb]
    show A ++ f :: laidGo f true B = _
    rw [laidGo_high B hB]; rfl
  · have hn : ¬ (A ++ B).length = 256 := fun e => by have := (laidE_full (l := A ++ B) (f := f) ht e).1; rw [this] at he; cases he
    rw [(laidE_no (l := A ++ B) (f := f) ht hn).2, hp, List.take_left, List.drop_left, laidGo_low A _ hA, laidGo_at hB]
theorem c_ref02_written {clock : Int} {l : List File} {name text : ByteArray} (hc : 0 ≤ clock ∧ clock ≤ 1099511627776) (hl : l.length ≤ 256) (hp : Sorted l) :
    XPure Tryz.prog 36 [eD clock l, str name, str text] (.tup [eD (writC clock l ⟨name, text, clock + 1⟩) (writL clock l ⟨name, text, clock + 1⟩), i64 (writE clock l ⟨name, text, clock + 1⟩)]) false := by
  have hw : IntKind.i64.wrap (clock + 1) = clock + 1 := wrapId (by omega) (by omega)
  have hL := c_ref02_laid (clock := clock) (l := l) (f := ⟨name, text, clock + 1⟩) (by omega)
  have e0 (h : laidE l ⟨name, text, clock + 1⟩ = 0) : laidGo ⟨name, text, clock + 1⟩ false l = laidL l ⟨name, text, clock + 1⟩ := laidGo_eq hp h
  have eC (h : laidE l ⟨name, text, clock + 1⟩ = 0) (h2 : ¬ clock = 1099511627776) : writE clock l ⟨name, text, clock + 1⟩ = 0 := by unfold writE; rw [if_pos h, if_neg h2]
  have eK (h : laidE l ⟨name, text, clock + 1⟩ = 0) (h2 : clock = 1099511627776) : writE clock l ⟨name, text, clock + 1⟩ = 23 := by unfold writE; rw [if_pos h, if_pos h2]
  have eF' (h : thereF l name = false) (h2 : l.length = 256) : writE clock l ⟨name, text, clock + 1⟩ = 22 := by unfold writE; rw [(laidE_full (f := ⟨name, text, clock + 1⟩) h h2).1]; rfl
  have lo (h : ¬ (thereF l name = false ∧ l.length = 256)) : laidE l ⟨name, text, clock + 1⟩ = 0 := by
    cases ht : thereF l name with
    | true => exact (laidE_yes (f := ⟨name, text, clock + 1⟩) ht).1
    | false => exact (laidE_no (f := ⟨name, text, clock + 1⟩) ht (fun e => h ⟨ht, e⟩)).1
  generalize hR : laidGo ⟨name, text, clock + 1⟩ false l = R at hL e0
  rw [← hw] at hL
  cases ht : thereF l name with
  | true =>
    have hP := c_place_yes (clock := clock) hl hp ht
    have h0 := lo (by rw [ht]; simp)
    refine XPure.bodyN ⟨_, Tryz.func36, rfl, by kernel_rfl⟩ Tryz.func36 rfl (Nat.le_of_ble_eq_true (by rfl)) (pf_of1 rfl) fun env => ?_
    repeat' ((conv => whnf); (fail_if_success refine zC ?_); first | refine zS ?_ | refine zB (fun h hs => ?_) (fun h hs => ?_) <;> try exact hs.elim | refine .inl ⟨_, _, hP, ?_⟩ | refine .inl ⟨_, _, hL, ?_⟩ | exact zElw | refine zZlw ?_ | fail)
    · exfalso; omega
    · exfalso; omega
    · exfalso; omega
    · have e := eK h0 (by omega)
      exact leq_disk (by unfold writC; rw [e]; rfl) e.symm (by unfold writL; rw [e]; rfl)
    · have e := eC h0 (by omega)
      exact leq_disk2 (by unfold writC; rw [e, hw]; rfl) e.symm (by unfold writL; rw [e]; exact e0 h0)
  | false =>
    have hP := c_place_no (clock := clock) hl hp ht
    refine XPure.bodyN ⟨_, Tryz.func36, rfl, by kernel_rfl⟩ Tryz.func36 rfl (Nat.le_of_ble_eq_true (by rfl)) (pf_of1 rfl) fun env => ?_
    repeat' ((conv => whnf); (fail_if_success refine zC ?_); first | refine zSd ?_ | refine zB (fun h hs => ?_) (fun h hs => ?_) <;> try exact hs.elim | refine .inl ⟨_, _, hP, ?_⟩ | refine .inl ⟨_, _, hL, ?_⟩ | exact zElw | refine zZlw ?_ | fail)
    · have e := eF' ht (by omega)
      exact leq_disk (by unfold writC; rw [e]; rfl) e.symm (by unfold writL; rw [e]; rfl)
    · have e := eK (lo (by omega)) (by omega)
      exact leq_disk (by unfold writC; rw [e]; rfl) e.symm (by unfold writL; rw [e]; rfl)
    · have e := eC (lo (by omega)) (by omega)
      exact leq_disk2 (by unfold writC; rw [e, hw]; rfl) e.symm (by unfold writL; rw [e]; exact e0 (lo (by omega)))
theorem c_ref02_Write {clock : Int} {l : List File} {name text : ByteArray} (hz : SzF l) (hns : name.size ≤ 140737488355328) : XPure Tryz.prog 18 [eD clock l, str name, str text] (.tup [eD (wrC clock l name text) (wrL' clock l name text), i64 (wrE clock l name text)]) false := by
  refine XPure.bodyN ⟨_, Tryz.func18, rfl, by kernel_rfl⟩ Tryz.func18 rfl (Nat.le_of_ble_eq_true (by rfl)) (pf_of1 rfl) fun env => ?_
  repeat' ((conv => whnf); (fail_if_success refine zC ?_); first | refine zS ?_ | refine zB (fun h hs => ?_) (fun h hs => ?_) <;> try exact hs.elim | refine .inl ⟨_, _, c_ref02_fit hz hns, ?_⟩ | refine .inl ⟨_, _, c_ref02_written (okD_clock (asked0 (by assumption)).1) (okD_sorted (asked0 (by assumption)).1).1 (okD_sorted (asked0 (by assumption)).1).2, ?_⟩ | exact zElw | refine zZlw ?_ | fail)
  · have e : wrE clock l name text = bif okD clock l then errIf (isName name) 3 else 4 := by
      unfold wrE
      cases h1 : okD clock l <;> cases h2 : isName name <;> simp_all [errIf]
    have e0 : ¬ wrE clock l name text = 0 := by rw [e]; exact hs
    exact leq_disk (by unfold wrC; rw [if_neg e0]) e.symm (by unfold wrL'; rw [if_neg e0])
  · obtain ⟨q1, q2⟩ := asked0 (by assumption)
    have e : wrE clock l name text = 20 := by unfold wrE; rw [if_pos q1, if_pos q2, if_pos (by omega)]
    exact leq_disk (by unfold wrC; rw [e]; rfl) e.symm (by unfold wrL'; rw [e]; rfl)
  · obtain ⟨q1, q2⟩ := asked0 (by assumption)
    have e : wrE clock l name text = writE clock l ⟨name, text, clock + 1⟩ := by unfold wrE; rw [if_pos q1, if_pos q2, if_neg (by omega)]
    exact leq_disk2 (by unfold wrC writC; rw [e]) e.symm (by unfold wrL' writL; rw [e])
end Go.Proofs.YtepdiooaoegpfaaGreatDoor.Fx
end
section
/- The little program of the laws of commands that are done. Conditions: none. -/
namespace Go.Proofs.YtepdiooaoegpfaaGreatDoor.Fx
open Go Go.Proofs Go.Ev Go.RowKit
set_option maxRecDepth 100000
set_option maxHeartbeats 6400000
set_option linter.unusedSimpArgs false
set_option linter.unusedVariables false
abbrev aW : ByteArray := ⟨#[97]⟩
abbrev bW : ByteArray := ⟨#[98]⟩
abbrev tW : ByteArray := ⟨#[116]⟩
abbrev xW : ByteArray := ⟨#[120]⟩
abbrev line1 : ByteArray := ⟨#[99, 111, 112, 121, 32, 97, 32, 116]⟩
abbrev line2 : ByteArray := ⟨#[99, 111, 112, 121, 32, 98, 32, 116]⟩
abbrev fs0 : List File := [⟨aW, xW, 2⟩, ⟨bW, .empty, 1⟩]
abbrev n0 : Node := { target := tW, needs := [aW], recipe := [], has := false, source := .empty, stem := .empty, phony := false, precious := false, ignore := false, silent := false }
theorem v1 : wordsV line1 = [copyW, aW, tW] := by kernel_rfl
theorem v2 : wordsV line2 = [copyW, bW, tW] := by kernel_rfl
theorem e1 : wordsE line1 = 0 := by kernel_rfl
theorem e2 : wordsE line2 = 0 := by kernel_rfl
theorem na : isName aW = true := by kernel_rfl
theorem nb : isName bW = true := by kernel_rfl
theorem nt : isName tW = true := by kernel_rfl
theorem ok0 : okD 4 fs0 = true := by kernel_rfl
theorem alone0 : aloneOk n0 = true := by kernel_rfl
theorem do1 : doCopy n0 4 fs0 aW tW = ⟨5, [⟨aW, xW, 2⟩, ⟨bW, .empty, 1⟩, ⟨tW, xW, 5⟩], .empty, true, 0, 0⟩ := by kernel_rfl
theorem do2 : doCopy n0 4 fs0 bW tW = ⟨4, fs0, .empty, false, 3, 170⟩ := by kernel_rfl
theorem sz0 : SzN n0 := ⟨Nat.le_of_ble_eq_true rfl, ⟨Nat.le_of_ble_eq_true rfl, by intro x hx; rw [List.mem_singleton] at hx; subst hx; exact Nat.le_of_ble_eq_true rfl⟩, ⟨Nat.zero_le _, by intro x hx; cases hx⟩⟩
abbrev vN0 : AV := .agg [str tW, eS [aW], nilv, bln false, str .empty, str .empty, bln false, bln false, bln false, bln false]
theorem leqN0 {t : ByteArray} : LeqDL [vN0, str t, eD 4 fs0, i64 0] [eN n0, str t, eD 4 fs0, i64 0] := by
  refine LeqDL.cons (LeqD.agg ?_) (LeqDL.refl _)
  repeat' (first | exact LeqD.nil (by decide) | exact LeqD.refl _ | exact LeqDL.refl _ | refine LeqDL.cons ?_ ?_)
theorem c_Do1' : XPure Tryz.prog 9 [vN0, str line1, eD 4 fs0, i64 0] (.tup [eDone ⟨5, [⟨aW, xW, 2⟩, ⟨bW, .empty, 1⟩, ⟨tW, xW, 5⟩], .empty, true, 0, 0⟩, i64 0]) false := by
  have h := (c_Do_copy (t := line1) sz0 alone0 (Nat.le_of_ble_eq_true rfl) ok0 (Nat.le_of_ble_eq_true rfl) v1 e1 na nt).nils leqN0
  rwa [do1] at h
theorem c_Do2' : XPure Tryz.prog 9 [vN0, str line2, eD 4 fs0, i64 0] (.tup [eDone ⟨4, fs0, .empty, false, 3, 170⟩, i64 0]) false := by
  have h := (c_Do_copy (t := line2) sz0 alone0 (Nat.le_of_ble_eq_true rfl) ok0 (Nat.le_of_ble_eq_true rfl) v2 e2 nb nt).nils leqN0
  rwa [do2] at h
end Go.Proofs.YtepdiooaoegpfaaGreatDoor.Fx
end
section
/- The little program of the laws of commands that are done. Conditions: none. -/
namespace Go.Proofs.YtepdiooaoegpfaaGreatDoor.Fx
open Go Go.Proofs Go.Ev Go.RowKit
set_option maxRecDepth 100000
set_option maxHeartbeats 6400000
set_option linter.unusedSimpArgs false
set_option linter.unusedVariables false
theorem absF {b : Bool} (h1 : b = false) (h2 : b = true) : False := by rw [h2] at h1; cases h1
theorem xargs {P : Program} {f : FuncId} {args args' : List AV} {r : AV} {ow : Bool} (h : args = args') (hx : XPure P f args' r ow) : XPure P f args r ow := h ▸ hx
theorem c_small : XPure Tryz.prog 13 [] (bln true) false := by
  refine XPure.body ⟨_, Tryz.func13, rfl, by kernel_rfl⟩ Tryz.func13 rfl (Nat.le_of_ble_eq_true (by rfl)) (pf_of1 rfl) fun env => ?_
  repeat' ((conv => whnf); (fail_if_success refine zC ?_); first | refine zS ?_ | refine zB (fun h hs => ?_) (fun h hs => ?_) <;> try exact hs.elim | exact zEwf | refine zZwf ?_ | fail)
  refine .inl ⟨_, _, xargs (args' := [vN0, str line1, eD 4 fs0, i64 0]) (by kernel_rfl) c_Do1', ?_⟩
  iterate 10 any_goals try ((conv => whnf); (fail_if_success refine zC ?_); first | refine zS ?_ | refine zB (fun h hs => ?_) (fun h hs => ?_) <;> try exact hs.elim | exact zEwf | refine zZwf ?_ | fail)
  refine .inl ⟨_, _, xargs (args' := [vN0, str line2, eD 4 fs0, i64 0]) (by kernel_rfl) c_Do2', ?_⟩
  repeat' ((conv => whnf); (fail_if_success refine zC ?_); first | refine zSdi ?_ | refine zB (fun h hs => ?_) (fun h hs => ?_) <;> try exact hs.elim | exact zEwf | refine zZwf ?_ | fail)
  all_goals try exact (absF h (by kernel_rfl)).elim
  · conv => whnf
    refine .inl ⟨_, _, xargs (args' := [eD 4 fs0, eD 4 fs0]) (by kernel_rfl) (c_plain_Disk (l := fs0) (m := fs0) (Nat.le_of_ble_eq_true rfl) (Nat.le_of_ble_eq_true rfl)), ?_⟩
    repeat' ((conv => whnf); (fail_if_success refine zC ?_); first | refine zSdi ?_ | refine zB (fun h hs => ?_) (fun h hs => ?_) <;> try exact hs.elim | exact zEwf | refine zZwf ?_ | fail)
    all_goals kernel_rfl
end Go.Proofs.YtepdiooaoegpfaaGreatDoor.Fx
end
section
/- The law ExecMays as a function: always true. Conditions: the sizes that a row tells. -/
namespace Go.Proofs.YtepdiooaoegpfaaGreatDoor.Fx
open Go Go.Proofs Go.Ev Go.RowKit
set_option maxRecDepth 100000
set_option maxHeartbeats 6400000
set_option linter.unusedSimpArgs false
set_option linter.unusedVariables false
abbrev eCase (n : Node) (t : ByteArray) (c : Int) (l : List File) (k : Int) : AV := .agg [str n.target, eS n.needs, eS n.recipe, bln n.has, str n.source, str n.stem, bln n.phony, bln n.precious, bln n.ignore, bln n.silent, str t, i64 c, eFs l, i64 k]
end Go.Proofs.YtepdiooaoegpfaaGreatDoor.Fx
end
