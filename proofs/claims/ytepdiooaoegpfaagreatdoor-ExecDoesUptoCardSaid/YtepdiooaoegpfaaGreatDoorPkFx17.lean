/- Written by programs of this session: laws and contracts that the law's proof stands on, merged into one text. Conditions: none beyond those in each statement. -/
import Derived.Test.YtepdiooaoegpfaaGreatDoorPkFx15
import Derived.Test.YtepdiooaoegpfaaGreatDoorPkFx16
section
/- What a command leaves of a disk: plain facts. Conditions: those in each statement. -/
namespace Go.Proofs.YtepdiooaoegpfaaGreatDoor.Fx
open Go Go.Proofs Go.Ev Go.RowKit
set_option linter.unusedSimpArgs false
set_option linter.unusedVariables false
abbrev Sorted (l : List File) : Prop := l.Pairwise fun a b => ltS a.name b.name = true
theorem chk_of {clock : Int} : ∀ {l : List File} {p : Option ByteArray}, (∀ f ∈ l, fileOk clock f = true) → Sorted l → (∀ q, p = some q → ∀ f ∈ l, ltS q f.name = true) → chkF clock p l = true
  | [], _, _, _, _ => rfl
  | f :: r, p, h1, h2, h3 => by
    obtain ⟨h4, h5⟩ := List.pairwise_cons.1 h2
    have ih := chk_of (p := some f.name) (fun g hg => h1 g (List.mem_cons_of_mem _ hg)) h5 (fun q e g hg => by cases e; exact h4 g hg)
    unfold chkF
    rw [h1 f (List.mem_cons_self ..), ih]
    cases p with
    | none => rfl
    | some q => dsimp only; rw [h3 q rfl f (List.mem_cons_self ..)]; rfl
theorem okD_iff {clock : Int} {l : List File} : okD clock l = true ↔ 0 ≤ clock ∧ clock ≤ 1099511627776 ∧ l.length ≤ 256 ∧ (∀ f ∈ l, fileOk clock f = true) ∧ Sorted l := by
  constructor
  · intro h
    have h' := h
    simp only [okD, Bool.and_eq_true, decide_eq_true_eq] at h
    exact ⟨h.1.1.1, h.1.1.2, h.1.2, chk_all l none h.2, (sorted_of h.2).2⟩
  · rintro ⟨h1, h2, h3, h4, h5⟩
    simp only [okD, Bool.and_eq_true, decide_eq_true_eq]
    exact ⟨⟨⟨h1, h2⟩, h3⟩, chk_of h4 h5 fun _ e => by cases e⟩
/-- A row of files, parted at a name. -/
theorem parts {s : ByteArray} : ∀ {l : List File}, Sorted l → ∃ A B : List File, (∀ a ∈ A, ltS a.name s = true) ∧ (∀ b ∈ B, ltS s b.name = true) ∧ posF l s = A.length ∧
    ((thereF l s = true ∧ ∃ g, g.name = s ∧ l = A ++ g :: B) ∨ (thereF l s = false ∧ l = A ++ B))
  | [], _ => ⟨[], [], (by simp), (by simp), rfl, .inr ⟨rfl, rfl⟩⟩
  | x :: r, h => by
    obtain ⟨h1, h2⟩ := List.pairwise_cons.1 h
    cases hx : ltS x.name s with
    | true =>
      have hp : posF (x :: r) s = posF r s + 1 := by simp only [posF, hx, if_true]
      have ht : thereF (x :: r) s = thereF r s := by unfold thereF; rw [hp, List.getElem?_cons_succ]
      obtain ⟨A, B, q1, q2, q3, q4⟩ := parts (s := s) h2
      refine ⟨x :: A, B, fun a ha => by rcases List.mem_cons.1 ha with rfl | ha; exact hx; exact q1 a ha, q2, by rw [hp, q3]; rfl, ?_⟩
      rw [ht]
      rcases q4 with ⟨e, g, hg, rfl⟩ | ⟨e, rfl⟩
      · exact .inl ⟨e, g, hg, rfl⟩
      · exact .inr ⟨e, rfl⟩
    | false =>
      have hp : posF (x :: r) s = 0 := by simp only [posF, hx, Bool.false_eq_true, if_false]
      have ht : thereF (x :: r) s = beqS x.name s := by unfold thereF; rw [hp]; rfl
      cases hb : beqS x.name s with
      | true =>
        have e := beqS_iff.1 hb
        exact ⟨[], r, (by simp), fun b hb => by rw [← e]; exact h1 b hb, hp, .inl ⟨ht.trans hb, x, e, rfl⟩⟩
      | false =>
        have hl : ltS s x.name = true := by
          cases hq : ltS s x.name with
          | true => rfl
          | false => exact absurd (ltS_total hx hq) (beqS_no.1 hb)
        refine ⟨[], x :: r, (by simp), fun b hb => ?_, hp, .inr ⟨ht.trans hb, rfl⟩⟩
        rcases List.mem_cons.1 hb with rfl | hb
        · exact hl
        · exact ltS_trans hl (h1 b hb)
theorem findF_app (A B : List File) (q : ByteArray) : findF (A ++ B) q = (findF A q).or (findF B q) := by
  induction A with
  | nil => rfl
  | cons a A ih =>
    simp only [List.cons_append, findF]
    split
    · rfl
    · exact ih
theorem findF_none {l : List File} {q : ByteArray} (h : ∀ f ∈ l, f.name ≠ q) : findF l q = none := by
  induction l with
  | nil => rfl
  | cons a l ih =>
    simp only [findF]
    rw [if_neg (by rw [beqS_iff]; exact h a (List.mem_cons_self ..))]
    exact ih fun f hf => h f (List.mem_cons_of_mem _ hf)
theorem lt_ne {a b : ByteArray} (h : ltS a b = true) : a ≠ b := by rintro rfl; rw [ltS_irrefl] at h; cases h
/-- A row with a file in the place of a name. -/
theorem laid_facts {l : List File} {f : File} (hs : Sorted l) (he : laidE l f = 0) : Sorted (laidL l f) ∧ (∀ g ∈ laidL l f, g = f ∨ g ∈ l) ∧ findF (laidL l f) f.name = some f ∧ (∀ q, q ≠ f.name → findF (laidL l f) q = findF l q) := by
  obtain ⟨A, B, hA, hB, hp, h⟩ := parts (s := f.name) hs
  have hL : laidL l f = A ++ f :: B := by
    rcases h with ⟨ht, g, hg, rfl⟩ | ⟨ht, rfl⟩
    · have := (laidE_yes (l := A ++ g :: B) (f := f) ht).2
      rw [this, hp, List.set_append_right _ _ (Nat.le_refl _), Nat.sub_self]; rfl
    · have hn : ¬ (A ++ B).length = 256 := fun e => by have := (laidE_full (l := A ++ B) (f := f) ht e).1; rw [this] at he; cases he
      have := (laidE_no (l := A ++ B) (f := f) ht hn).2
      rw [this, hp, List.take_left, List.drop_left]
  have hAB : ∀ a ∈ A, ∀ b ∈ B, ltS a.name b.name = true := fun a ha b hb => ltS_trans (hA a ha) (hB b hb)
  have hsA : Sorted A := by
    rcases h with ⟨ht, g, hg, rfl⟩ | ⟨ht, rfl⟩ <;> exact (List.pairwise_append.1 hs).1
  have hsB : Sorted B := by
    rcases h with ⟨ht, g, hg, rfl⟩ | ⟨ht, rfl⟩
    · exact (List.pairwise_cons.1 (List.pairwise_append.1 hs).2.1).2
    · exact (List.pairwise_append.1 hs).2.1
  rw [hL]
  refine ⟨List.pairwise_append.2 ⟨hsA, List.pairwise_cons.2 ⟨hB, hsB⟩, fun a ha b hb => ?_⟩, fun g hg => ?_, ?_, fun q hq => ?_⟩
  · rcases List.mem_cons.1 hb with rfl | hb
    · exact hA a ha
    · exact hAB a ha b hb
  · rcases List.mem_append.1 hg with hg | hg
    · right; rcases h with ⟨_, _, _, rfl⟩ | ⟨_, rfl⟩ <;> simp [hg]
    · rcases List.mem_cons.1 hg with rfl | hg
      · exact .inl rfl
      · right; rcases h with ⟨_, _, _, rfl⟩ | ⟨_, rfl⟩ <;> simp [hg]
  · rw [findF_app, findF_none fun a ha => lt_ne (hA a ha)]
    simp only [Option.none_or, findF, beqS_self, if_true]
  · have e1 : findF (f :: B) q = findF B q := by simp only [findF]; rw [if_neg (by rw [beqS_iff]; exact fun e => hq e.symm)]
    rcases h with ⟨_, g, hg, rfl⟩ | ⟨_, rfl⟩
    · have e2 : findF (g :: B) q = findF B q := by simp only [findF]; rw [if_neg (by rw [beqS_iff, hg]; exact fun e => hq e.symm)]
      rw [findF_app, findF_app, e1, e2]
    · rw [findF_app, findF_app, e1]
theorem laid_len {l : List File} {f : File} (hl : l.length ≤ 256) : (laidL l f).length ≤ 256 := by
  cases ht : thereF l f.name with
  | true => rw [(laidE_yes ht).2, List.length_set]; exact hl
  | false =>
    by_cases hn : l.length = 256
    · rw [(laidE_full ht hn).2]; simp
    · rw [(laidE_no ht hn).2]; simp only [List.length_append, List.length_cons, List.length_take, List.length_drop]; have := @posF_le l f.name; omega
/-- A row of which a file is taken out. -/
theorem cut_facts {l : List File} {s : ByteArray} (hs : Sorted l) (ht : thereF l s = true) : Sorted (cutL l s) ∧ (∀ g ∈ cutL l s, g ∈ l) ∧ (cutL l s).length ≤ l.length ∧ findF (cutL l s) s = none ∧ (∀ q, q ≠ s → findF (cutL l s) q = findF l q) := by
  obtain ⟨A, B, hA, hB, hp, h⟩ := parts (s := s) hs
  rcases h with ⟨_, g, hg, rfl⟩ | ⟨h, _⟩
  · have hL : cutL (A ++ g :: B) s = A ++ B := by
      unfold cutL
      rw [hp, List.take_left, List.drop_append, List.drop_of_length_le (by omega), show A.length + 1 - A.length = 1 from by omega]; rfl
    have hsp := List.pairwise_append.1 hs
    rw [hL]
    refine ⟨List.pairwise_append.2 ⟨hsp.1, (List.pairwise_cons.1 hsp.2.1).2, fun a ha b hb => ltS_trans (hA a ha) (hB b hb)⟩, fun x hx => ?_, by simp, ?_, fun q hq => ?_⟩
    · rcases List.mem_append.1 hx with hx | hx <;> simp [hx]
    · refine findF_none fun x hx => ?_
      rcases List.mem_append.1 hx with hx | hx
      · exact lt_ne (hA x hx)
      · exact (lt_ne (hB x hx)).symm
    · have e2 : findF (g :: B) q = findF B q := by simp only [findF]; rw [if_neg (by rw [beqS_iff, hg]; exact fun e => hq e.symm)]
      rw [findF_app, findF_app, e2]
  · rw [ht] at h; cases h
/-- What a disk is behind a command that went well: right, and of other names as it was. -/
structure Behind (clock : Int) (l : List File) (s : ByteArray) (c' : Int) (l' : List File) : Prop where
  ok : okD c' l' = true
  self : (findF l' s = none ∧ c' = clock) ∨ ∃ f, findF l' s = some f ∧ f.stamp = c' ∧ c' = clock + 1
  others : ∀ q, q ≠ s → findF l' q = findF l q
theorem fileOk_up {clock : Int} {f : File} (h : fileOk clock f = true) : fileOk (clock + 1) f = true := by
  rw [fileOk_iff] at h ⊢; exact ⟨h.1, h.2.1, h.2.2.1, by omega⟩
theorem writ_behind {clock : Int} {l : List File} {s t : ByteArray} (hd : okD clock l = true) (hs : isName s = true) (ht : t.size ≤ 4096) (he : writE clock l ⟨s, t, clock + 1⟩ = 0) : Behind clock l s (clock + 1) (laidL l ⟨s, t, clock + 1⟩) := by
  obtain ⟨h1, h2, h3, h4, h5⟩ := okD_iff.1 hd
  have hL : laidE l ⟨s, t, clock + 1⟩ = 0 ∧ ¬ clock = 1099511627776 := by
    unfold writE at he
    split at he
    · split at he
      · cases he
      · exact ⟨‹_›, ‹_›⟩
    · exact absurd he ‹_›
  obtain ⟨q1, q2, q3, q4⟩ := laid_facts h5 hL.1
  refine ⟨okD_iff.2 ⟨by omega, by omega, laid_len h3, fun f hf => ?_, q1⟩, .inr ⟨_, q3, rfl, rfl⟩, q4⟩
  rcases q2 f hf with rfl | hf
  · exact fileOk_iff.2 ⟨hs, ht, by show (0 : Int) ≤ clock + 1; omega, Int.le_refl _⟩
  · exact fileOk_up (h4 f hf)
theorem wr_behind {clock : Int} {l : List File} {s t : ByteArray} (he : wrE clock l s t = 0) : Behind clock l s (wrC clock l s t) (wrL' clock l s t) := by
  have hC : wrC clock l s t = clock + 1 := by unfold wrC; rw [if_pos he]
  have hL : wrL' clock l s t = laidL l ⟨s, t, clock + 1⟩ := by unfold wrL'; rw [if_pos he]
  rw [hC, hL]
  unfold wrE at he
  split at he
  · split at he
    · split at he
      · cases he
      · exact writ_behind ‹_› ‹_› (by omega) he
    · cases he
  · cases he
theorem textF_le {clock : Int} {l : List File} {s : ByteArray} (hd : okD clock l = true) : (textF l s).size ≤ 4096 := by
  unfold textF
  split
  · rename_i h
    have hlt := posF_lt h
    rw [List.getD_eq_getElem?_getD, List.getElem?_eq_getElem hlt]
    exact (fileOk_iff.1 ((okD_iff.1 hd).2.2.2.1 _ (List.getElem_mem hlt))).2.1
  · exact Nat.zero_le _
theorem tc_behind {clock : Int} {l : List File} {s : ByteArray} (he : tcE clock l s = 0) : Behind clock l s (tcC clock l s) (tcL clock l s) := by
  have hC : tcC clock l s = clock + 1 := by unfold tcC; rw [if_pos he]
  have hL : tcL clock l s = laidL l ⟨s, textF l s, clock + 1⟩ := by unfold tcL; rw [if_pos he]
  rw [hC, hL]
  unfold tcE at he
  split at he
  · split at he
    · exact writ_behind ‹_› ‹_› (textF_le ‹_›) he
    · cases he
  · cases he
theorem rm_behind {clock : Int} {l : List File} {s : ByteArray} (he : rmE clock l s = 0) : Behind clock l s (rmC clock l s) (rmL clock l s) := by
  have hC : rmC clock l s = clock := by unfold rmC; rw [if_pos he]
  have hL : rmL clock l s = cutL l s := by unfold rmL; rw [if_pos he]
  rw [hC, hL]
  unfold rmE at he
  split at he
  · split at he
    · split at he
      · rename_i hd _ ht
        obtain ⟨h1, h2, h3, h4, h5⟩ := okD_iff.1 hd
        obtain ⟨q1, q2, q3, q4, q5⟩ := cut_facts h5 ht
        exact ⟨okD_iff.2 ⟨h1, h2, by omega, fun f hf => h4 f (q2 f hf), q1⟩, .inl ⟨q4, rfl⟩, q5⟩
      · cases he
    · cases he
  · cases he
/-- What is done well: the disk behind it. -/
theorem done_behind {c : Cm} {clock : Int} {l : List File} (hk : Kind c) (he : (doneOf c clock l).e = 0) :
    (wrOf c = true → Behind clock l c.dst (doneOf c clock l).clock (doneOf c clock l).files) ∧ (wrOf c = false → (doneOf c clock l).clock = clock ∧ (doneOf c clock l).files = l) := by
  have rd : ∀ {d : ByteArray} {src : List ByteArray}, (if readE clock l src = 0 then (⟨wrC clock l d (readT clock l src), wrL' clock l d (readT clock l src), .empty, 0, wrE clock l d (readT clock l src)⟩ : DR) else ⟨clock, l, .empty, 0, readE clock l src⟩).e = 0 →
      Behind clock l d (if readE clock l src = 0 then (⟨wrC clock l d (readT clock l src), wrL' clock l d (readT clock l src), .empty, 0, wrE clock l d (readT clock l src)⟩ : DR) else ⟨clock, l, .empty, 0, readE clock l src⟩).clock (if readE clock l src = 0 then (⟨wrC clock l d (readT clock l src), wrL' clock l d (readT clock l src), .empty, 0, wrE clock l d (readT clock l src)⟩ : DR) else ⟨clock, l, .empty, 0, readE clock l src⟩).files := by
    intro d src h
    split
    · rename_i hr; rw [if_pos hr] at h; exact wr_behind h
    · rename_i hr; rw [if_neg hr] at h; exact absurd h hr
  cases hk with
  | copy ha hb => exact ⟨fun _ => rd he, fun h => by cases h⟩
  | concat hd h1 h2 hl => exact ⟨fun _ => rd he, fun h => by cases h⟩
  | echo hd hw => exact ⟨fun _ => wr_behind he, fun h => by cases h⟩
  | touch hd => exact ⟨fun _ => tc_behind he, fun h => by cases h⟩
  | remove hd => exact ⟨fun _ => rm_behind he, fun h => by cases h⟩
  | @test s hs =>
    refine ⟨fun h => (by cases h), fun _ => ?_⟩
    by_cases hf : findE clock l s = 0
    · have e : doneOf ⟨6, ⟨#[]⟩, [s], [], 0⟩ clock l = ⟨clock, l, .empty, 0, 0⟩ := show (if findE clock l s = 0 then _ else _) = _ from if_pos hf
      rw [e]; exact ⟨rfl, rfl⟩
    · have e : doneOf ⟨6, ⟨#[]⟩, [s], [], 0⟩ clock l = ⟨clock, l, .empty, 1, 171⟩ := show (if findE clock l s = 0 then _ else _) = _ from if_neg hf
      rw [e]; exact ⟨rfl, rfl⟩
  | fail h1 h2 => exact ⟨fun h => (by cases h), fun _ => ⟨rfl, rfl⟩⟩
  | say hw => exact ⟨fun h => (by cases h), fun _ => ⟨rfl, rfl⟩⟩
theorem status_ne {e : Int} (h : e ≠ 0) : statusOf e ≠ 0 := by
  unfold statusOf; rw [if_neg h]
  repeat' (first | (split) | decide)
/-- A command keeps all but the target. -/
structure Keeps (n : Node) (clock : Int) (l : List File) (x : Done) : Prop where
  ok : okD x.clock x.files = true
  kept : (x.code ≠ 0 ∨ x.wrote = false) → x.clock = clock ∧ x.files = l ∧ (x.code ≠ 0 → x.said = .empty ∧ x.status ≠ 0) ∧ (x.code = 0 → x.status = 0)
  wrote : x.code = 0 → x.wrote = true → Behind clock l n.target x.clock x.files
theorem fail_keeps {n : Node} {clock e st : Int} {l : List File} (hd : okD clock l = true) (he : e ≠ 0) : Keeps n clock l (failD clock l e st) := by
  refine ⟨hd, fun _ => ⟨rfl, rfl, fun _ => ⟨rfl, ?_⟩, fun h => absurd h he⟩, fun h => absurd h he⟩
  show (if st = 0 then statusOf e else st) ≠ 0
  split
  · exact status_ne he
  · assumption
theorem do_keeps {n : Node} {t : ByteArray} {clock fail : Int} {l : List File} (hd : okD clock l = true) : Keeps n clock l (doIt n t clock l fail) := by
  unfold doIt
  split
  · exact fail_keeps hd (by decide)
  split
  · rename_i hm
    have hL : lineE t = 0 := by
      unfold mayX mayOf at hm
      by_cases he : lineE t = 0
      · exact he
      · rw [if_neg he] at hm; exact absurd hm he
    have hk := line_kind hL
    have hdst : wrOf (lineC t) = true → (lineC t).dst = n.target := by
      unfold mayX mayOf at hm
      rw [if_pos hL] at hm
      split at hm
      · rename_i q; exact q.2
      · cases hm
    unfold doneD
    split
    · rename_i he
      obtain ⟨b1, b2⟩ := done_behind hk he
      cases hw : wrOf (lineC t) with
      | true =>
        have B := b1 hw
        rw [hdst hw] at B
        exact ⟨B.ok, fun h => (by rcases h with h | h; exact absurd rfl h; cases h), fun _ _ => B⟩
      | false =>
        obtain ⟨e1, e2⟩ := b2 hw
        refine ⟨?_, fun _ => ⟨e1, e2, fun h => absurd rfl h, fun _ => rfl⟩, fun _ h => (by cases h)⟩
        show okD (doneOf (lineC t) clock l).clock (doneOf (lineC t) clock l).files = true
        rw [e1, e2]; exact hd
    · rename_i he
      exact fail_keeps hd he
  · rename_i hm
    exact fail_keeps hd hm
end Go.Proofs.YtepdiooaoegpfaaGreatDoor.Fx
end
section
/- Disks as the document's answer writes, touches and clears them: the same as the program's. Conditions: those in each statement. -/
namespace Go.Proofs.YtepdiooaoegpfaaGreatDoor.Fx
open Go Go.Proofs Go.Ev Go.RowKit
set_option maxRecDepth 100000
set_option maxHeartbeats 3200000
set_option linter.unusedSimpArgs false
set_option linter.unusedVariables false
theorem placeN_app {s : ByteArray} : ∀ (A B : List File) (i : Nat), (∀ a ∈ A, a.name ≠ s) → placeN (A ++ B) s i = placeN B s (i + A.length)
  | [], B, i, _ => rfl
  | a :: A, B, i, h => by
    show (if beqS a.name s then (i : Int) else placeN (A ++ B) s (i + 1)) = _
    rw [if_neg (by rw [beqS_iff]; exact h a (List.mem_cons_self ..)), placeN_app A B (i + 1) fun x hx => h x (List.mem_cons_of_mem _ hx)]
    congr 1; simp; omega
theorem placeN_not {s : ByteArray} {l : List File} (h : ∀ a ∈ l, a.name ≠ s) : placeN l s 0 = -1 := by
  have := placeN_app l [] 0 h
  rwa [List.append_nil] at this
theorem place_yes {l : List File} {s : ByteArray} (hs : Sorted l) (h : thereF l s = true) : placeN l s 0 = (posF l s : Nat) := by
  obtain ⟨A, B, hA, hB, hp, ⟨_, g, hg, rfl⟩ | ⟨h', _⟩⟩ := parts (s := s) hs
  · rw [placeN_app A _ 0 fun a ha => lt_ne (hA a ha), hp]
    show (if beqS g.name s then ((0 + A.length : Nat) : Int) else _) = _
    rw [if_pos (beqS_iff.2 hg), Nat.zero_add]
  · rw [h] at h'; cases h'
theorem place_no {l : List File} {s : ByteArray} (hs : Sorted l) (h : thereF l s = false) : placeN l s 0 = -1 := by
  obtain ⟨A, B, hA, hB, hp, ⟨h', _⟩ | ⟨_, rfl⟩⟩ := parts (s := s) hs
  · rw [h] at h'; cases h'
  · refine placeN_not fun a ha => ?_
    rcases List.mem_append.1 ha with ha | ha
    · exact lt_ne (hA a ha)
    · exact (lt_ne (hB a ha)).symm
theorem c_place_yes {clock : Int} {l : List File} {s : ByteArray} (hl : l.length ≤ 256) (hs : Sorted l) (h : thereF l s = true) : XPure Tryz.prog 60 [eD clock l, str s] (i64 ((posF l s : Nat) : Int)) false := by
  rw [← place_yes hs h]; exact c_ref02_place (by omega)
theorem c_place_no {clock : Int} {l : List File} {s : ByteArray} (hl : l.length ≤ 256) (hs : Sorted l) (h : thereF l s = false) : XPure Tryz.prog 60 [eD clock l, str s] (i64 (-1)) false := by
  rw [← place_no hs h]; exact c_ref02_place (by omega)
theorem laidGo_low {f : File} : ∀ (A r : List File), (∀ a ∈ A, ltS a.name f.name = true) → laidGo f false (A ++ r) = A ++ laidGo f false r
  | [], r, _ => rfl
  | a :: A, r, h => by
    have ha := h a (List.mem_cons_self ..)
    have hb : beqS a.name f.name = false := beqS_no.2 (lt_ne ha)
    show (bif !false && !ltS a.name f.name then _ else bif beqS a.name f.name then laidGo f false (A ++ r) else a :: laidGo f false (A ++ r)) = _
    rw [ha, hb, laidGo_low A r fun x hx => h x (List.mem_cons_of_mem _ hx)]; rfl
theorem laidGo_high {f : File} : ∀ (B : List File), (∀ b ∈ B, ltS f.name b.name = true) → laidGo f true B = B
  | [], _ => rfl
  | b :: B, h => by
    have hb : beqS b.name f.name = false := beqS_no.2 (lt_ne (h b (List.mem_cons_self ..))).symm
    show (bif !true && !ltS b.name f.name then _ else bif beqS b.name f.name then laidGo f true B else b :: laidGo f true B) = _
    rw [hb, laidGo_high B fun x hx => h x (List.mem_cons_of_mem _ hx)]; rfl
theorem laidGo_at {f : File} {B : List File} (h : ∀ b ∈ B, ltS f.name b.name = true) : laidGo f false B = f :: B := by
  cases B with
  | nil => rfl
  | cons b B =>
    have h1 := h b (List.mem_cons_self ..)
    have hb : beqS b.name f.name = false := beqS_no.2 (lt_ne h1).symm
    have hl : ltS b.name f.name = false := by
      cases hq : ltS b.name f.name with
      | false => rfl
      | true => exact absurd (ltS_trans h1 hq) (by rw [ltS_irrefl]; simp)
    show (bif !false && !ltS b.name f.name then f :: (bif beqS b.name f.name then laidGo f true B else b :: laidGo f true B) else _) = _
    rw [hl, hb, laidGo_high B fun x hx => h x (List.mem_cons_of_mem _ hx)]; rfl
theorem laidGo_eq {l : List File} {f : File} (hs : Sorted l) (he : laidE l f = 0) : laidGo f false l = laidL l f := by
  obtain ⟨A, B, hA, hB, hp, h⟩ := parts (s := f.name) hs
  rcases h with ⟨ht, g, hg, rfl⟩ | ⟨ht, rfl⟩
  · rw [(laidE_yes (l := A ++ g :: B) (f := f) ht).2, hp, List.set_append_right _ _ (Nat.le_refl _), Nat.sub_self, laidGo_low A _ hA]
    have hb : beqS g.name f.name = true := beqS_iff.2 hg
    have hl : ltS g.name f.name = false := by rw [hg]; exact ltS_irrefl _
    show A ++ (bif !false && !ltS g.name f.name then f :: (bif beqS g.name f.name then laidGo f true B else g :: laidGo f true B) else _) = _
    rw [hl, hb]
    show A ++ f :: laidGo f true B = _
    rw [laidGo_high B hB]; rfl
  · have hn : ¬ (A ++ B).length = 256 := fun e => by have := (laidE_full (l := A ++ B) (f := f) ht e).1; rw [this] at he; cases he
    rw [(laidE_no (l := A ++ B) (f := f) ht hn).2, hp, List.take_left, List.drop_left, laidGo_low A _ hA, laidGo_at hB]
theorem c_ref02_written {clock : Int} {l : List File} {name text : ByteArray} (hc : 0 ≤ clock ∧ clock ≤ 1099511627776) (hl : l.length ≤ 256) (hp : Sorted l) :
    XPure Tryz.prog 36 [eD clock l, str name, str text] (.tup [eD (writC clock l ⟨name, text, clock + 1⟩) (writL clock l ⟨name, text, clock + 1⟩), i64 (writE clock l ⟨name, text, clock + 1⟩)]) false := by
  have hw : IntKind.i64.wrap (clock + 1) = clock + 1 := wrapId (by omega) (by omega)
  have hL := c_ref02_laid (clock := clock) (l := l) (f := ⟨name, text, clock + 1⟩) (by omega)
  have e0 (h : laidE l ⟨name, text, clock + 1⟩ = 0) : laidGo ⟨name, text, clock + 1⟩ false l = laidL l ⟨name, text, clock + 1⟩ := laidGo_eq hp h
  have eC (h : laidE l ⟨name, text, clock + 1⟩ = 0) (h2 : ¬ clock = 1099511627776) : writE clock l ⟨name, text, clock + 1⟩ = 0 := by unfold writE; rw [if_pos h, if_neg h2]
  have eK (h : laidE l ⟨name, text, clock + 1⟩ = 0) (h2 : clock = 1099511627776) : writE clock l ⟨name, text, clock + 1⟩ = 23 := by unfold writE; rw [if_pos h, if_pos h2]
  have eF' (h : thereF l name = false) (h2 : l.length = 256) : writE clock l ⟨name, text, clock + 1⟩ = 22 := by unfold writE; rw [(laidE_full (f := ⟨name, text, clock + 1⟩) h h2).1]; rfl
  have lo (h : ¬ (thereF l name = false ∧ l.length = 256)) : laidE l ⟨name, text, clock + 1⟩ = 0 := by
    cases ht : thereF l name with
    | true => exact (laidE_yes (f := ⟨name, text, clock + 1⟩) ht).1
    | false => exact (laidE_no (f := ⟨name, text, clock + 1⟩) ht (fun e => h ⟨ht, e⟩)).1
  generalize hR : laidGo ⟨name, text, clock + 1⟩ false l = R at hL e0
  rw [← hw] at hL
  cases ht : thereF l name with
  | true =>
    have hP := c_place_yes (clock := clock) hl hp ht
    have h0 := lo (by rw [ht]; simp)
    refine XPure.bodyN ⟨_, Tryz.func36, rfl, by kernel_rfl⟩ Tryz.func36 rfl (Nat.le_of_ble_eq_true (by rfl)) (pf_of1 rfl) fun env => ?_
    repeat' ((conv => whnf); (fail_if_success refine zC ?_); first | refine zS ?_ | refine zB (fun h hs => ?_) (fun h hs => ?_) <;> try exact hs.elim | refine .inl ⟨_, _, hP, ?_⟩ | refine .inl ⟨_, _, hL, ?_⟩ | exact zElw | refine zZlw ?_ | fail)
    · exfalso; omega
    · exfalso; omega
    · exfalso; omega
    · have e := eK h0 (by omega)
      exact leq_disk (by unfold writC; rw [e]; rfl) e.symm (by unfold writL; rw [e]; rfl)
    · have e := eC h0 (by omega)
      exact leq_disk2 (by unfold writC; rw [e, hw]; rfl) e.symm (by unfold writL; rw [e]; exact e0 h0)
  | false =>
    have hP := c_place_no (clock := clock) hl hp ht
    refine XPure.bodyN ⟨_, Tryz.func36, rfl, by kernel_rfl⟩ Tryz.func36 rfl (Nat.le_of_ble_eq_true (by rfl)) (pf_of1 rfl) fun env => ?_
    repeat' ((conv => whnf); (fail_if_success refine zC ?_); first | refine zSd ?_ | refine zB (fun h hs => ?_) (fun h hs => ?_) <;> try exact hs.elim | refine .inl ⟨_, _, hP, ?_⟩ | refine .inl ⟨_, _, hL, ?_⟩ | exact zElw | refine zZlw ?_ | fail)
    · have e := eF' ht (by omega)
      exact leq_disk (by unfold writC; rw [e]; rfl) e.symm (by unfold writL; rw [e]; rfl)
    · have e := eK (lo (by omega)) (by omega)
      exact leq_disk (by unfold writC; rw [e]; rfl) e.symm (by unfold writL; rw [e]; rfl)
    · have e := eC (lo (by omega)) (by omega)
      exact leq_disk2 (by unfold writC; rw [e, hw]; rfl) e.symm (by unfold writL; rw [e]; exact e0 (lo (by omega)))
theorem c_ref02_Write {clock : Int} {l : List File} {name text : ByteArray} (hz : SzF l) (hns : name.size ≤ 140737488355328) : XPure Tryz.prog 18 [eD clock l, str name, str text] (.tup [eD (wrC clock l name text) (wrL' clock l name text), i64 (wrE clock l name text)]) false := by
  refine XPure.bodyN ⟨_, Tryz.func18, rfl, by kernel_rfl⟩ Tryz.func18 rfl (Nat.le_of_ble_eq_true (by rfl)) (pf_of1 rfl) fun env => ?_
  repeat' ((conv => whnf); (fail_if_success refine zC ?_); first | refine zS ?_ | refine zB (fun h hs => ?_) (fun h hs => ?_) <;> try exact hs.elim | refine .inl ⟨_, _, c_ref02_fit hz hns, ?_⟩ | refine .inl ⟨_, _, c_ref02_written (okD_clock (asked0 (by assumption)).1) (okD_sorted (asked0 (by assumption)).1).1 (okD_sorted (asked0 (by assumption)).1).2, ?_⟩ | exact zElw | refine zZlw ?_ | fail)
  · have e : wrE clock l name text = bif okD clock l then errIf (isName name) 3 else 4 := by
      unfold wrE
      cases h1 : okD clock l <;> cases h2 : isName name <;> simp_all [errIf]
    have e0 : ¬ wrE clock l name text = 0 := by rw [e]; exact hs
    exact leq_disk (by unfold wrC; rw [if_neg e0]) e.symm (by unfold wrL'; rw [if_neg e0])
  · obtain ⟨q1, q2⟩ := asked0 (by assumption)
    have e : wrE clock l name text = 20 := by unfold wrE; rw [if_pos q1, if_pos q2, if_pos (by omega)]
    exact leq_disk (by unfold wrC; rw [e]; rfl) e.symm (by unfold wrL'; rw [e]; rfl)
  · obtain ⟨q1, q2⟩ := asked0 (by assumption)
    have e : wrE clock l name text = writE clock l ⟨name, text, clock + 1⟩ := by unfold wrE; rw [if_pos q1, if_pos q2, if_neg (by omega)]
    exact leq_disk2 (by unfold wrC writC; rw [e]) e.symm (by unfold wrL' writL; rw [e])
end Go.Proofs.YtepdiooaoegpfaaGreatDoor.Fx
end
