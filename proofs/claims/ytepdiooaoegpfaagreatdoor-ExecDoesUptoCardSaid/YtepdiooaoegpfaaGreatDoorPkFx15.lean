/- Written by programs of this session: laws and contracts that the law's proof stands on, merged into one text. Conditions: none beyond those in each statement. -/
import Derived.Test.YtepdiooaoegpfaaGreatDoorPkFx14
import Derived.Test.YtepdiooaoegpfaaGreatDoorPkFx7
import Derived.Test.YtepdiooaoegpfaaGreatDoorPkEv21
section
/- A copying command is done. Conditions: those in each statement. -/
namespace Go.Proofs.YtepdiooaoegpfaaGreatDoor.Fx
open Go Go.Proofs Go.Ev Go.RowKit
set_option maxRecDepth 100000
set_option maxHeartbeats 6400000
set_option linter.unusedSimpArgs false
set_option linter.unusedVariables false
attribute [local irreducible] mayE
theorem doneEq {x y : Done} (h : x = y) : AV.tup [eDone x, i64 0] = AV.tup [eDone y, i64 0] := by rw [h]
theorem callG_args {P : Program} {c : Cfg} {args args' : List AV} {f : FuncId} {dst : Option Tmp} {K : Cfg → Prop} (h : args = args') (hg : callG P c args' f dst K) : callG P c args f dst K := h ▸ hg
theorem callG_do1 {c : Cfg} {dst : Option Tmp} {K : Cfg → Prop} {clock e st : Int} {l : List File} (hbox : c.own[1]? = some (.cells [i64 clock, eFs l] []))
    (h : K (c.after dst (.tup [eDone ⟨clock, l, .empty, false, if st = 0 then statusOf e else st, e⟩, i64 0]) false)) : callG Tryz.prog c [i64 e, i64 st, .bp 1 0] 28 dst K :=
  callG_same ⟨_, Tryz.func28, rfl, by kernel_rfl⟩ rfl (c_Do1 (q := c.base + 1) (clock := clock) (l := l) (boxUp rfl hbox)) h
theorem c_Do_copy {n : Node} {t a b : ByteArray} {clock : Int} {l : List File} (hz : SzN n) (hn : aloneOk n = true) (ht : t.size ≤ 65536) (hd : okD clock l = true) (hl : l.length ≤ 256) (hV : wordsV t = [copyW, a, b]) (hE : wordsE t = 0) (ha : isName a = true) (hb : isName b = true) :
    XPure Tryz.prog 9 [eN n, str t, eD clock l, i64 0] (.tup [eDone (doCopy n clock l a b), i64 0]) false := by
  have hA : XPure Tryz.prog 25 [eN n] (i64 0) false := by
    have h := c_alone hz
    rwa [hn, show errIf true 7 = 0 from rfl] at h
  have hD : XPure Tryz.prog 26 [eD clock l] (i64 0) false := by
    have h := c_disk_Check (clock := clock) (l := l)
    rwa [hd, show errIf true 4 = 0 from rfl] at h
  refine XPure.body ⟨_, Tryz.func9, rfl, by kernel_rfl⟩ Tryz.func9 rfl (Nat.le_of_ble_eq_true (by rfl)) (pf_of1 rfl) fun env => ?_
  iterate 16 any_goals try ((conv => whnf); (fail_if_success refine zC ?_); first | refine zSd ?_ | refine zB (fun h hs => ?_) (fun h hs => ?_) <;> try exact hs.elim | refine .inl ⟨_, _, hA, ?_⟩ | refine .inl ⟨_, _, hD, ?_⟩ | refine .inl ⟨_, _, c_CloneF (by omega), ?_⟩ | refine .inl ⟨_, _, c_may_copy hz.needs.1 hV hE ha hb, ?_⟩ | exact zEw | refine zZw ?_ | fail)
  · omega
  · repeat' ((conv => whnf); (fail_if_success refine zC ?_); first | refine zSd ?_ | refine zB (fun h hs => ?_) (fun h hs => ?_) <;> try exact hs.elim | refine .inl ⟨_, _, c_done_copy, ?_⟩ | exact zEwf | refine zZwf ?_ | fail)
    refine callG_args (args' := [i64 (mayE n a b), i64 0, .bp 1 0]) (by kernel_rfl) ?_
    refine callG_do1 (clock := clock) (l := l) (by kernel_rfl) ?_
    repeat' ((conv => whnf); (fail_if_success refine zC ?_); first | refine zSd ?_ | refine zB (fun h hs => ?_) (fun h hs => ?_) <;> try exact hs.elim | exact zEwf | refine zZwf ?_ | fail)
    refine Eq.trans (b := AV.tup [eDone ⟨clock, l, .empty, false, if (0 : Int) = 0 then statusOf (mayE n a b) else 0, mayE n a b⟩, i64 0]) (by kernel_rfl) ?_
    exact doneEq (by unfold doCopy; rw [if_neg hs]; rfl)
  · repeat' ((conv => whnf); (fail_if_success refine zC ?_); first | refine zSd ?_ | refine zB (fun h hs => ?_) (fun h hs => ?_) <;> try exact hs.elim | refine .inl ⟨_, _, c_done_copy, ?_⟩ | exact zEwf | refine zZwf ?_ | fail)
    · refine callG_args (args' := [i64 (doneE clock l a b), i64 0, .bp 1 0]) (by kernel_rfl) ?_
      refine callG_do1 (clock := clock) (l := l) (by kernel_rfl) ?_
      repeat' ((conv => whnf); (fail_if_success refine zC ?_); first | refine zSd ?_ | refine zB (fun h hs => ?_) (fun h hs => ?_) <;> try exact hs.elim | exact zEwf | refine zZwf ?_ | fail)
      refine Eq.trans (b := AV.tup [eDone ⟨clock, l, .empty, false, if (0 : Int) = 0 then statusOf (doneE clock l a b) else 0, doneE clock l a b⟩, i64 0]) (by kernel_rfl) ?_
      have hm : mayE n a b = 0 := by assumption
      exact doneEq (by unfold doCopy; rw [if_pos hm, if_neg hs]; rfl)
    · repeat' ((conv => whnf); (fail_if_success refine zC ?_); first | refine zSd ?_ | refine zB (fun h hs => ?_) (fun h hs => ?_) <;> try exact hs.elim | refine .inl ⟨_, _, c_Writes_copy ha hb, ?_⟩ | exact zEwf | refine zZwf ?_ | fail)
      refine Eq.trans (b := AV.tup [eDone ⟨doneC clock l a b, doneL clock l a b, .empty, true, 0, 0⟩, i64 0]) (by kernel_rfl) ?_
      have hm : mayE n a b = 0 := by assumption
      exact doneEq (by unfold doCopy; rw [if_pos hm, if_pos hs])
end Go.Proofs.YtepdiooaoegpfaaGreatDoor.Fx
end
section
/- A command is done upon a disk, for a target. Conditions: those in each statement. -/
namespace Go.Proofs.YtepdiooaoegpfaaGreatDoor.Fx
open Go Go.Proofs Go.Ev Go.RowKit
set_option maxRecDepth 100000
set_option maxHeartbeats 6400000
set_option linter.unusedSimpArgs false
set_option linter.unusedVariables false
/-- A failure: the disk as it was. -/
def failD (clock : Int) (l : List File) (e st : Int) : Done := ⟨clock, l, .empty, false, if st = 0 then statusOf e else st, e⟩
def doneD (c : Cm) (r : DR) (clock : Int) (l : List File) : Done := if r.e = 0 then ⟨r.clock, r.files, r.said, wrOf c, 0, 0⟩ else failD clock l r.e r.st
/-- What a right target's command comes to, upon a right disk. -/
def doIt (n : Node) (t : ByteArray) (clock : Int) (l : List File) (fail : Int) : Done :=
  if 0 < fail then failD clock l 171 fail else if mayX n t = 0 then doneD (lineC t) (doneOf (lineC t) clock l) clock l else failD clock l (mayX n t) 0
@[irreducible] def doE (n : Node) (t : ByteArray) (clock : Int) (l : List File) (fail : Int) : Int :=
  if nodeOk n = false then 7 else if 65536 < t.size then 2 else if okD clock l = false then 4 else if fail < 0 ∨ 255 < fail then 1 else 0
def noD : Done := ⟨0, [], .empty, false, 0, 0⟩
@[irreducible] def doD (n : Node) (t : ByteArray) (clock : Int) (l : List File) (fail : Int) : Done := if doE n t clock l fail = 0 then doIt n t clock l fail else noD
theorem wordsV_le {t : ByteArray} : ∀ x ∈ wordsV t, x.size ≤ 65536 := by
  intro x hm
  unfold wordsV at hm
  split at hm
  · cases hm
  · cases hL : wordsL t with
    | none => rw [hL] at hm; cases hm
    | some r =>
      rw [hL] at hm
      have := wordsF_small _ _ _ _ _ (by intro x hx; cases hx) hL x hm
      omega
theorem cmOf_words {op : Int} {l : List ByteArray} : ∀ x ∈ (cmOf op l).words, x ∈ l := by
  intro x hx
  unfold cmOf at hx
  repeat' (first | (split at hx) | (cases hx; done) | exact List.mem_of_mem_drop hx | exact hx)
theorem line_words {t : ByteArray} : ∀ x ∈ (lineC t).words, x.size ≤ 65536 := by
  intro x hx
  unfold lineC at hx
  split at hx
  · unfold parseC at hx
    split at hx
    · exact wordsV_le x (List.mem_of_mem_tail (cmOf_words x hx))
    · cases hx
  · cases hx
theorem do_bad {n : Node} {t : ByteArray} {clock fail e : Int} {l : List File} (h : doE n t clock l fail = e) : LeqD (.tup [.agg [i64 0, nilv, str ⟨#[]⟩, bln false, i64 0, i64 0], i64 e]) (.tup [eDone noD, i64 (doE n t clock l fail)]) := by
  rw [h]
  repeat' (first | exact LeqD.nil (by decide) | exact LeqD.refl _ | exact LeqDL.refl _ | refine LeqDL.cons ?_ ?_ | refine LeqD.agg ?_ | refine LeqD.tup ?_)
end Go.Proofs.YtepdiooaoegpfaaGreatDoor.Fx
end
section
/- What right commands do upon a disk whose files lie in a box. Conditions: those in each statement. -/
namespace Go.Proofs.YtepdiooaoegpfaaGreatDoor.Fx
open Go Go.Proofs Go.Ev Go.RowKit
set_option maxRecDepth 100000
set_option maxHeartbeats 6400000
set_option linter.unusedSimpArgs false
set_option linter.unusedVariables false
attribute [local irreducible] readE readT findE
/-- A row of files that lies in a box, or none. -/
def ArgD (env : List Bx) (l : List File) (X : AV) : Prop :=
  (l = [] ∧ ∃ c0, X = .v (.slice none 0 c0)) ∨ ∃ q off cp B, X = .xs q off 3 l.length cp ∧ env[q]? = some (.cells B []) ∧ off + l.length * 3 ≤ B.length ∧ (B.drop off).take (l.length * 3) = (l.map eF).flatMap AV.leaves
theorem ArgD.more {env more : List Bx} {l : List File} {X : AV} (h : ArgD env l X) : ArgD (env ++ more) l X := by
  rcases h with h | ⟨q, off, cp, B, h1, h2, h3⟩
  · exact .inl h
  · exact .inr ⟨q, off, cp, B, h1, by rw [List.getElem?_append_left (List.getElem?_eq_some_iff.1 h2).1]; exact h2, h3⟩
theorem ArgD.shut {env : List Bx} {l : List File} {X : AV} (hl : l.length ≤ 1000000000) (h : ArgD env l X) : Go.Ev.Shut env 0 X (eFs l) := by
  rcases h with ⟨rfl, c0, rfl⟩ | ⟨q, off, cp, B, rfl, h1, h2, h3⟩
  · simp only [Go.Ev.Shut]; exact .inr ⟨3, c0, by decide, rfl, rfl⟩
  · simp only [Go.Ev.Shut]; exact ⟨Nat.zero_le _, B, [], l.map eF, h1, rfl, by simp, h2, by omega, h3, els_F l⟩
theorem ArgD.up {env : List Bx} {l : List File} {X : AV} (base : Nat) (h : ArgD env l X) : AV.up base X = X := by
  rcases h with ⟨rfl, c0, rfl⟩ | ⟨q, off, cp, B, rfl, h1, h2, h3⟩ <;> rfl
theorem shutArgs {env more : List Bx} {pre post : List AV} {clock : Int} {l : List File} {X : AV} {base : Nat} (h1 : pfL pre = true) (h2 : pfL post = true) (hl : l.length ≤ 1000000000) (h : ArgD env l X) :
    ShutL (env ++ more) 0 ((pre ++ .agg [i64 clock, X] :: post).map (AV.up base)) (pre ++ eD clock l :: post) := by
  have up : ∀ p : List AV, pfL p = true → p.map (AV.up base) = p := fun p hp => by rw [← upL_eq]; exact upL_pf _ _ hp
  rw [List.map_append, List.map_cons, up _ h1, up _ h2]
  refine ShutL.app (shutL_pf _ _ _ h1) ?_
  simp only [AV.up, upL, h.up, ShutL, Go.Ev.Shut]
  exact ⟨_, _, rfl, ⟨_, rfl, _, _, rfl, .inl rfl, _, _, rfl, h.more.shut hl, rfl⟩, shutL_pf _ _ _ h2⟩
theorem ArgD.mapUp {env : List Bx} {l : List File} {X : AV} (b : Nat) (h : ArgD env l X) : ArgD (env.map (Bx.up b)) l X := by
  rcases h with h | ⟨q, off, cp, B, h1, h2, h3, h4⟩
  · exact .inl h
  · refine .inr ⟨q, off, cp, upL b B, h1, by rw [List.getElem?_map, h2]; rfl, by rw [upL_length]; exact h3, ?_⟩
    rw [← upL_drop, ← upL_take, h4, upL_pf _ _ (els_F l).pf]
/-- A call by a function whose result holds no row, with rows in boxes, in a region that draws its order. -/
theorem wildA_flat {c : Cfg} {K : AV → List Bx → Prop} {p : Nat} {f : FuncId} {args args2 : List AV} {r : AV} (h : XPure Tryz.prog f args r false) (hf : flatT r = true) (hs : ShutL ((c.env ++ c.own).map (Bx.up c.env.length)) 0 (args2.map (AV.up c.env.length)) args) (hk : K r c.own) :
    Callable Tryz.prog f ∧ ∃ R, XCalls Tryz.prog f (args2.map (AV.up c.env.length)) ((c.env ++ c.own).map (Bx.up c.env.length)) R ∧
      ((∀ x ∈ c.env, Bx.cl c.env.length 0 x) → (∀ x ∈ c.env ++ c.own, Bx.cl c.env.length c.own.length x) → ∀ r ow env', R r ow env' → ∃ v own', r = AV.up c.env.length v ∧ env' = (c.env ++ own').map (Bx.up c.env.length) ∧ v.cl c.env.length own'.length ∧ (∀ x ∈ c.env ++ own', Bx.cl c.env.length own'.length x) ∧ ((∃ new, own' = c.own ++ new) ∨ ∃ i x, p ≤ i ∧ own' = c.own.set i x) ∧ K v own') :=
  ⟨h.1, _, (h.2.2 []).borrow (R2 := fun r' ow env' => r' = r ∧ ow = false ∧ env' = (c.env ++ c.own).map (Bx.up c.env.length)) hs fun r' ow env' ⟨e1, _, _⟩ => .inl ⟨by rw [e1]; exact hf, e1, rfl, rfl⟩, fun _ hA r' ow env' ⟨e1, _, e3⟩ => ⟨r, c.own, by rw [e1, up_pf _ _ (flat_pf hf)], e3, cl_pf _ (flat_pf hf), hA, .inl ⟨[], by simp⟩, hk⟩⟩
theorem shutArgs2 {env own : List Bx} {pre post : List AV} {clock : Int} {l : List File} {X : AV} {base : Nat} (h1 : pfL pre = true) (h2 : pfL post = true) (hl : l.length ≤ 1000000000) (h : ArgD env l X) :
    ShutL ((env ++ own).map (Bx.up base)) 0 ((pre ++ .agg [i64 clock, X] :: post).map (AV.up base)) (pre ++ eD clock l :: post) := by
  have := shutArgs (more := []) (pre := pre) (post := post) (clock := clock) (base := base) h1 h2 hl ((h.more (more := own)).mapUp base)
  rwa [List.append_nil] at this
abbrev DD (d : DR) (x : AV) : AV := DT (VI d.clock) [] [.string d.said, VI d.st, VI d.e] x
@[irreducible] def DoneI (X : AV) (l : List File) (d : DR) (own : List Bx) (r0 : AV) : Prop :=
  (r0 = DD d X ∧ d.files = l) ∨ (∃ c0, r0 = DD d (.v (.slice none 0 c0)) ∧ d.files = []) ∨ ∃ i off cp lb, r0 = DD d (.bs i off 3 d.files.length cp) ∧ own[i]? = some (.cells lb []) ∧ pfL lb = true ∧ off + d.files.length * 3 ≤ lb.length ∧ (lb.drop off).take (d.files.length * 3) = (d.files.map eF).flatMap AV.leaves
theorem doneI_same {X : AV} {l : List File} {d : DR} {own : List Bx} {z st e : Int} {s : ByteArray} (h : d = ⟨z, l, s, st, e⟩) : DoneI X l d own (.tup [.agg [i64 z, X], str s, i64 st, i64 e]) := by
  subst h; unfold DoneI; exact .inl ⟨rfl, rfl⟩
theorem doneI_nil {X : AV} {l L : List File} {d : DR} {own : List Bx} {z st e : Int} {s : ByteArray} {c0 : Nat} (h : d = ⟨z, L, s, st, e⟩) (h0 : L = []) : DoneI X l d own (.tup [.agg [i64 z, .v (.slice none 0 c0)], str s, i64 st, i64 e]) := by
  subst h; unfold DoneI; exact .inr (.inl ⟨c0, rfl, h0⟩)
theorem doneI_box {X : AV} {l L : List File} {d : DR} {own : List Bx} {z st e : Int} {s : ByteArray} {i off cp : Nat} {lb : List AV} (h : d = ⟨z, L, s, st, e⟩) (h1 : own[i]? = some (.cells lb [])) (h2 : pfL lb = true) (h3 : off + L.length * 3 ≤ lb.length) (h4 : (lb.drop off).take (L.length * 3) = (L.map eF).flatMap AV.leaves) :
    DoneI X l d own (.tup [.agg [i64 z, .bs i off 3 L.length cp], str s, i64 st, i64 e]) := by
  subst h; unfold DoneI; exact .inr (.inr ⟨i, off, cp, lb, rfl, h1, h2, h3, h4⟩)
theorem callG_newB {c : Cfg} {args args2 : List AV} {f : FuncId} {dst : Option Tmp} {K : Cfg → Prop} {z e : Int} {L : List File} (h : NewDisk f args z L e) (hs : ShutL (c.env ++ c.own.map (Bx.up c.base)) 0 (args2.map (AV.up c.base)) args)
    (h0 : L = [] → ∀ c0, K (c.after dst (.tup [.agg [i64 z, .v (.slice none 0 c0)], i64 e]) false))
    (h1 : ∀ B off cp, pfL B = true → off + L.length * 3 ≤ B.length → (B.drop off).take (L.length * 3) = (L.map eF).flatMap AV.leaves → K (({ c with own := c.own ++ [.cells B []] } : Cfg).after dst (.tup [.agg [i64 z, .bs c.own.length off 3 L.length cp], i64 e]) false)) : callG Tryz.prog c args2 f dst K := by
  refine callG_disk h (vL_F L) hs (fun h => h0 (by simpa using h)) ?_
  rw [List.length_map]
  exact h1
theorem c_done_raw {c : Cm} {clock : Int} {l : List File} {X : AV} {env : List Bx} (hk : Kind c) (hw : ∀ x ∈ c.words, x.size ≤ 65536) (hl : l.length ≤ 1000000000) (hX : ArgD env l X) (hX' : (l = [] ∧ ∃ c0, X = .v (.slice none 0 c0)) ∨ ∃ off cp B b0 b1 b2 env', env = b0 :: b1 :: b2 :: .cells B [] :: env' ∧ X = .xs 3 off 3 l.length cp) :
    XCalls Tryz.prog 30 [c.av, .agg [i64 clock, X]] env fun r _ env' => ∃ r0 own0, r = AV.up env.length r0 ∧ env' = env ++ own0.map (Bx.up env.length) ∧ DoneI X l (doneOf c clock l) own0 r0 := by
  cases hk
  all_goals dsimp only [Cm.av] at hw ⊢
  all_goals rcases hX' with ⟨rfl, c0, rfl⟩ | ⟨off, cp, B, b0, b1, b2, env', rfl, rfl⟩
  all_goals
    refine XCalls.bodyI Tryz.func30 rfl (Nat.le_of_ble_eq_true (by rfl)) ?_
    repeat' ((conv => whnf); (fail_if_success refine zC ?_); first | refine zSd ?_ | refine zB (fun h hs => ?_) (fun h hs => ?_) <;> try exact hs.elim | refine .inl ⟨_, _, said_echo (by assumption) (by assumption) hw, ?_⟩ | refine .inl ⟨_, _, c_JoinW (by assumption) hw, ?_⟩ | refine ⟨_, _, said_echo (by assumption) (by assumption) hw, ?_⟩ | refine ⟨_, _, c_JoinW (by assumption) hw, ?_⟩ | (first | (refine XW.drawW (id := 20) (M := 11) (p := 3) (W := [5, 6, 7, 8, 9, 10]) (by kernel_rfl) (by kernel_rfl) ?_) | (refine wildA_flat c_disk_Find rfl (shutArgs2 (pre := []) (post := [str _]) rfl rfl hl hX) ?_) | (refine XW.drawW (id := 25) (M := 5) (p := 2) (W := [3, 4]) (by kernel_rfl) (by kernel_rfl) ?_) | (refine XW.drawW (id := 26) (M := 5) (p := 2) (W := [4]) (by kernel_rfl) (by kernel_rfl) ?_) | ((with_reducible show _ ∧ allW _ _); refine ⟨?_, ?_⟩) | exact trivial | ((with_reducible show (_ ∨ _) ∧ _ ∧ retB _ _ _ _ _); refine ⟨by first | exact .inr rfl | exact .inl rfl, rfl, ?_⟩) | ((first | refine .inr ?_ | skip); first | refine callG_flat (c_exec_read (by first | exact Nat.le_of_ble_eq_true rfl | omega)) rfl (shutArgs (pre := [_]) (post := []) rfl rfl hl hX) ?_ | refine callG_flat c_disk_Find rfl (shutArgs (pre := []) (post := [str _]) rfl rfl hl hX) ?_ | refine callG_newB c_disk_WriteD (shutArgs (pre := []) (post := [str _, str _]) rfl rfl hl hX) (fun h0 c0 => ?_) (fun B' off' cp' k1 k2 k3 => ?_) | refine callG_newB c_disk_TouchD (shutArgs (pre := []) (post := [str _]) rfl rfl hl hX) (fun h0 c0 => ?_) (fun B' off' cp' k1 k2 k3 => ?_) | refine callG_newB c_disk_RemoveD (shutArgs (pre := []) (post := [str _]) rfl rfl hl hX) (fun h0 c0 => ?_) (fun B' off' cp' k1 k2 k3 => ?_))) | exact zEwf | refine zZwf ?_ | fail)
  all_goals conv => whnf
  all_goals first
    | exact doneI_same rfl
    | exact doneI_nil rfl h0
    | exact doneI_box rfl rfl k1 k2 k3
    | exact doneI_same (by unfold doneOf; rw [if_pos (by first | exact .inl rfl | exact .inr rfl), if_neg hs]; rfl)
    | exact doneI_nil (by unfold doneOf; rw [if_pos (by first | exact .inl rfl | exact .inr rfl), if_pos hs]; rfl) h0
    | exact doneI_box (by unfold doneOf; rw [if_pos (by first | exact .inl rfl | exact .inr rfl), if_pos hs]; rfl) rfl k1 k2 k3
    | exact doneI_same (show (if findE clock _ _ = 0 then _ else _) = _ from if_neg hs)
    | exact doneI_same (show (if findE clock _ _ = 0 then _ else _) = _ from if_pos hs)
end Go.Proofs.YtepdiooaoegpfaaGreatDoor.Fx
end
