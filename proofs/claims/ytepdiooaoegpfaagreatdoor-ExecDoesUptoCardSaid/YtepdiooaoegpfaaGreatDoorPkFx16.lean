/- Written by programs of this session: laws and contracts that the law's proof stands on, merged into one text. Conditions: none beyond those in each statement. -/
import Derived.Test.YtepdiooaoegpfaaGreatDoorPkFx15
import Derived.Test.YtepdiooaoegpfaaGreatDoorPkFx14
import Derived.Test.YtepdiooaoegpfaaGreatDoorPkFx4
section
/- A command is done: what is handed back lies in new memory. Conditions: those in each statement. -/
namespace Go.Proofs.YtepdiooaoegpfaaGreatDoor.Fx
open Go Go.Proofs Go.Ev Go.RowKit
set_option maxRecDepth 100000
set_option maxHeartbeats 6400000
set_option linter.unusedSimpArgs false
set_option linter.unusedVariables false
def DoneR (env : List Bx) (X : AV) (l : List File) (d : DR) (r : AV) (ow : Bool) (env' : List Bx) : Prop :=
  (ow = false ∧ r = DD d X ∧ d.files = l ∧ env' = env) ∨ BoxD env (VI d.clock) [] [.string d.said, VI d.st, VI d.e] 3 (d.files.map eF) r ow env'
theorem c_doneD {c : Cm} {clock : Int} {l : List File} {X : AV} {env : List Bx} (hk : Kind c) (hw : ∀ x ∈ c.words, x.size ≤ 65536) (hl : l.length ≤ 1000000000) (hX : ArgD env l X) (hX' : (l = [] ∧ ∃ c0, X = .v (.slice none 0 c0)) ∨ ∃ off cp B b0 b1 b2 env', env = b0 :: b1 :: b2 :: .cells B [] :: env' ∧ X = .xs 3 off 3 l.length cp) :
    XCalls Tryz.prog 30 [c.av, .agg [i64 clock, X]] env (DoneR env X l (doneOf c clock l)) := by
  refine (c_done_raw hk hw hl hX hX').keepD fun r ow env' ⟨r0, own0, h1, h2, h3⟩ => ?_
  generalize doneOf c clock l = d at h3
  unfold DoneI at h3
  rcases h3 with ⟨rfl, h3⟩ | ⟨c0, rfl, h3⟩ | ⟨i, off, cp, lb, rfl, h3, h4, h5, h6⟩
  · have e : r = DD d X := by rw [h1, dt_up, hX.up]
    refine ⟨_, _, _, _, X, h2, e, ?_⟩
    rcases hX' with ⟨rfl, c0, rfl⟩ | ⟨off, cp, B, b0, b1, b2, env', rfl, rfl⟩
    · exact .inl ⟨_, rfl, .inl ⟨rfl, e, h3, rfl⟩⟩
    · exact .inr (.inl ⟨3, off, 3, _, cp, rfl, by simp, .inl ⟨rfl, e, h3, rfl⟩⟩)
  · have e : r = DD d (.v (.slice none 0 c0)) := by rw [h1, dt_up]; rfl
    exact ⟨_, _, _, _, .v (.slice none 0 c0), h2, e, .inl ⟨_, rfl, .inr ⟨rfl, .inl ⟨c0, e, by rw [h3]; rfl, rfl⟩⟩⟩⟩
  · refine ⟨_, _, _, _, .xs (env.length + i) off 3 d.files.length cp, h2, by rw [h1, dt_up]; rfl, .inr (.inr ⟨i, off, 3, _, cp, lb, rfl, ?_, h4, .inr ⟨rfl, .inr ⟨lb, off, cp, rfl, h4, ?_, ?_, ?_⟩⟩⟩)⟩
    · rw [List.getElem?_map, h3]; simp only [Option.map_some, Bx.up, upL_pf _ _ h4]
    · rw [List.length_map]
    · rw [List.length_map]; exact h5
    · rw [List.length_map]; exact h6
abbrev DF (x : Done) (e : Int) (X : AV) : AV := DT (VI x.clock) [.string x.said, .bool x.wrote, VI x.status, VI x.code] [VI e] X
abbrev NewDone (f : FuncId) (args : List AV) (x : Done) (e : Int) : Prop := XDisk Tryz.prog f args (VI x.clock) [.string x.said, .bool x.wrote, VI x.status, VI x.code] [VI e] 3 (x.files.map eF)
theorem c_Do1X {q : Nat} {clock e st : Int} {l : List File} {X : AV} {env : List Bx} (hq : env[q]? = some (.cells [i64 clock, X] [])) (hX : (∃ c0, X = .v (.slice none 0 c0)) ∨ ∃ j off n cp, X = .xs j off 3 n cp ∧ j < env.length) :
    XCalls Tryz.prog 28 [i64 e, i64 st, .xp q 0] env fun r ow env' => r = DF ⟨clock, l, .empty, false, if st = 0 then statusOf e else st, e⟩ 0 X ∧ ow = false ∧ env' = env := by
  have hkk : q < env.length := (List.getElem?_eq_some_iff.1 hq).1
  have hup : ∀ b, AV.up b X = X := fun b => by rcases hX with ⟨c0, rfl⟩ | ⟨j, off, n, cp, rfl, _⟩ <;> rfl
  refine (XCalls.bodyI (Q := fun own r0 => r0 = DF ⟨clock, l, .empty, false, if st = 0 then statusOf e else st, e⟩ 0 X) Tryz.func28 rfl (Nat.le_of_ble_eq_true (by rfl)) ?_).keepD fun r ow env' ⟨r0, own0, h1, h2, h3⟩ => ?_
  · rcases hX with ⟨c0, rfl⟩ | ⟨j, off, n, cp, rfl, hj⟩
    all_goals
      repeat' ((conv => whnf); (fail_if_success refine zC ?_); first | refine zS ?_ | refine zB (fun h hs => ?_) (fun h hs => ?_) <;> try exact hs.elim | refine .inl ⟨_, _, c_Status', ?_⟩ | (first | rw [cellOwn_xp (i := q) (off := 0) rfl hq] | (refine ⟨_, _, hq, ?_⟩) | ((with_reducible show (_ ∨ _) ∧ _ ∧ retB _ _ _ _ _); refine ⟨by first | exact .inr rfl | exact .inl rfl, rfl, ?_⟩)) | exact zEw | refine zZw ?_ | fail)
    all_goals conv => whnf
    all_goals first
      | exact congrArg (fun z => DF ⟨clock, l, .empty, false, z, e⟩ 0 _) (if_pos hs).symm
      | exact congrArg (fun z => DF ⟨clock, l, .empty, false, z, e⟩ 0 _) (if_neg hs).symm
  · subst h3
    have q : r = DF ⟨clock, l, .empty, false, if st = 0 then statusOf e else st, e⟩ 0 X := by rw [h1, dt_up, hup]
    refine ⟨_, _, _, _, X, h2, q, ?_⟩
    rcases hX with ⟨c0, rfl⟩ | ⟨j, off, n, cp, rfl, hj⟩
    · exact .inl ⟨_, rfl, q, rfl, rfl⟩
    · exact .inr (.inl ⟨j, off, 3, n, cp, rfl, hj, q, rfl, rfl⟩)
theorem callG_do1X {c : Cfg} {dst : Option Tmp} {K : Cfg → Prop} {clock e st : Int} {l : List File} {X : AV} (hbox : c.own[1]? = some (.cells [i64 clock, X] [])) (hX : (∃ c0, X = .v (.slice none 0 c0)) ∨ ∃ j off n cp, X = .bs j off 3 n cp ∧ j < c.own.length)
    (h : K (c.after dst (DF ⟨clock, l, .empty, false, if st = 0 then statusOf e else st, e⟩ 0 X) false)) : callG Tryz.prog c [i64 e, i64 st, .bp 1 0] 28 dst K := by
  have hcl : X.cl c.base c.own.length := by
    rcases hX with ⟨c0, rfl⟩ | ⟨j, off, n, cp, rfl, hj⟩
    · trivial
    · simp only [AV.cl]; exact hj
  unfold callG
  refine ⟨⟨_, Tryz.func28, rfl, by kernel_rfl⟩, _, c_Do1X (q := c.base + 1) (clock := clock) (l := l) (X := AV.up c.base X) ?_ ?_, fun hE hA r ow env' ⟨e1, e2, e3⟩ => ⟨DF ⟨clock, l, .empty, false, if st = 0 then statusOf e else st, e⟩ 0 X, c.env, c.own, ?_, e3, rfl, dt_cl hcl, hE, hA, by subst e2; exact h⟩⟩
  · rw [List.getElem?_append_right (by simp [Cfg.base]), Cfg.base, Nat.add_sub_cancel_left, List.getElem?_map, hbox]
    simp only [Option.map_some, Bx.up, upL, AV.up]
  · rcases hX with ⟨c0, rfl⟩ | ⟨j, off, n, cp, rfl, hj⟩
    · exact .inl ⟨c0, rfl⟩
    · exact .inr ⟨c.base + j, off, n, cp, rfl, by simp only [List.length_append, List.length_map, Cfg.base]; omega⟩
  · rw [e1, dt_up]
theorem callG_done {c : Cfg} {dst : Option Tmp} {K : Cfg → Prop} {cm : Cm} {clock : Int} {l : List File} {X : AV} {B : List AV} (hk : Kind cm) (hw : ∀ x ∈ cm.words, x.size ≤ 65536) (hl : l.length ≤ 1000000000) (hE : c.env = [])
    (hX : (l = [] ∧ ∃ c0, X = .v (.slice none 0 c0)) ∨ ∃ off cp b0 b1 b2 rest, X = .bs 3 off 3 l.length cp ∧ c.own = b0 :: b1 :: b2 :: .cells B [] :: rest ∧ pfL B = true ∧ off + l.length * 3 ≤ B.length ∧ (B.drop off).take (l.length * 3) = (l.map eF).flatMap AV.leaves)
    (h0 : (doneOf cm clock l).files = l → K (c.after dst (DD (doneOf cm clock l) X) false)) (h1 : (doneOf cm clock l).files = [] → ∀ c0, K (c.after dst (DD (doneOf cm clock l) (.v (.slice none 0 c0))) false))
    (h2 : ∀ B off cp, pfL B = true → off + (doneOf cm clock l).files.length * 3 ≤ B.length → (B.drop off).take ((doneOf cm clock l).files.length * 3) = ((doneOf cm clock l).files.map eF).flatMap AV.leaves → K (({ c with own := c.own ++ [.cells B []] } : Cfg).after dst (DD (doneOf cm clock l) (.bs c.own.length off 3 (doneOf cm clock l).files.length cp)) false)) :
    callG Tryz.prog c [cm.av, .agg [i64 clock, X]] 30 dst K := by
  have hb : c.base = 0 := by simp [Cfg.base, hE]
  have hcl : X.cl c.base c.own.length := by
    rcases hX with ⟨_, c0, rfl⟩ | ⟨off, cp, b0, b1, b2, rest, rfl, h, _⟩
    · trivial
    · simp only [AV.cl]; rw [h]; simp
  have hA : ArgD (c.env ++ c.own.map (Bx.up c.base)) l (AV.up c.base X) := by
    rcases hX with ⟨e, c0, rfl⟩ | ⟨off, cp, b0, b1, b2, rest, rfl, h, q0, q1, q2⟩
    · exact .inl ⟨e, c0, rfl⟩
    · refine .inr ⟨3, off, cp, B, by rw [hb]; rfl, ?_, q1, q2⟩
      rw [hE, List.nil_append, h]; simp only [List.map_cons, List.getElem?_cons_succ, List.getElem?_cons_zero, Bx.up, upL_pf _ _ q0]
  have hA' : (l = [] ∧ ∃ c0, AV.up c.base X = .v (.slice none 0 c0)) ∨ ∃ off cp B b0 b1 b2 env', c.env ++ c.own.map (Bx.up c.base) = b0 :: b1 :: b2 :: .cells B [] :: env' ∧ AV.up c.base X = .xs 3 off 3 l.length cp := by
    rcases hX with ⟨e, c0, rfl⟩ | ⟨off, cp, b0, b1, b2, rest, rfl, h, q0, q1, q2⟩
    · exact .inl ⟨e, c0, rfl⟩
    · refine .inr ⟨off, cp, B, Bx.up c.base b0, Bx.up c.base b1, Bx.up c.base b2, rest.map (Bx.up c.base), ?_, by rw [hb]; rfl⟩
      rw [hE, h]; simp only [List.nil_append, List.map_cons, Bx.up, upL_pf _ _ q0]
  unfold callG
  refine ⟨⟨_, Tryz.func30, rfl, by kernel_rfl⟩, _, c_doneD (clock := clock) hk hw hl hA hA', fun hE' hA2 r ow env' hR => ?_⟩
  generalize doneOf cm clock l = d at *
  rcases hR with ⟨rfl, rfl, e, rfl⟩ | ⟨rfl, ⟨c0, rfl, e, rfl⟩ | ⟨B', off, cp, rfl, hpf, rfl, q1, q2⟩⟩
  · exact ⟨DD d X, c.env, c.own, by rw [dt_up], rfl, rfl, dt_cl hcl, hE', hA2, h0 e⟩
  · exact ⟨DD d (.v (.slice none 0 c0)), c.env, c.own, by rw [dt_up]; rfl, rfl, rfl, dt_cl (x := .v (.slice none 0 c0)) trivial, hE', hA2, h1 (by simpa using e) c0⟩
  · obtain ⟨m1, m2⟩ := mapUp_self (base := c.base) (m := (c.own ++ [Bx.cells B' []]).length) hpf rfl
    rw [List.length_map] at q1 q2 ⊢
    refine ⟨DD d (.bs c.own.length off 3 d.files.length cp), c.env, c.own ++ [.cells B' []], ?_, ?_, rfl, ?_, hE', clAll_app hE' hA2 (fun x hx => ?_), h2 B' off cp hpf q1 q2⟩
    · rw [dt_up]; simp [AV.up, Cfg.base, Nat.add_comm]
    · simp only [List.map_append, List.map_cons, List.map_nil, m1, List.append_assoc]
    · refine dt_cl ?_; simp only [AV.cl]; simp
    · rw [List.mem_singleton] at hx; subst hx; exact m2
theorem freshI_dn {own : List Bx} {x y : Done} {e : Int} {c0 : Nat} (h : x = y) (h0 : y.files = []) : FreshI own (VI x.clock) [.string x.said, .bool x.wrote, VI x.status, VI x.code] [VI e] 3 (x.files.map eF) (DF y e (.v (.slice none 0 c0))) := by
  subst h; unfold FreshI; exact .inl ⟨c0, rfl, by rw [h0]; rfl⟩
theorem freshI_db {own : List Bx} {x y : Done} {e : Int} {i n off cp : Nat} {B : List AV} {os : List Nat} (h : x = y) (hn : n = y.files.length) (h1 : own[i]? = some (.cells B os)) (h2 : off + y.files.length * 3 ≤ B.length) (h3 : (B.drop off).take (y.files.length * 3) = (y.files.map eF).flatMap AV.leaves) :
    FreshI own (VI x.clock) [.string x.said, .bool x.wrote, VI x.status, VI x.code] [VI e] 3 (x.files.map eF) (DF y e (.bs i off 3 n cp)) := by
  subst h hn; unfold FreshI; exact .inr ⟨i, off, cp, B, os, by rw [List.length_map], h1, by rw [List.length_map]; exact h2, by rw [List.length_map]; exact h3⟩
theorem c_Do_genD {n : Node} {t : ByteArray} {clock fail m : Int} {l : List File} {c : Cm} {D : Done} (hz : SzN n) (hn : nodeOk n = true) (ht : t.size ≤ 65536) (hd : okD clock l = true) (h0 : 0 ≤ fail) (h1 : fail ≤ 255)
    (hM : XPure Tryz.prog 29 [eN n, str t] (.tup [c.av, i64 m]) false) (hk : m = 0 → Kind c) (hw : ∀ x ∈ c.words, x.size ≤ 65536)
    (hD1 : 0 < fail → D = failD clock l 171 fail) (hD2 : ¬ 0 < fail → m ≠ 0 → D = failD clock l m 0) (hD3 : ¬ 0 < fail → m = 0 → D = doneD c (doneOf c clock l) clock l) : NewDone 9 [eN n, str t, eD clock l, i64 fail] D 0 := by
  have hl := (okD_sorted hd).1
  have hA : XPure Tryz.prog 25 [eN n] (i64 0) false := by
    have h := c_alone hz
    rwa [aloneOk_eq, hn, show errIf true 7 = 0 from rfl] at h
  have hD : XPure Tryz.prog 26 [eD clock l] (i64 0) false := by
    have h := c_disk_Check (clock := clock) (l := l)
    rwa [hd, show errIf true 4 = 0 from rfl] at h
  refine XDisk.body ⟨_, Tryz.func9, rfl, by kernel_rfl⟩ Tryz.func9 rfl (Nat.le_of_ble_eq_true (by rfl)) (els_F _).pf ?_
  repeat' ((conv => whnf); (fail_if_success refine zC ?_); first | refine zSd ?_ | refine zB (fun h hs => ?_) (fun h hs => ?_) <;> try exact hs.elim | refine .inl ⟨_, _, hA, ?_⟩ | refine .inl ⟨_, _, hD, ?_⟩ | refine .inl ⟨_, _, hM, ?_⟩ | (first | (refine .inr (callG_box call_CloneF rfl (els_F _) (fun env => c_CloneFB (by simp; omega) (els_F _) env) (fun n0 => ?_) (fun cp zs k1 k2 k3 k4 => ?_))) | ((with_reducible show (_ ∨ _) ∧ _ ∧ retB _ _ _ _ _); refine ⟨by first | exact .inr rfl | exact .inl rfl, rfl, ?_⟩)) | exact zEwf | refine zZwf ?_ | fail)
  · exfalso; omega
  · exfalso; omega
  · obtain rfl : l = [] := by simpa using n0
    refine callG_args (args' := [i64 171, i64 fail, .bp 1 0]) (by kernel_rfl) ?_
    refine callG_do1X (clock := clock) (l := []) (X := nilv) (by kernel_rfl) (.inl ⟨0, rfl⟩) ?_
    repeat' ((conv => whnf); (fail_if_success refine zC ?_); first | refine zSd ?_ | refine zB (fun h hs => ?_) (fun h hs => ?_) <;> try exact hs.elim | ((with_reducible show (_ ∨ _) ∧ _ ∧ retB _ _ _ _ _); refine ⟨by first | exact .inr rfl | exact .inl rfl, rfl, ?_⟩) | exact zEwf | refine zZwf ?_ | fail)
    conv => whnf
    exact freshI_dn (y := ⟨clock, [], .empty, false, if fail = 0 then statusOf 171 else fail, 171⟩) (hD1 hs) rfl
  · obtain rfl : l = [] := by simpa using n0
    refine callG_args (args' := [i64 m, i64 0, .bp 1 0]) (by kernel_rfl) ?_
    refine callG_do1X (clock := clock) (l := []) (X := nilv) (by kernel_rfl) (.inl ⟨0, rfl⟩) ?_
    repeat' ((conv => whnf); (fail_if_success refine zC ?_); first | refine zSd ?_ | refine zB (fun h hs => ?_) (fun h hs => ?_) <;> try exact hs.elim | ((with_reducible show (_ ∨ _) ∧ _ ∧ retB _ _ _ _ _); refine ⟨by first | exact .inr rfl | exact .inl rfl, rfl, ?_⟩) | exact zEwf | refine zZwf ?_ | fail)
    conv => whnf
    exact freshI_dn (y := ⟨clock, [], .empty, false, if (0 : Int) = 0 then statusOf m else 0, m⟩) (hD2 (by omega) hs) rfl
  · obtain rfl : l = [] := by simpa using n0
    have hm : m = 0 := hs
    have hkk := hk hm
    have hD4 := hD3 (by omega) hm
    conv => whnf
    first | refine .inr ?_ | skip
    refine callG_args (args' := [c.av, .agg [i64 clock, nilv]]) (by kernel_rfl) ?_
    refine callG_done (l := []) (X := nilv) (B := []) hkk hw (by first | exact Nat.zero_le _ | omega) rfl (.inl ⟨rfl, 0, rfl⟩) (fun f0 => ?_) (fun f0 c0 => ?_) (fun B' off' cp' j1 j2 j3 => ?_)
    all_goals generalize doneOf c clock [] = d at *
    all_goals obtain ⟨dc, df, dsd, dst, de⟩ := d
    all_goals dsimp only at *
    all_goals
      repeat' ((conv => whnf); (fail_if_success refine zC ?_); first | refine zSd ?_ | refine zB (fun h hs => ?_) (fun h hs => ?_) <;> try exact hs.elim | ((with_reducible show (_ ∨ _) ∧ _ ∧ retB _ _ _ _ _); refine ⟨by first | exact .inr rfl | exact .inl rfl, rfl, ?_⟩) | exact zEwf | refine zZwf ?_ | fail)
    iterate 3
      · refine callG_args (args' := [i64 de, i64 dst, .bp 1 0]) (by kernel_rfl) ?_
        refine callG_do1X (clock := clock) (l := []) (X := nilv) (by kernel_rfl) (.inl ⟨0, rfl⟩) ?_
        repeat' ((conv => whnf); (fail_if_success refine zC ?_); first | refine zSd ?_ | refine zB (fun h hs => ?_) (fun h hs => ?_) <;> try exact hs.elim | ((with_reducible show (_ ∨ _) ∧ _ ∧ retB _ _ _ _ _); refine ⟨by first | exact .inr rfl | exact .inl rfl, rfl, ?_⟩) | exact zEwf | refine zZwf ?_ | fail)
        conv => whnf
        exact freshI_dn (y := ⟨clock, [], .empty, false, if dst = 0 then statusOf de else dst, de⟩) (hD4.trans (if_neg hs)) rfl
      · repeat' ((conv => whnf); (fail_if_success refine zC ?_); first | refine zSd ?_ | refine zB (fun h hs => ?_) (fun h hs => ?_) <;> try exact hs.elim | refine .inl ⟨_, _, c_Writes hkk, ?_⟩ | ((with_reducible show (_ ∨ _) ∧ _ ∧ retB _ _ _ _ _); refine ⟨by first | exact .inr rfl | exact .inl rfl, rfl, ?_⟩) | exact zEwf | refine zZwf ?_ | fail)
        conv => whnf
        first
          | exact freshI_dn (y := ⟨dc, df, dsd, wrOf c, 0, 0⟩) (hD4.trans (if_pos hs)) f0
          | exact freshI_db (y := ⟨dc, df, dsd, wrOf c, 0, 0⟩) (hD4.trans (if_pos hs)) rfl rfl j2 j3
  · have hB1 : 0 + l.length * 3 ≤ ((l.map eF).flatMap AV.leaves ++ zs).length := by rw [k3]; rw [List.length_map] at k1; omega
    have hB2 : (((l.map eF).flatMap AV.leaves ++ zs).drop 0).take ((l.length) * 3) = (l.map eF).flatMap AV.leaves := by rw [List.drop_zero, ← flat_len l, List.take_left]
    refine callG_args (args' := [i64 171, i64 fail, .bp 1 0]) (by kernel_rfl) ?_
    refine callG_do1X (clock := clock) (l := l) (X := .bs 3 0 3 (l.map eF).length cp) (by kernel_rfl) (.inr ⟨3, 0, _, cp, rfl, Nat.le_of_ble_eq_true rfl⟩) ?_
    repeat' ((conv => whnf); (fail_if_success refine zC ?_); first | refine zSd ?_ | refine zB (fun h hs => ?_) (fun h hs => ?_) <;> try exact hs.elim | ((with_reducible show (_ ∨ _) ∧ _ ∧ retB _ _ _ _ _); refine ⟨by first | exact .inr rfl | exact .inl rfl, rfl, ?_⟩) | exact zEwf | refine zZwf ?_ | fail)
    conv => whnf
    exact freshI_db (y := ⟨clock, l, .empty, false, if fail = 0 then statusOf 171 else fail, 171⟩) (hD1 hs) (List.length_map _) rfl hB1 hB2
  · have hB1 : 0 + l.length * 3 ≤ ((l.map eF).flatMap AV.leaves ++ zs).length := by rw [k3]; rw [List.length_map] at k1; omega
    have hB2 : (((l.map eF).flatMap AV.leaves ++ zs).drop 0).take ((l.length) * 3) = (l.map eF).flatMap AV.leaves := by rw [List.drop_zero, ← flat_len l, List.take_left]
    refine callG_args (args' := [i64 m, i64 0, .bp 1 0]) (by kernel_rfl) ?_
    refine callG_do1X (clock := clock) (l := l) (X := .bs 3 0 3 (l.map eF).length cp) (by kernel_rfl) (.inr ⟨3, 0, _, cp, rfl, Nat.le_of_ble_eq_true rfl⟩) ?_
    repeat' ((conv => whnf); (fail_if_success refine zC ?_); first | refine zSd ?_ | refine zB (fun h hs => ?_) (fun h hs => ?_) <;> try exact hs.elim | ((with_reducible show (_ ∨ _) ∧ _ ∧ retB _ _ _ _ _); refine ⟨by first | exact .inr rfl | exact .inl rfl, rfl, ?_⟩) | exact zEwf | refine zZwf ?_ | fail)
    conv => whnf
    exact freshI_db (y := ⟨clock, l, .empty, false, if (0 : Int) = 0 then statusOf m else 0, m⟩) (hD2 (by omega) hs) (List.length_map _) rfl hB1 hB2
  · have hB1 : 0 + l.length * 3 ≤ ((l.map eF).flatMap AV.leaves ++ zs).length := by rw [k3]; rw [List.length_map] at k1; omega
    have hB2 : (((l.map eF).flatMap AV.leaves ++ zs).drop 0).take ((l.length) * 3) = (l.map eF).flatMap AV.leaves := by rw [List.drop_zero, ← flat_len l, List.take_left]
    have hm : m = 0 := hs
    have hkk := hk hm
    have hD4 := hD3 (by omega) hm
    conv => whnf
    refine callG_args (args' := [c.av, .agg [i64 clock, .bs 3 0 3 (l.map eF).length cp]]) (by kernel_rfl) ?_
    refine callG_done (l := l) (X := .bs 3 0 3 (l.map eF).length cp) (B := (l.map eF).flatMap AV.leaves ++ zs) hkk hw (by first | exact Nat.zero_le _ | omega) rfl (.inr ⟨0, cp, _, _, _, _, by rw [List.length_map], rfl, pfL_append (els_F l).pf k4, hB1, hB2⟩) (fun f0 => ?_) (fun f0 c0 => ?_) (fun B' off' cp' j1 j2 j3 => ?_)
    all_goals generalize doneOf c clock l = d at *
    all_goals obtain ⟨dc, df, dsd, dst, de⟩ := d
    all_goals dsimp only at *
    all_goals
      repeat' ((conv => whnf); (fail_if_success refine zC ?_); first | refine zSd ?_ | refine zB (fun h hs => ?_) (fun h hs => ?_) <;> try exact hs.elim | ((with_reducible show (_ ∨ _) ∧ _ ∧ retB _ _ _ _ _); refine ⟨by first | exact .inr rfl | exact .inl rfl, rfl, ?_⟩) | exact zEwf | refine zZwf ?_ | fail)
    iterate 3
      · refine callG_args (args' := [i64 de, i64 dst, .bp 1 0]) (by kernel_rfl) ?_
        refine callG_do1X (clock := clock) (l := l) (X := .bs 3 0 3 (l.map eF).length cp) (by kernel_rfl) (.inr ⟨3, 0, _, cp, rfl, Nat.le_of_ble_eq_true rfl⟩) ?_
        repeat' ((conv => whnf); (fail_if_success refine zC ?_); first | refine zSd ?_ | refine zB (fun h hs => ?_) (fun h hs => ?_) <;> try exact hs.elim | ((with_reducible show (_ ∨ _) ∧ _ ∧ retB _ _ _ _ _); refine ⟨by first | exact .inr rfl | exact .inl rfl, rfl, ?_⟩) | exact zEwf | refine zZwf ?_ | fail)
        conv => whnf
        exact freshI_db (y := ⟨clock, l, .empty, false, if dst = 0 then statusOf de else dst, de⟩) (hD4.trans (if_neg hs)) (List.length_map _) rfl hB1 hB2
      · repeat' ((conv => whnf); (fail_if_success refine zC ?_); first | refine zSd ?_ | refine zB (fun h hs => ?_) (fun h hs => ?_) <;> try exact hs.elim | refine .inl ⟨_, _, c_Writes hkk, ?_⟩ | ((with_reducible show (_ ∨ _) ∧ _ ∧ retB _ _ _ _ _); refine ⟨by first | exact .inr rfl | exact .inl rfl, rfl, ?_⟩) | exact zEwf | refine zZwf ?_ | fail)
        conv => whnf
        first
          | exact freshI_dn (y := ⟨dc, df, dsd, wrOf c, 0, 0⟩) (hD4.trans (if_pos hs)) f0
          | exact freshI_db (y := ⟨dc, df, dsd, wrOf c, 0, 0⟩) (hD4.trans (if_pos hs)) rfl rfl j2 j3
          | exact freshI_db (y := ⟨dc, df, dsd, wrOf c, 0, 0⟩) (hD4.trans (if_pos hs)) (by rw [List.length_map, f0]) rfl (by rw [f0]; exact hB1) (by rw [f0]; exact hB2)
end Go.Proofs.YtepdiooaoegpfaaGreatDoor.Fx
end
section
/- Disks as the document's answer writes them. Conditions: those in each statement. -/
namespace Go.Proofs.YtepdiooaoegpfaaGreatDoor.Fx
open Go Go.Proofs Go.Ev Go.RowKit
set_option maxRecDepth 100000
set_option maxHeartbeats 1600000
set_option linter.unusedSimpArgs false
set_option linter.unusedVariables false
def laidGo (f : File) (done : Bool) : List File → List File
  | [] => bif done then [] else [f]
  | x :: r => bif !done && !ltS x.name f.name then f :: (bif beqS x.name f.name then laidGo f true r else x :: laidGo f true r) else bif beqS x.name f.name then laidGo f done r else x :: laidGo f done r
theorem laidGo_end {f : File} {l : List File} {i : Nat} {d : Bool} (h : ¬ i < l.length) : laidGo f d (l.drop i) = bif d then [] else [f] := by
  rw [List.drop_eq_nil_of_le (by omega)]; rfl
theorem laidGo_step {f : File} {l : List File} {i : Nat} {d : Bool} (h : i < l.length) : laidGo f d (l.drop i) = bif !d && !ltS (l.getD i File.none).name f.name then f :: (bif beqS (l.getD i File.none).name f.name then laidGo f true (l.drop (i + 1)) else l.getD i File.none :: laidGo f true (l.drop (i + 1))) else bif beqS (l.getD i File.none).name f.name then laidGo f d (l.drop (i + 1)) else l.getD i File.none :: laidGo f d (l.drop (i + 1)) := by
  rw [drop_getD File.none h]; rfl
theorem map_snoc2 {α : Type} (f : α → AV) (l : List α) (x y : α) : l.map f ++ [f x] ++ [f y] = (l ++ [x, y]).map f := by simp
theorem Weak.goOwn {n : Nat} {c c0 : Cfg} {own : List Bx} (e : c.own = own) (he : c0.env = c.env)
    (hf : FrLeq1 c.base c0.own.length c.fr c0.fr) (ho : OsLeq n c c0.fr c0.os) (hw : OwnLeq1 c.base c0.own.length own c0.own) : Weak n c c0 := by
  subst e; exact Weak.of he (FrLeq_of1 hf) ho (OwnLeq_of1 hw)
theorem c_ref02_laid {clock : Int} {l : List File} {f : File} (hl : l.length ≤ 1000000000) : XPure Tryz.prog 61 [eD clock l, eF f] (eD clock (laidGo f false l)) false := by
  refine XPure.body ⟨_, Tryz.func61, rfl, by kernel_rfl⟩ Tryz.func61 rfl (Nat.le_of_ble_eq_true (by rfl)) (pf_of1 rfl) fun env => ?_
  repeat' ((conv => whnf); (fail_if_success refine zC ?_); first | refine zS ?_ | refine zB (fun h hs => ?_) (fun h hs => ?_) <;> try exact hs.elim | exact zE | refine zZ ?_ | fail)
  refine XW.overL [2, 3, 4, 5] (fun (p : Nat × Bool × List File) => [(6, bln p.2.1), (7, i64 p.1)]) (fun _ => []) (fun p => [.cells [i64 clock, eFs l] [], .cells (eF f).leaves [], .cells [i64 0, nilv] [], .cells [i64 clock, eFs p.2.2] [1]]) (fun p => p.1 ≤ l.length ∧ p.2.2.length ≤ 2 * p.1 ∧ p.2.2 ++ laidGo f p.2.1 (l.drop p.1) = laidGo f false l) (fun p => l.length - p.1) (0, false, []) Weak.go ⟨Nat.zero_le _, Nat.zero_le _, rfl⟩ ?_
  rintro ⟨i, d, acc⟩ ⟨hi, ha, hA⟩
  dsimp only at hi ha hA ⊢
  refine codeS ?_
  have hM1 := map_snoc eF acc f
  have hM2 := map_snoc eF acc (l.getD i File.none)
  have hM3 := map_snoc2 eF acc f (l.getD i File.none)
  repeat' ((conv => whnf); (fail_if_success refine zC ?_); first | refine zS ?_ | refine zB (fun h hs => ?_) (fun h hs => ?_) <;> try exact hs.elim | exact zE | refine zZ ?_ | rw [getD_mapI (File.none) (by omega)] | rw [getD_map (File.none) (by omega)] | fail)
  · conv => whnf
    refine ⟨(i + 1, true, acc ++ [f, l.getD i File.none]), by dsimp only; omega, ⟨by dsimp only; omega, by simp only [List.length_append, List.length_cons, List.length_nil]; omega, ?_⟩, Weak.goOwn (own := [.cells [i64 clock, eFs l] [], .cells (eF f).leaves [], .cells [i64 0, nilv] [], .cells [i64 clock, eFs (acc ++ [f, l.getD i File.none])] [1], .cells (eF (l.getD i File.none)).leaves []]) (Eq.trans (b := [.cells [i64 clock, eFs l] [], .cells (eF f).leaves [], .cells [i64 0, nilv] [], .cells [i64 clock, .sl 3 (acc.map eF ++ [eF f] ++ [eF (l.getD i File.none)])] [1], .cells (eF (l.getD i File.none)).leaves []]) (by kernel_rfl) (congrArg (fun z => ([.cells [i64 clock, eFs l] [], .cells (eF f).leaves [], .cells [i64 0, nilv] [], .cells [i64 clock, .sl 3 z] [1], .cells (eF (l.getD i File.none)).leaves []] : List Bx)) hM3)) rfl ?_ ?_ ?_⟩
    · have b0 : (!d && !ltS (l.getD i File.none).name f.name) = true := by grind
      have b1 : beqS (l.getD i File.none).name f.name = false := by simpa using h
      dsimp only
      rw [← hA, laidGo_step (i := i) (by assumption), b0, b1]
      simp
    · repeat' (first | ((with_reducible show Leq _ _); first | exact Or.inr (Or.inl rfl) | exact Or.inr (Or.inl (congrArg (fun z => AV.v (Value.int IntKind.i64 z)) (wrapTo (by omega) (by omega) (by omega)))) | fail) | ((with_reducible show cl1 _ _ _); first | exact trivial | exact Nat.le_of_ble_eq_true rfl | (refine ⟨?_, ?_⟩)) | ((with_reducible show clL _ _ _); first | exact trivial | (refine ⟨?_, ?_⟩)) | ((with_reducible show FrLeq1 _ _ _ _); first | exact trivial | (refine ⟨?_, ?_, ?_⟩)))
    · exact trivial
    · exact ⟨⟨.inr (.inl rfl), trivial, .inr (.inl rfl), trivial, trivial⟩, (fun j hj => absurd hj List.not_mem_nil), ⟨.inr (.inl rfl), trivial, .inr (.inl rfl), trivial, .inr (.inl rfl), trivial, trivial⟩, (fun j hj => absurd hj List.not_mem_nil), ⟨.inr (.inl rfl), trivial, .inr (.inl rfl), trivial, trivial⟩, (fun j hj => absurd hj List.not_mem_nil), ⟨.inr (.inl rfl), trivial, .inr (.inl rfl), trivial, trivial⟩, (fun j hj => by obtain rfl := List.mem_singleton.1 hj; exact ⟨Or.inl (List.mem_singleton.2 rfl), rfl⟩), trivial⟩
  · conv => whnf
    refine ⟨(i + 1, true, acc ++ [f]), by dsimp only; omega, ⟨by dsimp only; omega, by simp only [List.length_append, List.length_cons, List.length_nil]; omega, ?_⟩, Weak.go⟩
    have b0 : (!d && !ltS (l.getD i File.none).name f.name) = true := by grind
    have b1 : beqS (l.getD i File.none).name f.name = true := by simpa using h
    dsimp only
    rw [← hA, laidGo_step (i := i) (by assumption), b0, b1]
    simp
  · conv => whnf
    refine ⟨(i + 1, d, acc ++ [l.getD i File.none]), by dsimp only; omega, ⟨by dsimp only; omega, by simp only [List.length_append, List.length_cons, List.length_nil]; omega, ?_⟩, Weak.go⟩
    have b0 : (!d && !ltS (l.getD i File.none).name f.name) = false := by grind
    have b1 : beqS (l.getD i File.none).name f.name = false := by simpa using h
    dsimp only
    rw [← hA, laidGo_step (i := i) (by assumption), b0, b1]
    simp
  · conv => whnf
    refine ⟨(i + 1, d, acc), by dsimp only; omega, ⟨by dsimp only; omega, by simp only [List.length_append, List.length_cons, List.length_nil]; omega, ?_⟩, Weak.go⟩
    have b0 : (!d && !ltS (l.getD i File.none).name f.name) = false := by grind
    have b1 : beqS (l.getD i File.none).name f.name = true := by simpa using h
    dsimp only
    rw [← hA, laidGo_step (i := i) (by assumption), b0, b1]
    simp
  · conv => whnf
    refine ⟨(i + 1, d, acc ++ [l.getD i File.none]), by dsimp only; omega, ⟨by dsimp only; omega, by simp only [List.length_append, List.length_cons, List.length_nil]; omega, ?_⟩, Weak.go⟩
    have b0 : (!d && !ltS (l.getD i File.none).name f.name) = false := by grind
    have b1 : beqS (l.getD i File.none).name f.name = false := by simpa using h
    dsimp only
    rw [← hA, laidGo_step (i := i) (by assumption), b0, b1]
    simp
  · conv => whnf
    refine ⟨(i + 1, d, acc), by dsimp only; omega, ⟨by dsimp only; omega, by simp only [List.length_append, List.length_cons, List.length_nil]; omega, ?_⟩, Weak.go⟩
    have b0 : (!d && !ltS (l.getD i File.none).name f.name) = false := by grind
    have b1 : beqS (l.getD i File.none).name f.name = true := by simpa using h
    dsimp only
    rw [← hA, laidGo_step (i := i) (by assumption), b0, b1]
    simp
  all_goals have e : laidGo f false l = acc ++ (bif d then [] else [f]) := by (rw [← hA, laidGo_end (by assumption)])
  · rw [e, hs]
    refine Eq.trans (b := AV.agg [i64 clock, .sl 3 (acc.map eF ++ [eF f])]) (by kernel_rfl) ?_
    rw [hM1]; rfl
  · rw [e, hs]
    refine Eq.trans (b := AV.agg [i64 clock, .sl 3 (acc.map eF)]) (by kernel_rfl) ?_
    rw [show acc ++ (bif true then [] else [f]) = acc from List.append_nil _]
end Go.Proofs.YtepdiooaoegpfaaGreatDoor.Fx
end
