/- Written by programs of this session: laws and contracts that the law's proof stands on, merged into one text. Conditions: none beyond those in each statement. -/
import Derived.Test.YtepdiooaoegpfaaGreatDoorPkFx2
import Derived.Test.YtepdiooaoegpfaaGreatDoorPkSp1
section
/- A file in its place on a disk. Conditions: those in each statement. -/
namespace Go.Proofs.YtepdiooaoegpfaaGreatDoor.Fx
open Go Go.Proofs Go.Ev Go.RowKit
set_option maxRecDepth 100000
set_option maxHeartbeats 12800000
set_option linter.unusedSimpArgs false
set_option linter.unusedVariables false
@[irreducible] def InsN (F : List AV) (env : List Bx) (r : AV) (ow : Bool) (env' : List Bx) : Prop :=
  ow = false ∧ ∃ B' c' new j, pfL B' = true ∧ 1 ≤ c' ∧ c' ≤ 9223372036854775807 ∧ B'.length = c' * 3 ∧ B'.take 3 = F ∧ r = .xs (env.length + j) 0 3 1 c' ∧ env' = env ++ new ∧ new[j]? = some (.cells B' [])
theorem InsN.new {cp j base : Nat} {F B' : List AV} {env own : List Bx} (h1 : pfL B' = true) (h2 : 1 ≤ cp) (h3 : cp ≤ 9223372036854775807) (h4 : B'.length = cp * 3) (h5 : B'.take 3 = F) (h6 : own[j]? = some (.cells B' [])) :
    InsN F env (.xs (env.length + j) 0 3 1 cp) false (env ++ own.map (Bx.up base)) := by
  unfold InsN
  exact ⟨rfl, B', cp, _, j, h1, h2, h3, h4, h5, rfl, rfl, by rw [List.getElem?_map, h6]; simp only [Option.map_some, Bx.up, upL_pf _ _ h1]⟩
theorem call_Insert : Callable Tryz.prog 118 := ⟨_, Tryz.func118, rfl, by kernel_rfl⟩
theorem c_InsertN {q2 : Nat} {F : List AV} {env : List Bx} (h2 : env[q2]? = some (.cells F [])) (hF : F.length = 3) (pF : pfL F = true) :
    XCalls Tryz.prog 118 [nilv, i64 0, .xs q2 0 3 1 1] env (InsN F env) := by
  refine XCalls.bodyB Tryz.func118 rfl (Nat.le_of_ble_eq_true (by rfl)) ?_
  repeat' ((conv => whnf); (fail_if_success refine zC ?_); first | refine zS ?_ | refine zB (fun h hs => ?_) (fun h hs => ?_) <;> try exact hs.elim | (rw [h2]) | exact zEs | refine zZs ?_ | (refine ⟨?_, ?_, ?_⟩; ((try dsimp only); first | omega | (simp only [s41, b41, List.length_append, List.length_take, List.length_drop]; omega)); ((try dsimp only); first | omega | (simp only [s41, b41, List.length_append, List.length_take, List.length_drop]; omega))) | (refine ⟨?_, ?_⟩; ((try dsimp only); first | omega | (simp only [s41, b41, List.length_append, List.length_take, List.length_drop]; omega))) | fail)
  · intro c' k1 k2
    repeat' ((conv => whnf); (fail_if_success refine zC ?_); first | refine zS ?_ | refine zB (fun h hs => ?_) (fun h hs => ?_) <;> try exact hs.elim | exact zE | refine zZ ?_ | fail)
    conv => whnf
    refine ⟨.inr rfl, rfl, ?_⟩
    conv => whnf
    refine InsN.new (j := 0) (B' := grownL [] ((F.drop 0).take (1 * 3)) (c' - 1) (.agg #[.string .empty, .string .empty, .int .i64 0])) ?_ k1 k2 ?_ ?_ rfl
    all_goals rw [takeF hF]
    all_goals unfold grownL
    · exact pfL_append (pfL_append rfl pF) (pfL_rep rfl _)
    · simp only [List.length_append, repLen, zl42, hF, List.length_nil]; omega
    · exact List.take_left' (by simpa using hF)
  all_goals exact absurd (rfl : (0 : Int) = ((0 : Nat) : Int)) (by assumption)
/-- What is handed back, in boxes: the file put into the row. -/
theorem c_InsertC {q q2 n cp i : Nat} {B F : List AV} {env : List Bx} (h1 : env[q]? = some (.cells B [])) (h2 : env[q2]? = some (.cells F [])) (hF : F.length = 3) (hq : q ≠ q2) (hB : B.length = cp * 3) (pB : pfL B = true) (pF : pfL F = true) (hn : n ≤ cp) (hn9 : n ≤ 1000000000) (hc : cp ≤ 9223372036854775807) (hi : i ≤ n) :
    XCalls Tryz.prog 118 [.xs q 0 3 n cp, i64 i, .xs q2 0 3 1 1] env fun r ow env' => ow = false ∧ ∃ B' c', pfL B' = true ∧ n + 1 ≤ c' ∧ c' ≤ 9223372036854775807 ∧ B'.length = c' * 3 ∧ B'.take ((n + 1) * 3) = B.take (i * 3) ++ F ++ (B.take (n * 3)).drop (i * 3) ∧
      ((r = .xs q 0 3 (n + 1) c' ∧ env' = env.set q (.cells B' [])) ∨ (r = .xs env.length 0 3 (n + 1) c' ∧ env' = env ++ [.cells B' []])) := by
  refine (c_InsertB h1 h2 hF hq hB pB pF hn hn9 hc hi).only fun r ow env' hR => ?_
  unfold InsR at hR
  obtain ⟨ho, B', c', k1, k2, k3, k4, k5, ⟨k6, k7⟩ | ⟨new, j, k6, k7, k8⟩⟩ := hR
  · exact .inl ⟨ho, B', c', k1, k2, k3, k4, k5, .inl ⟨k6, k7⟩⟩
  · exact .inr ⟨new, j, 0, 3, n + 1, c', B', k7, k6, k8, k1, rfl, B', c', k1, k2, k3, k4, k5, .inr ⟨rfl, rfl⟩⟩
theorem boxUp {c : Cfg} {j : Nat} {B : List AV} (pB : pfL B = true) (h : c.own[j]? = some (.cells B [])) : (c.env ++ c.own.map (Bx.up c.base))[c.base + j]? = some (.cells B []) := by
  rw [List.getElem?_append_right (by simp [Cfg.base]), show c.base + j - c.env.length = j from by simp [Cfg.base], List.getElem?_map, h]
  simp only [Option.map_some, Bx.up, upL_pf _ _ pB]
theorem own_cl {base : Nat} {env own : List Bx} (h : ∀ x ∈ env ++ own, Bx.cl base own.length x) {j : Nat} {B : List AV} (pB : pfL B = true) : ∀ x ∈ env ++ own.set j (.cells B []), Bx.cl base (own.set j (.cells B [])).length x := by
  intro x hx
  rw [List.length_set]
  rcases List.mem_append.1 hx with hx | hx
  · exact h x (List.mem_append_left _ hx)
  · rcases List.mem_or_eq_of_mem_set hx with hx | hx
    · exact h x (List.mem_append_right _ hx)
    · exact (mapUp_self (base := base) pB hx).2
theorem callG_ins {c : Cfg} {dst : Option Tmp} {K : Cfg → Prop} {j j2 n cp i : Nat} {B F : List AV} (h1 : c.own[j]? = some (.cells B [])) (h2 : c.own[j2]? = some (.cells F [])) (hF : F.length = 3) (hq : j ≠ j2) (hB : B.length = cp * 3) (pB : pfL B = true) (pF : pfL F = true) (hn : n ≤ cp) (hn9 : n ≤ 1000000000) (hc : cp ≤ 9223372036854775807) (hi : i ≤ n)
    (k1 : ∀ B' c', pfL B' = true → n + 1 ≤ c' → B'.length = c' * 3 → B'.take ((n + 1) * 3) = B.take (i * 3) ++ F ++ (B.take (n * 3)).drop (i * 3) → K (({ c with own := c.own.set j (.cells B' []) } : Cfg).after dst (.bs j 0 3 (n + 1) c') false))
    (k2 : ∀ B' c', pfL B' = true → n + 1 ≤ c' → B'.length = c' * 3 → B'.take ((n + 1) * 3) = B.take (i * 3) ++ F ++ (B.take (n * 3)).drop (i * 3) → K (({ c with own := c.own ++ [.cells B' []] } : Cfg).after dst (.bs c.own.length 0 3 (n + 1) c') false)) :
    callG Tryz.prog c [.bs j 0 3 n cp, i64 i, .bs j2 0 3 1 1] 118 dst K := by
  unfold callG
  refine ⟨call_Insert, _, c_InsertC (q := c.base + j) (q2 := c.base + j2) (boxUp pB h1) (boxUp pF h2) hF (by omega) hB pB pF hn hn9 hc hi, fun hE hA r ow env' hR => ?_⟩
  obtain ⟨rfl, B', c', q1, q2, q3, q4, q5, ⟨rfl, rfl⟩ | ⟨rfl, rfl⟩⟩ := hR
  · refine ⟨.bs j 0 3 (n + 1) c', c.env, c.own.set j (.cells B' []), rfl, ?_, rfl, ?_, hE, own_cl hA q1, k1 B' c' q1 q2 q4 q5⟩
    · rw [List.set_append_right _ _ (by simp [Cfg.base]), show c.base + j - c.env.length = j from by simp [Cfg.base], List.map_set]
      simp only [Bx.up, upL_pf _ _ q1]
    · simp only [AV.cl, List.length_set]; exact (List.getElem?_eq_some_iff.1 h1).1
  · obtain ⟨m1, m2⟩ := mapUp_self (base := c.base) (m := (c.own ++ [Bx.cells B' []]).length) q1 rfl
    refine ⟨.bs c.own.length 0 3 (n + 1) c', c.env, c.own ++ [.cells B' []], ?_, ?_, rfl, ?_, hE, clAll_app hE hA (fun x hx => ?_), k2 B' c' q1 q2 q4 q5⟩
    · simp [AV.up, Cfg.base, Nat.add_comm]
    · simp only [List.map_append, List.map_cons, List.map_nil, m1, List.append_assoc]
    · simp only [AV.cl]; simp
    · rw [List.mem_singleton] at hx; subst hx; exact m2
theorem callG_insN {c : Cfg} {dst : Option Tmp} {K : Cfg → Prop} {j2 : Nat} {F : List AV} (h2 : c.own[j2]? = some (.cells F [])) (hF : F.length = 3) (pF : pfL F = true)
    (k2 : ∀ B' c', pfL B' = true → 1 ≤ c' → B'.length = c' * 3 → B'.take 3 = F → K (({ c with own := c.own ++ [.cells B' []] } : Cfg).after dst (.bs c.own.length 0 3 1 c') false)) :
    callG Tryz.prog c [nilv, i64 0, .bs j2 0 3 1 1] 118 dst K := by
  unfold callG
  have hx := (c_InsertN (q2 := c.base + j2) (boxUp pF h2) hF pF).only (R' := fun r ow env' => ow = false ∧ ∃ B' c', pfL B' = true ∧ 1 ≤ c' ∧ B'.length = c' * 3 ∧ B'.take 3 = F ∧ r = .xs (c.env ++ c.own.map (Bx.up c.base)).length 0 3 1 c' ∧ env' = (c.env ++ c.own.map (Bx.up c.base)) ++ [.cells B' []]) fun r ow env' hR => by
    unfold InsN at hR
    obtain ⟨ho, B', c', new, j, k1, k2, k3, k4, k5, k6, k7, k8⟩ := hR
    exact .inr ⟨new, j, 0, 3, 1, c', B', k7, k6, k8, k1, rfl, B', c', k1, k2, k4, k5, rfl, rfl⟩
  refine ⟨call_Insert, _, hx, fun hE hA r ow env' hR => ?_⟩
  obtain ⟨rfl, B', c', q1, q2, q4, q5, rfl, rfl⟩ := hR
  obtain ⟨m1, m2⟩ := mapUp_self (base := c.base) (m := (c.own ++ [Bx.cells B' []]).length) q1 rfl
  refine ⟨.bs c.own.length 0 3 1 c', c.env, c.own ++ [.cells B' []], ?_, ?_, rfl, ?_, hE, clAll_app hE hA (fun x hx => ?_), k2 B' c' q1 q2 q4 q5⟩
  · simp [AV.up, Cfg.base, Nat.add_comm]
  · simp only [List.map_append, List.map_cons, List.map_nil, m1, List.append_assoc]
  · simp only [AV.cl]; simp
  · rw [List.mem_singleton] at hx; subst hx; exact m2
@[irreducible] def laidE (l : List File) (f : File) : Int := if thereF l f.name = true then 0 else if l.length = 256 then 22 else 0
@[irreducible] def laidL (l : List File) (f : File) : List File := if thereF l f.name = true then l.set (posF l f.name) f else if l.length = 256 then [] else l.take (posF l f.name) ++ f :: l.drop (posF l f.name)
theorem flat_len (l : List File) : ((l.map eF).flatMap AV.leaves).length = l.length * 3 := by rw [(els_F l).len, List.length_map]
theorem flat_take : ∀ (l : List File) (i : Nat), ((l.map eF).flatMap AV.leaves).take (i * 3) = ((l.take i).map eF).flatMap AV.leaves
  | [], i => by simp
  | f :: l, 0 => by simp
  | f :: l, i + 1 => by
    rw [List.map_cons, List.flatMap_cons, List.take_succ_cons, List.map_cons, List.flatMap_cons, ← flat_take l i]
    rw [show (i + 1) * 3 = (eF f).leaves.length + i * 3 from by show (i + 1) * 3 = 3 + i * 3; omega, List.take_length_add_append]
theorem flat_drop : ∀ (l : List File) (i : Nat), ((l.map eF).flatMap AV.leaves).drop (i * 3) = ((l.drop i).map eF).flatMap AV.leaves
  | [], i => by simp
  | f :: l, 0 => by simp
  | f :: l, i + 1 => by
    rw [List.map_cons, List.flatMap_cons, List.drop_succ_cons, ← flat_drop l i]
    rw [show (i + 1) * 3 = (eF f).leaves.length + i * 3 from by show (i + 1) * 3 = 3 + i * 3; omega, List.drop_length_add_append]
theorem shutI_disk {own : List Bx} {j n c1 : Nat} {c c' e e' : Int} {B : List AV} {L l' : List File} (hc : c = c') (he : e = e') (hL : L = l') (h : own[j]? = some (.cells B [])) (hn : n = l'.length) (h9 : l'.length ≤ 1000000000) (hB : l'.length * 3 ≤ B.length) (ht : B.take (n * 3) = (l'.map eF).flatMap AV.leaves) :
    ShutI own (.tup [.agg [i64 c', .bs j 0 3 n c1], i64 e']) (.tup [eD c L, i64 e]) := by
  subst hc he hL
  unfold ShutI
  simp only [ShutQ, ShutQL]
  refine ⟨_, rfl, _, _, rfl, ⟨_, rfl, _, _, rfl, .inl rfl, _, _, rfl, ?_, rfl⟩, _, _, rfl, .inl rfl, rfl⟩
  exact ⟨B, [], L.map eF, h, rfl, by simp [hn], by omega, by omega, by rw [List.drop_zero]; exact ht, els_F L⟩
theorem shutI_none {own : List Bx} {c c' e e' : Int} {L : List File} (hc : c = c') (he : e = e') (hL : L = []) : ShutI own (.tup [.agg [i64 c', nilv], i64 e']) (.tup [eD c L, i64 e]) := by
  subst hc he hL
  unfold ShutI
  simp only [ShutQ, ShutQL]
  exact ⟨_, rfl, _, _, rfl, ⟨_, rfl, _, _, rfl, .inl rfl, _, _, rfl, .inr ⟨3, 0, by decide, rfl, rfl⟩, rfl⟩, _, _, rfl, .inl rfl, rfl⟩
theorem condT {b : Bool} {A : Prop} (hb : b = true) (h : A) : (bif b then A else False) := by rw [hb]; exact h
theorem laidE_yes {l : List File} {f : File} (h : thereF l f.name = true) : laidE l f = 0 ∧ laidL l f = l.set (posF l f.name) f := by simp [laidE, laidL, h]
theorem laidE_full {l : List File} {f : File} (h : thereF l f.name = false) (hl : l.length = 256) : laidE l f = 22 ∧ laidL l f = [] := by simp [laidE, laidL, h, hl]
theorem laidE_no {l : List File} {f : File} (h : thereF l f.name = false) (hl : ¬ l.length = 256) : laidE l f = 0 ∧ laidL l f = l.take (posF l f.name) ++ f :: l.drop (posF l f.name) := by simp [laidE, laidL, h, hl]
theorem flat_ins (l : List File) (f : File) (i : Nat) (zs : List AV) (hi : i ≤ l.length) : ((l.map eF).flatMap AV.leaves ++ zs).take (i * 3) ++ (eF f).leaves ++ (((l.map eF).flatMap AV.leaves ++ zs).take ((l.map eF).length * 3)).drop (i * 3) = ((l.take i ++ f :: l.drop i).map eF).flatMap AV.leaves := by
  have h1 : ((l.map eF).flatMap AV.leaves ++ zs).take (i * 3) = ((l.take i).map eF).flatMap AV.leaves := by
    rw [List.take_append_of_le_length (by rw [flat_len]; omega), flat_take]
  have h2 : ((l.map eF).flatMap AV.leaves ++ zs).take ((l.map eF).length * 3) = (l.map eF).flatMap AV.leaves := by
    rw [List.length_map, ← flat_len l, List.take_left]
  rw [h1, h2, flat_drop]
  simp
theorem flat_set (l : List File) (f : File) (i : Nat) (zs : List AV) (hi : i < l.length) : (wrL ((l.map eF).flatMap AV.leaves ++ zs) (i * 3) (eF f).leaves).take (l.length * 3) = ((l.set i f).map eF).flatMap AV.leaves := by
  have h1 : ((l.map eF).flatMap AV.leaves ++ zs).take (i * 3) = ((l.take i).map eF).flatMap AV.leaves := by
    rw [List.take_append_of_le_length (by rw [flat_len]; omega), flat_take]
  have h2 : ((l.map eF).flatMap AV.leaves ++ zs).drop (i * 3 + (eF f).leaves.length) = ((l.drop (i + 1)).map eF).flatMap AV.leaves ++ zs := by
    rw [show i * 3 + (eF f).leaves.length = (i + 1) * 3 from by show i * 3 + 3 = _; omega, List.drop_append_of_le_length (by rw [flat_len]; omega), flat_drop]
  unfold wrL
  rw [h1, h2, List.set_eq_take_append_cons_drop, if_pos hi]
  rw [← List.append_assoc, List.take_left']
  · simp
  · simp only [List.length_append, flat_len, List.length_take, List.length_drop]; show _ + 3 + _ = _; omega
theorem nilThere {l : List File} {s : ByteArray} (h0 : l.map eF = []) (h : thereF l s = true) : False := by
  obtain rfl : l = [] := by simpa using h0
  cases h
theorem call_laid : Callable Tryz.prog 95 := ⟨_, Tryz.func95, rfl, by kernel_rfl⟩
theorem c_disk_laid {clock : Int} {l : List File} {f : File} (hl : l.length ≤ 256) (hp : l.Pairwise fun a b => ltS a.name b.name = true) : XPure Tryz.prog 95 [eD clock l, eF f] (.tup [eD (if laidE l f = 0 then clock else 0) (laidL l f), i64 (laidE l f)]) false := by
  refine XPure.bodyS call_laid Tryz.func95 rfl (Nat.le_of_ble_eq_true (by rfl)) (pf_of1 rfl) fun env => ?_
  repeat' ((conv => whnf); (fail_if_success refine zC ?_); first | refine zS ?_ | refine zB (fun h hs => ?_) (fun h hs => ?_) <;> try exact hs.elim | refine .inl ⟨_, _, c_disk_place hl hp, ?_⟩ | (first | (refine XW.drawW (M := 7) (p := 3) (W := [4, 5, 6]) (by kernel_rfl) (by kernel_rfl) ?_) | ((with_reducible show _ ∧ allW _ _); refine ⟨?_, ?_⟩) | exact trivial | (refine wildA_box call_CloneF rfl (els_F _) (fun env => c_CloneFB (by simp; omega) (els_F _) env) (fun h0 => ?_) (fun cp zs k1 k2 k3 k4 => ?_)) | ((with_reducible show (_ ∨ _) ∧ _ ∧ retB _ _ _ _ _); refine ⟨by first | exact .inr rfl | exact .inl rfl, rfl, ?_⟩) | (refine .inr ?_)) | exact zEws | refine zZws ?_ | (refine ⟨?_, ?_, ?_⟩; (first | omega | (have := posF_lt (by assumption); simp only [List.length_map]; omega) | (have := posF_lt (by assumption); simp only [List.length_map, List.length_append, flat_len, k3]; omega)); (first | omega | (have := posF_lt (by assumption); simp only [List.length_map]; omega) | (have := posF_lt (by assumption); simp only [List.length_map, List.length_append, flat_len, k3]; omega))) | (refine ⟨?_, ?_⟩; (first | omega | (have := posF_lt (by assumption); simp only [List.length_map]; omega) | (have := posF_lt (by assumption); simp only [List.length_map, List.length_append, flat_len, k3]; omega))) | fail)
  iterate 6
    first
    | · exact (nilThere h0 (by assumption)).elim
      · obtain ⟨e1, e2⟩ := laidE_full (l := l) (f := f) (by assumption) (by omega)
        conv => whnf
        refine shutI_none ?_ e1 e2
        rw [e1]; rfl
      · obtain ⟨e1, e2⟩ := laidE_no (l := l) (f := f) (by assumption) (by omega)
        obtain rfl : l = [] := by simpa using h0
        conv => whnf
        refine callG_insN (F := (eF f).leaves) rfl rfl rfl (fun B2 c2 q1 q2 q3 q4 => ?_)
        repeat' ((conv => whnf); (fail_if_success refine zC ?_); first | refine zS ?_ | refine zB (fun h hs => ?_) (fun h hs => ?_) <;> try exact hs.elim | ((with_reducible show (_ ∨ _) ∧ _ ∧ retB _ _ _ _ _); refine ⟨by first | exact .inr rfl | exact .inl rfl, rfl, ?_⟩) | exact zEw | refine zZw ?_ | fail)
        conv => whnf
        refine shutI_disk (by rw [e1]; rfl) e1 e2 rfl rfl (by simp) ?_ ?_
        · show 1 * 3 ≤ _; omega
        · exact q4
    | · conv => whnf
        refine condT (Nat.ble_eq_true_of_le (show 0 + posF l f.name * 3 + 3 ≤ ((l.map eF).flatMap AV.leaves ++ zs).length from ?_)) ?_
        · have := posF_lt (l := l) (s := f.name) (by assumption)
          rw [k3]; simp only [List.length_map] at k1; omega
        · obtain ⟨e1, e2⟩ := laidE_yes (l := l) (f := f) (by assumption)
          repeat' ((conv => whnf); (fail_if_success refine zC ?_); first | refine zS ?_ | refine zB (fun h hs => ?_) (fun h hs => ?_) <;> try exact hs.elim | ((with_reducible show (_ ∨ _) ∧ _ ∧ retB _ _ _ _ _); refine ⟨by first | exact .inr rfl | exact .inl rfl, rfl, ?_⟩) | exact zEw | refine zZw ?_ | fail)
          conv => whnf
          refine shutI_disk (by rw [e1]; rfl) e1 e2 rfl (by simp) (by simp; omega) ?_ ?_
          · show (l.set (posF l f.name) f).length * 3 ≤ (wrL ((l.map eF).flatMap AV.leaves ++ zs) (0 + posF l f.name * 3) (eF f).leaves).length
            rw [wrL_len (by have := posF_lt (l := l) (s := f.name) (by assumption); rw [k3]; simp only [List.length_map] at k1; show _ + 3 ≤ _; omega), k3, List.length_set]
            simp only [List.length_map] at k1; omega
          · show (wrL ((l.map eF).flatMap AV.leaves ++ zs) (0 + posF l f.name * 3) (eF f).leaves).take ((l.map eF).length * 3) = _
            rw [Nat.zero_add, List.length_map]
            exact flat_set l f _ zs (posF_lt (by assumption))
      · obtain ⟨e1, e2⟩ := laidE_full (l := l) (f := f) (by assumption) (by omega)
        conv => whnf
        refine shutI_none ?_ e1 e2
        rw [e1]; rfl
      · obtain ⟨e1, e2⟩ := laidE_no (l := l) (f := f) (by assumption) (by omega)
        conv => whnf
        refine callG_ins (B := (l.map eF).flatMap AV.leaves ++ zs) (F := (eF f).leaves) rfl rfl rfl (Nat.ne_of_beq_eq_false rfl) k3 (pfL_append (els_F l).pf k4) rfl k1 (by simp; omega) k2 (by rw [List.length_map]; exact posF_le) (fun B2 c2 q1 q2 q3 q4 => ?_) (fun B2 c2 q1 q2 q3 q4 => ?_)
        all_goals replace q4 := q4.trans (flat_ins l f _ zs posF_le)
        · repeat' ((conv => whnf); (fail_if_success refine zC ?_); first | refine zS ?_ | refine zB (fun h hs => ?_) (fun h hs => ?_) <;> try exact hs.elim | ((with_reducible show (_ ∨ _) ∧ _ ∧ retB _ _ _ _ _); refine ⟨by first | exact .inr rfl | exact .inl rfl, rfl, ?_⟩) | exact zEw | refine zZw ?_ | fail)
          conv => whnf
          refine shutI_disk (by rw [e1]; rfl) e1 e2 rfl ?_ ?_ ?_ q4
          all_goals (simp only [List.length_append, List.length_take, List.length_cons, List.length_drop, List.length_map] at q2 ⊢; have := @posF_le l f.name; omega)
        · repeat' ((conv => whnf); (fail_if_success refine zC ?_); first | refine zS ?_ | refine zB (fun h hs => ?_) (fun h hs => ?_) <;> try exact hs.elim | ((with_reducible show (_ ∨ _) ∧ _ ∧ retB _ _ _ _ _); refine ⟨by first | exact .inr rfl | exact .inl rfl, rfl, ?_⟩) | exact zEw | refine zZw ?_ | fail)
          conv => whnf
          refine shutI_disk (by rw [e1]; rfl) e1 e2 rfl ?_ ?_ ?_ q4
          all_goals (simp only [List.length_append, List.length_take, List.length_cons, List.length_drop, List.length_map] at q2 ⊢; have := @posF_le l f.name; omega)
end Go.Proofs.YtepdiooaoegpfaaGreatDoor.Fx
end
section
/- Files are written. Conditions: those in each statement. -/
namespace Go.Proofs.YtepdiooaoegpfaaGreatDoor.Fx
open Go Go.Proofs Go.Ev Go.RowKit
set_option maxRecDepth 100000
set_option maxHeartbeats 1600000
set_option linter.unusedSimpArgs false
set_option linter.unusedVariables false
/-- A file written: the clock, the files, what is wrong. -/
@[irreducible] def writE (clock : Int) (l : List File) (f : File) : Int := if laidE l f = 0 then if clock = 1099511627776 then 23 else 0 else laidE l f
@[irreducible] def writC (clock : Int) (l : List File) (f : File) : Int := if writE clock l f = 0 then clock + 1 else 0
@[irreducible] def writL (clock : Int) (l : List File) (f : File) : List File := if writE clock l f = 0 then laidL l f else []
theorem leq_disk {c c' e e' : Int} {L : List File} (hc : c = c') (he : e = e') (hL : L = []) : LeqD (.tup [.agg [i64 c, nilv], i64 e]) (.tup [eD c' L, i64 e']) := by
  subst hc he hL
  repeat' (first | exact LeqD.refl _ | exact LeqDL.refl _ | exact LeqD.nil (by decide) | refine LeqDL.cons ?_ ?_ | refine LeqD.agg ?_ | refine LeqD.tup ?_)
theorem leq_disk2 {c c' e e' : Int} {L L' : List File} (hc : c = c') (he : e = e') (hL : L = L') : LeqD (.tup [eD c L, i64 e]) (.tup [eD c' L', i64 e']) := by
  subst hc he hL; exact LeqD.refl _
theorem c_disk_written {clock : Int} {l : List File} {name text : ByteArray} (hc : 0 ≤ clock ∧ clock ≤ 1099511627776) (hl : l.length ≤ 256) (hp : l.Pairwise fun a b => ltS a.name b.name = true) :
    XPure Tryz.prog 72 [eD clock l, str name, str text] (.tup [eD (writC clock l ⟨name, text, clock + 1⟩) (writL clock l ⟨name, text, clock + 1⟩), i64 (writE clock l ⟨name, text, clock + 1⟩)]) false := by
  have hw : IntKind.i64.wrap (clock + 1) = clock + 1 := wrapId (by omega) (by omega)
  refine XPure.bodyN ⟨_, Tryz.func72, rfl, by kernel_rfl⟩ Tryz.func72 rfl (Nat.le_of_ble_eq_true (by rfl)) (pf_of1 rfl) fun env => ?_
  repeat' ((conv => whnf); (fail_if_success refine zC ?_); first | refine zS ?_ | refine zB (fun h hs => ?_) (fun h hs => ?_) <;> try exact hs.elim | refine .inl ⟨_, _, c_disk_laid (f := ⟨name, text, IntKind.i64.wrap (clock + 1)⟩) hl hp, ?_⟩ | exact zElw | refine zZlw ?_ | fail)
  all_goals rw [hw] at *
  · have e : writE clock l ⟨name, text, clock + 1⟩ = laidE l ⟨name, text, clock + 1⟩ := by unfold writE; rw [if_neg hs]
    exact leq_disk (by unfold writC; rw [e, if_neg hs]) e.symm (by unfold writL; rw [e, if_neg hs])
  · have e : writE clock l ⟨name, text, clock + 1⟩ = 23 := by unfold writE; rw [if_pos (by assumption), if_pos hs]
    exact leq_disk (by unfold writC; rw [e]; rfl) e.symm (by unfold writL; rw [e]; rfl)
  · have e : writE clock l ⟨name, text, clock + 1⟩ = 0 := by unfold writE; rw [if_pos (by assumption), if_neg hs]
    have e3 : laidE l ⟨name, text, clock + 1⟩ = 0 := by assumption
    exact leq_disk2 (by unfold writC; rw [e, e3, if_pos rfl, if_pos rfl, wrapId (by omega) (by omega)]) e.symm (by unfold writL; rw [e]; rfl)
theorem okD_clock {clock : Int} {l : List File} (h : okD clock l = true) : 0 ≤ clock ∧ clock ≤ 1099511627776 := by
  simp only [okD, Bool.and_eq_true, decide_eq_true_eq] at h; omega
/-- What is wrong with a write. -/
@[irreducible] def wrE (clock : Int) (l : List File) (name text : ByteArray) : Int := if okD clock l = true then if isName name = true then if 4096 < text.size then 20 else writE clock l ⟨name, text, clock + 1⟩ else 3 else 4
@[irreducible] def wrC (clock : Int) (l : List File) (name text : ByteArray) : Int := if wrE clock l name text = 0 then clock + 1 else 0
@[irreducible] def wrL' (clock : Int) (l : List File) (name text : ByteArray) : List File := if wrE clock l name text = 0 then laidL l ⟨name, text, clock + 1⟩ else []
theorem c_disk_Write {clock : Int} {l : List File} {name text : ByteArray} : XPure Tryz.prog 48 [eD clock l, str name, str text] (.tup [eD (wrC clock l name text) (wrL' clock l name text), i64 (wrE clock l name text)]) false := by
  refine XPure.bodyN ⟨_, Tryz.func48, rfl, by kernel_rfl⟩ Tryz.func48 rfl (Nat.le_of_ble_eq_true (by rfl)) (pf_of1 rfl) fun env => ?_
  repeat' ((conv => whnf); (fail_if_success refine zC ?_); first | refine zS ?_ | refine zB (fun h hs => ?_) (fun h hs => ?_) <;> try exact hs.elim | refine .inl ⟨_, _, c_disk_asked, ?_⟩ | refine .inl ⟨_, _, c_disk_written (okD_clock (asked0 (by assumption)).1) (okD_sorted (asked0 (by assumption)).1).1 (okD_sorted (asked0 (by assumption)).1).2, ?_⟩ | exact zElw | refine zZlw ?_ | fail)
  · have e : wrE clock l name text = bif okD clock l then errIf (isName name) 3 else 4 := by
      unfold wrE
      cases h1 : okD clock l <;> cases h2 : isName name <;> simp_all [errIf]
    have e0 : ¬ wrE clock l name text = 0 := by rw [e]; exact hs
    exact leq_disk (by unfold wrC; rw [if_neg e0]) e.symm (by unfold wrL'; rw [if_neg e0])
  · obtain ⟨q1, q2⟩ := asked0 (by assumption)
    have e : wrE clock l name text = 20 := by unfold wrE; rw [if_pos q1, if_pos q2, if_pos (by omega)]
    exact leq_disk (by unfold wrC; rw [e]; rfl) e.symm (by unfold wrL'; rw [e]; rfl)
  · obtain ⟨q1, q2⟩ := asked0 (by assumption)
    have e : wrE clock l name text = writE clock l ⟨name, text, clock + 1⟩ := by unfold wrE; rw [if_pos q1, if_pos q2, if_neg (by omega)]
    exact leq_disk2 (by unfold wrC writC; rw [e]) e.symm (by unfold wrL' writL; rw [e])
end Go.Proofs.YtepdiooaoegpfaaGreatDoor.Fx
end
section
/- A file is taken out of a row. Conditions: those in each statement. -/
namespace Go.Proofs.YtepdiooaoegpfaaGreatDoor.Fx
open Go Go.Proofs Go.Ev Go.RowKit
set_option maxRecDepth 100000
set_option maxHeartbeats 1600000
set_option linter.unusedSimpArgs false
set_option linter.unusedVariables false
/-- What a row comes to of which a file is taken out: its own box, with the files behind moved. -/
@[irreducible] def DelR (q n i cp : Nat) (B : List AV) (env : List Bx) (r : AV) (ow : Bool) (env' : List Bx) : Prop :=
  ow = false ∧ ∃ B', pfL B' = true ∧ B'.length = B.length ∧ B'.take ((n - 1) * 3) = B.take (i * 3) ++ (B.take (n * 3)).drop ((i + 1) * 3) ∧ r = .xs q 0 3 (n - 1) cp ∧ env' = env.set q (.cells B' [])
theorem DelR.mk {q n i cp m : Nat} {B B' : List AV} {env : List Bx} (h1 : pfL B' = true) (h2 : B'.length = B.length) (h3 : B'.take ((n - 1) * 3) = B.take (i * 3) ++ (B.take (n * 3)).drop ((i + 1) * 3)) (hm : m = n - 1) :
    DelR q n i cp B env (.xs q 0 3 m cp) false (env.set q (.cells B' []) ++ []) := by
  unfold DelR
  exact ⟨rfl, B', h1, h2, h3, by rw [hm], by simp⟩
theorem delTake {B Z : List AV} {n i o : Nat} (hB : n * 3 ≤ B.length) (hi : i < n) (ho : o = (i + 1) * 3 ∨ n = i + 1) :
    (wrL (wrL B (i * 3) ((B.drop o).take ((n - (i + 1)) * 3))) ((n - 1) * 3) Z).take ((n - 1) * 3) = B.take (i * 3) ++ (B.take (n * 3)).drop ((i + 1) * 3) := by
  have hX : (B.drop o).take ((n - (i + 1)) * 3) = (B.take (n * 3)).drop ((i + 1) * 3) := by
    rcases ho with rfl | h
    · rw [List.drop_take]; congr 1; omega
    · have e1 : n - (i + 1) = 0 := by omega
      have e2 : (B.take (n * 3)).drop ((i + 1) * 3) = [] := List.drop_eq_nil_of_le (by rw [List.length_take]; omega)
      rw [e1, e2]; simp
  rw [hX]
  have hXl : ((B.take (n * 3)).drop ((i + 1) * 3)).length = (n - (i + 1)) * 3 := by simp only [List.length_take, List.length_drop]; omega
  have h1 : (wrL B (i * 3) ((B.take (n * 3)).drop ((i + 1) * 3))).take ((n - 1) * 3) = B.take (i * 3) ++ (B.take (n * 3)).drop ((i + 1) * 3) := by
    unfold wrL
    exact List.take_left' (by simp only [List.length_append, hXl, List.length_take]; omega)
  show (List.take _ (wrL B _ _) ++ Z ++ _).take _ = _
  rw [h1, List.append_assoc]
  exact List.take_left' (by simp only [List.length_append, hXl, List.length_take]; omega)
theorem c_DeleteB {q n cp i : Nat} {B : List AV} {env : List Bx} (h1 : env[q]? = some (.cells B [])) (hB : B.length = cp * 3) (pB : pfL B = true) (hn : n ≤ cp) (hn9 : n ≤ 1000000000) (hc : cp ≤ 9223372036854775807) (hi : i < n) :
    XCalls Tryz.prog 74 [.xs q 0 3 n cp, i64 i, i64 ((i + 1 : Nat) : Int)] env (DelR q n i cp B env) := by
  have hq0 : ((i : Int) == ((i + 1 : Nat) : Int)) = false := beq_eq_false_iff_ne.2 (by omega)
  refine XCalls.bodyB Tryz.func74 rfl (Nat.le_of_ble_eq_true (by rfl)) ?_
  iterate 40 any_goals try ((conv => whnf); (fail_if_success refine zC ?_); first | refine zS ?_ | refine zB (fun h hs => ?_) (fun h hs => ?_) <;> try exact hs.elim | refine XW.dr (m := 6) ?_ | (first | rw [h1] | (refine ⟨.inr (by first | exact pfL_take _ pB), ?_⟩)) | exact zEs | refine zZs ?_ | (refine ⟨?_, ?_, ?_⟩; ((try dsimp only); first | omega | (simp only [List.length_append, List.length_take, List.length_drop]; omega) | exact .inr (pfL_take _ pB)); ((try dsimp only); first | omega | (simp only [List.length_append, List.length_take, List.length_drop]; omega) | exact .inr (pfL_take _ pB))) | (refine ⟨?_, ?_⟩; ((try dsimp only); first | omega | (simp only [List.length_append, List.length_take, List.length_drop]; omega) | exact .inr (pfL_take _ pB))) | fail)
  conv => whnf
  have hb0 : Nat.beq cp 0 = false := by rw [← Bool.not_eq_true]; intro h; have := Nat.eq_of_beq_eq_true h; omega
  have hql : q < env.length := (List.getElem?_eq_some_iff.1 h1).1
  have hset : ∀ x, (env.set q x)[q]? = some x := fun x => List.getElem?_set_self hql
  have ht : ((i + 1 : Nat) : Int).toNat = i + 1 := rfl
  rw [ht]
  obtain ⟨o, ho, ho1, ho2⟩ : ∃ o, (bif Nat.beq cp (i + 1) then 0 else 0 + (i + 1) * 3) = o ∧ o ≤ (i + 1) * 3 ∧ (o = (i + 1) * 3 ∨ n = i + 1) := by
    cases hb : Nat.beq cp (i + 1) with
    | true => exact ⟨_, rfl, Nat.zero_le _, .inr (by have := Nat.eq_of_beq_eq_true hb; omega)⟩
    | false => exact ⟨_, rfl, by simp, .inl (by simp)⟩
  refine ⟨by show (bif Nat.beq cp (i + 1) then 0 else 0 + (i + 1) * 3) + (n - (i + 1)) * 3 ≤ B.length; rw [ho]; omega, ?_⟩
  conv => whnf
  refine ⟨by show (i + (n - (i + 1))) * 40 ≤ _; omega, by show i + (n - (i + 1)) ≤ _; omega, by show (bif Nat.beq cp 0 then 0 else 0 + 0 * 3) + (cp - 0) * 3 ≤ B.length; rw [hb0]; simp only [cond_false]; omega, .inr (pfL_take _ (pfL_drop _ pB)), fun hle => ?_, fun hgt c' k1 k2 => by omega⟩
  iterate 8 any_goals try ((conv => whnf); (fail_if_success refine zC ?_); first | refine zS ?_ | refine zB (fun h hs => ?_) (fun h hs => ?_) <;> try exact hs.elim | exact zEw | refine zZw ?_ | fail)
  conv => whnf
  rw [hset]
  conv => whnf
  have hbe : Nat.beq cp (i + (n - (i + 1))) = false := by rw [← Bool.not_eq_true]; intro h; have := Nat.eq_of_beq_eq_true h; omega
  have hm : ((i : Int) + ((n - (i + 1) : Nat) : Int)).toNat = i + (n - (i + 1)) := rfl
  refine ⟨?_, ?_, .inr (pfL_rep rfl _), ?_⟩
  · show 0 < n - (i + (n - (i + 1))); omega
  · simp only [s41, co41, hb0, hbe, cond_false, toNat_i, hm, Nat.sub_zero, Nat.zero_add, Nat.zero_mul, repLen, wrL_len', List.length_take, List.length_drop, hB, zl41]
    have ho' : (bif Nat.beq cp (i + 1) then 0 else (i + 1) * 3) = o := by rw [← ho, Nat.zero_add]
    rw [ho']; omega
  · repeat' ((conv => whnf); (fail_if_success refine zC ?_); first | refine zS ?_ | refine zB (fun h hs => ?_) (fun h hs => ?_) <;> try exact hs.elim | exact zEw | refine zZw ?_ | fail)
    conv => whnf
    refine ⟨.inr rfl, by simp only [List.length_set], ?_⟩
    conv => whnf
    rw [hb0, List.set_set]
    have hZ : ∀ Z : List AV, (wrL (wrL B (i * 3) ((B.drop o).take ((n - (i + 1)) * 3))) ((i + (n - (i + 1))) * 3) Z).take ((n - 1) * 3) = B.take (i * 3) ++ (B.take (n * 3)).drop ((i + 1) * 3) := fun Z => by
      rw [show i + (n - (i + 1)) = n - 1 from by omega]; exact delTake (by omega) hi ho2
    have ho' : (bif Nat.beq cp (i + 1) then 0 else (i + 1) * 3) = o := by rw [← ho, Nat.zero_add]
    refine DelR.mk (m := i + (n - (i + 1))) ?_ ?_ ?_ (by omega)
    all_goals simp only [s41, co41, hb0, hbe, cond_false, toNat_i, hm, ho', Nat.sub_zero, Nat.zero_add, Nat.zero_mul]
    · exact pfL_wrL (pfL_wrL pB (pfL_take _ (pfL_drop _ pB))) (pfL_rep rfl _)
    · simp only [wrL_len', List.length_take, List.length_drop, hB, repLen, zl41]; omega
    · exact hZ _
end Go.Proofs.YtepdiooaoegpfaaGreatDoor.Fx
end
section
/- Files are touched, and taken away. Conditions: those in each statement. -/
namespace Go.Proofs.YtepdiooaoegpfaaGreatDoor.Fx
open Go Go.Proofs Go.Ev Go.RowKit
set_option maxRecDepth 100000
set_option maxHeartbeats 1600000
set_option linter.unusedSimpArgs false
set_option linter.unusedVariables false
/-- What a file says that is touched. -/
def textF (l : List File) (s : ByteArray) : ByteArray := if thereF l s = true then (l.getD (posF l s) File.none).text else .empty
/-- What is wrong with a touch. -/
@[irreducible] def tcE (clock : Int) (l : List File) (name : ByteArray) : Int := if okD clock l = true then if isName name = true then writE clock l ⟨name, textF l name, clock + 1⟩ else 3 else 4
@[irreducible] def tcC (clock : Int) (l : List File) (name : ByteArray) : Int := if tcE clock l name = 0 then clock + 1 else 0
@[irreducible] def tcL (clock : Int) (l : List File) (name : ByteArray) : List File := if tcE clock l name = 0 then laidL l ⟨name, textF l name, clock + 1⟩ else []
theorem c_disk_Touch {clock : Int} {l : List File} {name : ByteArray} : XPure Tryz.prog 50 [eD clock l, str name] (.tup [eD (tcC clock l name) (tcL clock l name), i64 (tcE clock l name)]) false := by
  have yes : ∀ t, okD clock l = true → isName name = true → textF l name = t → tcE clock l name = writE clock l ⟨name, t, clock + 1⟩ := fun t h1 h2 h3 => by unfold tcE; rw [if_pos h1, if_pos h2, h3]
  refine XPure.bodyN ⟨_, Tryz.func50, rfl, by kernel_rfl⟩ Tryz.func50 rfl (Nat.le_of_ble_eq_true (by rfl)) (pf_of1 rfl) fun env => ?_
  repeat' ((conv => whnf); (fail_if_success refine zC ?_); first | refine zS ?_ | refine zB (fun h hs => ?_) (fun h hs => ?_) <;> try exact hs.elim | refine .inl ⟨_, _, c_disk_asked, ?_⟩ | refine .inl ⟨_, _, c_disk_place (okD_sorted (asked0 (by assumption)).1).1 (okD_sorted (asked0 (by assumption)).1).2, ?_⟩ | refine .inl ⟨_, _, c_disk_written (okD_clock (asked0 (by assumption)).1) (okD_sorted (asked0 (by assumption)).1).1 (okD_sorted (asked0 (by assumption)).1).2, ?_⟩ | (rw [getD_mapI File.none (posF_lt (by assumption))]) | exact zElws | refine zZlws ?_ | (refine ⟨?_, ?_, ?_⟩; (first | omega | (have := posF_lt (by assumption); simp only [List.length_map]; omega)); (first | omega | (have := posF_lt (by assumption); simp only [List.length_map]; omega))) | (refine ⟨?_, ?_⟩; (first | omega | (have := posF_lt (by assumption); simp only [List.length_map]; omega))) | fail)
  · have e : tcE clock l name = bif okD clock l then errIf (isName name) 3 else 4 := by
      unfold tcE
      cases h1 : okD clock l <;> cases h2 : isName name <;> simp_all [errIf]
    have e0 : ¬ tcE clock l name = 0 := by rw [e]; exact hs
    exact leq_disk (by unfold tcC; rw [if_neg e0]) e.symm (by unfold tcL; rw [if_neg e0])
  · obtain ⟨q1, q2⟩ := asked0 (by assumption)
    have e := yes _ q1 q2 (show textF l name = (l.getD (posF l name) File.none).text from by unfold textF; rw [if_pos hs])
    have e3 : textF l name = (l.getD (posF l name) File.none).text := by unfold textF; rw [if_pos hs]
    exact leq_disk2 (by unfold tcC writC; rw [e]) e.symm (by unfold tcL writL; rw [e, e3])
  · obtain ⟨q1, q2⟩ := asked0 (by assumption)
    have e3 : textF l name = .empty := by unfold textF; rw [if_neg (by rw [hs]; simp)]
    have e := yes _ q1 q2 e3
    exact leq_disk2 (by unfold tcC writC; rw [e]; rfl) e.symm (by unfold tcL writL; rw [e, e3]; rfl)
def cutL (l : List File) (s : ByteArray) : List File := l.take (posF l s) ++ l.drop (posF l s + 1)
/-- What is wrong with taking a file away. -/
@[irreducible] def rmE (clock : Int) (l : List File) (name : ByteArray) : Int := if okD clock l = true then if isName name = true then if thereF l name = true then 0 else 21 else 3 else 4
@[irreducible] def rmC (clock : Int) (l : List File) (name : ByteArray) : Int := if rmE clock l name = 0 then clock else 0
@[irreducible] def rmL (clock : Int) (l : List File) (name : ByteArray) : List File := if rmE clock l name = 0 then cutL l name else []
theorem flat_cut (l : List File) (i : Nat) (zs : List AV) (hi : i < l.length) : ((l.map eF).flatMap AV.leaves ++ zs).take (i * 3) ++ (((l.map eF).flatMap AV.leaves ++ zs).take ((l.map eF).length * 3)).drop ((i + 1) * 3) = ((l.take i ++ l.drop (i + 1)).map eF).flatMap AV.leaves := by
  have h1 : ((l.map eF).flatMap AV.leaves ++ zs).take (i * 3) = ((l.take i).map eF).flatMap AV.leaves := by
    rw [List.take_append_of_le_length (by rw [flat_len]; omega), flat_take]
  have h2 : ((l.map eF).flatMap AV.leaves ++ zs).take ((l.map eF).length * 3) = (l.map eF).flatMap AV.leaves := by
    rw [List.length_map, ← flat_len l, List.take_left]
  rw [h1, h2, flat_drop]
  simp
theorem call_Delete : Callable Tryz.prog 74 := ⟨_, Tryz.func74, rfl, by kernel_rfl⟩
/-- Taking a file out of a row of its own, in a region that draws its order. -/
theorem wildA_del {c : Cfg} {K : AV → List Bx → Prop} {p j n cp i : Nat} {e : Int} {B : List AV} (he : e = ((i + 1 : Nat) : Int)) (h1 : c.own[j]? = some (.cells B [])) (hp : p ≤ j) (hB : B.length = cp * 3) (pB : pfL B = true) (hn : n ≤ cp) (hn9 : n ≤ 1000000000) (hc : cp ≤ 9223372036854775807) (hi : i < n)
    (k : ∀ B', pfL B' = true → B'.length = B.length → B'.take ((n - 1) * 3) = B.take (i * 3) ++ (B.take (n * 3)).drop ((i + 1) * 3) → K (.bs j 0 3 (n - 1) cp) (c.own.set j (.cells B' []))) :
    Callable Tryz.prog 74 ∧ ∃ R, XCalls Tryz.prog 74 ([AV.bs j 0 3 n cp, i64 i, i64 e].map (AV.up c.env.length)) ((c.env ++ c.own).map (Bx.up c.env.length)) R ∧
      ((∀ x ∈ c.env, Bx.cl c.env.length 0 x) → (∀ x ∈ c.env ++ c.own, Bx.cl c.env.length c.own.length x) → ∀ r ow env', R r ow env' → ∃ v own', r = AV.up c.env.length v ∧ env' = (c.env ++ own').map (Bx.up c.env.length) ∧ v.cl c.env.length own'.length ∧ (∀ x ∈ c.env ++ own', Bx.cl c.env.length own'.length x) ∧ ((∃ new, own' = c.own ++ new) ∨ ∃ i x, p ≤ i ∧ own' = c.own.set i x) ∧ K v own') := by
  subst he
  have hbox : ((c.env ++ c.own).map (Bx.up c.env.length))[c.env.length + j]? = some (.cells B []) := by
    rw [List.getElem?_map, List.getElem?_append_right (by omega), show c.env.length + j - c.env.length = j from by omega, h1]
    simp only [Option.map_some, Bx.up, upL_pf _ _ pB]
  refine ⟨call_Delete, _, c_DeleteB (q := c.env.length + j) hbox hB pB hn hn9 hc hi, fun hE hA r ow env' hR => ?_⟩
  unfold DelR at hR
  obtain ⟨rfl, B', q1, q2, q3, rfl, rfl⟩ := hR
  refine ⟨.bs j 0 3 (n - 1) cp, c.own.set j (.cells B' []), rfl, ?_, ?_, own_cl hA q1, .inr ⟨j, _, hp, rfl⟩, k B' q1 q2 q3⟩
  · rw [List.map_append, List.map_append, List.set_append_right _ _ (by simp), List.length_map, show c.env.length + j - c.env.length = j from by omega, List.map_set]
    simp only [Bx.up, upL_pf _ _ q1]
  · simp only [AV.cl, List.length_set]; exact (List.getElem?_eq_some_iff.1 h1).1
theorem call_Remove : Callable Tryz.prog 51 := ⟨_, Tryz.func51, rfl, by kernel_rfl⟩
theorem c_disk_Remove {clock : Int} {l : List File} {name : ByteArray} : XPure Tryz.prog 51 [eD clock l, str name] (.tup [eD (rmC clock l name) (rmL clock l name), i64 (rmE clock l name)]) false := by
  refine XPure.bodyS call_Remove Tryz.func51 rfl (Nat.le_of_ble_eq_true (by rfl)) (pf_of1 rfl) fun env => ?_
  have hwp : l.length ≤ 256 → thereF l name = true → IntKind.i64.wrap ((posF l name : Int) + 1) = ((posF l name + 1 : Nat) : Int) := fun hl h => by have := posF_lt h; rw [wrapId (by omega) (by omega)]; omega
  repeat' ((conv => whnf); (fail_if_success refine zC ?_); first | refine zS ?_ | refine zB (fun h hs => ?_) (fun h hs => ?_) <;> try exact hs.elim | refine .inl ⟨_, _, c_disk_asked, ?_⟩ | refine .inl ⟨_, _, c_disk_place (okD_sorted (asked0 (by assumption)).1).1 (okD_sorted (asked0 (by assumption)).1).2, ?_⟩ | refine ⟨_, _, c_disk_asked, ?_⟩ | refine ⟨_, _, c_disk_place (okD_sorted (asked0 (by assumption)).1).1 (okD_sorted (asked0 (by assumption)).1).2, ?_⟩ | (first | (refine XW.drawW (id := 7) (M := 9) (p := 2) (W := [4, 8]) (by kernel_rfl) (by kernel_rfl) ?_) | ((with_reducible show _ ∧ allW _ _); refine ⟨?_, ?_⟩) | exact trivial | (refine wildA_box call_CloneF rfl (els_F _) (fun env => c_CloneFB (by have := (okD_sorted (asked0 (by assumption)).1).1; simp; omega) (els_F _) env) (fun h0 => ?_) (fun cp zs k1 k2 k3 k4 => ?_)) | ((with_reducible show (_ ∨ _) ∧ _ ∧ retB _ _ _ _ _); refine ⟨by first | exact .inr rfl | exact .inl rfl, rfl, ?_⟩)) | exact zElw | refine zZlw ?_ | fail)
  · have e : rmE clock l name = bif okD clock l then errIf (isName name) 3 else 4 := by
      unfold rmE
      cases h1 : okD clock l <;> cases h2 : isName name <;> simp_all [errIf]
    have e0 : ¬ rmE clock l name = 0 := by rw [e]; exact hs
    conv => whnf
    exact shutI_none (by unfold rmC; rw [if_neg e0]) e (by unfold rmL; rw [if_neg e0])
  · obtain ⟨q1, q2⟩ := asked0 (by assumption)
    have e : rmE clock l name = 21 := by unfold rmE; rw [if_pos q1, if_pos q2, if_neg (by rw [hs]; simp)]
    conv => whnf
    exact shutI_none (by unfold rmC; rw [e]; rfl) e (by unfold rmL; rw [e]; rfl)
  · exact (nilThere h0 hs).elim
  · obtain ⟨q1, q2⟩ := asked0 (by assumption)
    have e : rmE clock l name = 0 := by unfold rmE; rw [if_pos q1, if_pos q2, if_pos hs]
    have hl := (okD_sorted q1).1
    have hlt := posF_lt hs
    conv => whnf
    refine wildA_del (B := (l.map eF).flatMap AV.leaves ++ zs) (hwp hl hs) rfl (Nat.le_of_ble_eq_true rfl) k3 (pfL_append (els_F l).pf k4) k1 (by simp; omega) k2 (by rw [List.length_map]; exact hlt) (fun B2 p1 p2 p3 => ?_)
    repeat' ((conv => whnf); (fail_if_success refine zC ?_); first | refine zS ?_ | refine zB (fun h hs => ?_) (fun h hs => ?_) <;> try exact hs.elim | ((with_reducible show (_ ∨ _) ∧ _ ∧ retB _ _ _ _ _); refine ⟨by first | exact .inr rfl | exact .inl rfl, rfl, ?_⟩) | exact zEw | refine zZw ?_ | fail)
    conv => whnf
    have hc : (cutL l name).length = l.length - 1 := by unfold cutL; simp only [List.length_append, List.length_take, List.length_drop]; omega
    refine shutI_disk (l' := cutL l name) (by unfold rmC; rw [e]; rfl) e (by unfold rmL; rw [e]; rfl) rfl (by rw [hc, List.length_map]) (by omega) ?_ ?_
    · rw [p2, k3, hc]; rw [List.length_map] at k1; omega
    · exact p3.trans (flat_cut l _ zs hlt)
end Go.Proofs.YtepdiooaoegpfaaGreatDoor.Fx
end
section
/- Where one of some bytes stands; quoted words; texts joined. Conditions: those in each statement. -/
namespace Go.Proofs.YtepdiooaoegpfaaGreatDoor.Fx
open Go Go.Proofs Go.Ev Go.RowKit Go.Proofs.YtepdiooaoegpfaaGreatDoor.Sup
set_option maxRecDepth 100000
set_option maxHeartbeats 1600000
set_option linter.unusedSimpArgs false
set_option linter.unusedVariables false
def asciiS (s : ByteArray) : Bool := s.data.toList.all fun b => decide (b.toNat < 128)
theorem c_IndexAny {s cs : ByteArray} (h2 : 2 ≤ cs.size) (h3 : cs.size < 4294967281) (hs : s.size ≤ 140737488351232) (ha : asciiS cs = true) : XPure Tryz.prog 86 [str s, str cs] (i64 (Lib.indexAny s.data.toList cs.data.toList)) false :=
  XPure.ofCalls (l := [.string s, .string cs]) ⟨_, Tryz.func86, rfl, by kernel_rfl⟩ rfl (fun w => by
    have h5 : ∀ b ∈ cs.data.toList, b.toNat < 128 := fun b hb => of_decide_eq_true (List.all_eq_true.1 ha b hb)
    by_cases h8 : s.size ≤ 8
    · exact IndexAny_short s cs w h2 (by omega) h8 (fun j hj => h5 _ (List.mem_of_getElem? (Lib.data_getElem? cs j hj)))
    · exact IndexAny_long s cs w h2 (by omega) hs h3 (fun j b hb => h5 b (List.mem_of_getElem? hb))) fun _ _ _ _ => rep_v_mk rfl
theorem c_ContainsAny {s cs : ByteArray} (h2 : 2 ≤ cs.size) (h3 : cs.size < 4294967281) (hs : s.size ≤ 140737488351232) (ha : asciiS cs = true) : XPure Tryz.prog 87 [str s, str cs] (bln (decide (0 ≤ Lib.indexAny s.data.toList cs.data.toList))) false := by
  refine XPure.body ⟨_, Tryz.func87, rfl, by kernel_rfl⟩ Tryz.func87 rfl (Nat.le_of_ble_eq_true (by rfl)) (pf_of1 rfl) fun env => ?_
  repeat' ((conv => whnf); (fail_if_success refine zC ?_); first | refine zS ?_ | refine zB (fun h hs => ?_) (fun h hs => ?_) <;> try exact hs.elim | refine .inl ⟨_, _, c_IndexAny h2 h3 hs ha, ?_⟩ | exact zE | refine zZ ?_ | fail)
theorem c_lex_quoted {s : ByteArray} {i : Nat} (hi : i < s.size) (hs : s.size ≤ 140737488351232) : XPure Tryz.prog 85 [str s, i64 i] (.tup [str (qW (lexq (s.data.toList.drop (i + 1)) [] (i + 1))), i64 (qP (lexq (s.data.toList.drop (i + 1)) [] (i + 1))), bln (qB (lexq (s.data.toList.drop (i + 1)) [] (i + 1)))]) false :=
  XPure.ofCalls (l := [.string s, .int .i64 i]) ⟨_, Tryz.func85, rfl, by kernel_rfl⟩ rfl (fun w => quoted_walk s i w hi hs) fun w hw bs base => by
    refine ⟨_, rfl, ?_⟩
    simp only [RepT]
    exact ⟨_, _, rfl, rep1_of rfl (rep_v_mk rfl), _, _, rfl, rep1_of rfl (rep_v_mk rfl), _, _, rfl, rep1_of rfl (rep_v_mk rfl), rfl⟩
theorem lexq_at : ∀ (l acc : List UInt8) (p : Nat) (w : List UInt8) (q : Nat), lexq l acc p = some (w, q) → p < q ∧ q ≤ p + l.length
  | [], _, _, _, _, h => by simp [lexq] at h
  | [c], acc, p, w, q, h => by
    rw [lexq_cons] at h
    split at h
    · cases h; simp
    · split at h
      · cases h
      · split at h
        · cases h
        · simp [lexq] at h
  | c :: d :: t, acc, p, w, q, h => by
    rw [lexq_cons] at h
    simp only at h
    split at h
    · cases h; simp
    · split at h
      · cases h
      · split at h
        · split at h
          · have := lexq_at _ _ _ _ _ h; simp only [List.length_cons]; omega
          · split at h
            · have := lexq_at _ _ _ _ _ h; simp only [List.length_cons]; omega
            · split at h
              · have := lexq_at _ _ _ _ _ h; simp only [List.length_cons]; omega
              · cases h
        · have := lexq_at _ _ _ _ _ h; simp only [List.length_cons] at this ⊢; omega
theorem indexAny_lt (cs : List UInt8) : ∀ l : List UInt8, Lib.indexAny l cs < l.length ∨ (l = [] ∧ Lib.indexAny l cs = -1)
  | [] => .inr ⟨rfl, rfl⟩
  | b :: l => by
    left
    simp only [Lib.indexAny, List.length_cons]
    have ih := indexAny_lt cs l
    have ge := Lib.indexAny_ge cs l
    split
    · omega
    · split
      · omega
      · rcases ih with h | ⟨rfl, h⟩
        · omega
        · rename_i hne; rw [h] at hne; simp at hne
theorem indexAny_pos {b : UInt8} {l cs : List UInt8} (h : cs.contains b = false) : Lib.indexAny (b :: l) cs ≠ 0 := by
  simp only [Lib.indexAny, h, Bool.false_eq_true, if_false]
  have ge := Lib.indexAny_ge cs l
  split
  · omega
  · rename_i hne; simp only [beq_iff_eq] at hne; omega
theorem size_ext {s : ByteArray} {i j : Nat} (hj : j ≤ s.size) : (s.extract i j).size = j - i := by rw [ByteArray.size_extract]; omega
theorem len_data (s : ByteArray) : s.data.toList.length = s.size := by simp
theorem ext_head {s : ByteArray} {i : Nat} (hi : i < s.size) : ∃ t, (s.extract i s.size).data.toList = byteAt s i :: t := by
  have h' : i < s.data.toList.length := by simpa using hi
  refine ⟨s.data.toList.drop (i + 1), ?_⟩
  rw [ByteArray.data_extract, Array.toList_extract, List.extract_eq_take_drop]
  rw [List.take_of_length_le (by simp), List.drop_eq_getElem_cons h']
  congr 1
  unfold byteAt
  rw [List.getD_eq_getElem?_getD, List.getElem?_eq_getElem h']; rfl
def blankB (c : UInt8) : Bool := ((c.toNat : Int) == 32) || ((c.toNat : Int) == 9)
/-- Words of a line from a place on, behind those that are read; none: a fault. -/
def wordsF : Nat → ByteArray → Nat → List ByteArray → Option (List ByteArray)
  | 0, _, _, out => some out
  | k + 1, s, i, out =>
    if i < s.size then
      if blankB (byteAt s i) = true then wordsF k s (i + 1) out
      else if byteAt s i = 34 then
        match lexq (s.data.toList.drop (i + 1)) [] (i + 1) with
        | none => none
        | some (w, q) => if q < s.size ∧ blankB (byteAt s q) = false then none else wordsF k s q (out ++ [⟨w.toArray⟩])
      else
        let n := if Lib.indexAny (s.extract i s.size).data.toList [32, 9] < 0 then s.size - i else (Lib.indexAny (s.extract i s.size).data.toList [32, 9]).toNat
        if 0 ≤ Lib.indexAny (s.extract i (i + n)).data.toList [34, 10] then none else wordsF k s (i + n) (out ++ [s.extract i (i + n)])
    else some out
def wordsL (s : ByteArray) : Option (List ByteArray) := wordsF (s.size + 1) s 0 []
@[irreducible] def wordsE (s : ByteArray) : Int := if 65536 < s.size then 2 else if (wordsL s).isSome = true then 0 else 150
@[irreducible] def wordsV (s : ByteArray) : List ByteArray := if 65536 < s.size then [] else (wordsL s).getD []
theorem words_bad {s : ByteArray} (hz : s.size ≤ 65536) (h : wordsL s = none) : LeqD (.tup [nilv, i64 150]) (.tup [eS (wordsV s), i64 (wordsE s)]) := by
  have e1 : wordsE s = 150 := by unfold wordsE; rw [if_neg (by omega), h]; rfl
  have e2 : wordsV s = [] := by unfold wordsV; rw [if_neg (by omega), h]; rfl
  rw [e1, e2]
  repeat' (first | exact LeqD.refl _ | exact LeqDL.refl _ | exact LeqD.nil (by decide) | refine LeqDL.cons ?_ ?_ | refine LeqD.tup ?_)
theorem words_good {s : ByteArray} {o : List ByteArray} (hz : s.size ≤ 65536) (h : wordsL s = some o) : LeqD (.tup [eS o, i64 0]) (.tup [eS (wordsV s), i64 (wordsE s)]) := by
  have e1 : wordsE s = 0 := by unfold wordsE; rw [if_neg (by omega), h]; rfl
  have e2 : wordsV s = o := by unfold wordsV; rw [if_neg (by omega), h]; rfl
  rw [e1, e2]; exact LeqD.refl _
theorem words_long {s : ByteArray} (hz : 65536 < s.size) : LeqD (.tup [nilv, i64 2]) (.tup [eS (wordsV s), i64 (wordsE s)]) := by
  have e1 : wordsE s = 2 := by unfold wordsE; rw [if_pos hz]
  have e2 : wordsV s = [] := by unfold wordsV; rw [if_pos hz]
  rw [e1, e2]
  repeat' (first | exact LeqD.refl _ | exact LeqDL.refl _ | exact LeqD.nil (by decide) | refine LeqDL.cons ?_ ?_ | refine LeqD.tup ?_)
theorem blankB_yes {s : ByteArray} {i : Nat} (h : ((byteAt s i).toNat : Int) = 32 ∨ ((byteAt s i).toNat : Int) = 9) : blankB (byteAt s i) = true := by simp only [blankB, Bool.or_eq_true, beq_iff_eq]; exact h
theorem blankB_no {s : ByteArray} {i : Nat} (h : ¬ ((byteAt s i).toNat : Int) = 32 ∧ ¬ ((byteAt s i).toNat : Int) = 9) : blankB (byteAt s i) = false := by simp only [blankB, Bool.or_eq_false_iff, beq_eq_false_iff_ne]; exact h
theorem u8_yes {c : UInt8} (h : (c.toNat : Int) = 34) : c = 34 := UInt8.toNat_inj.1 (by simpa using (by omega : c.toNat = 34))
theorem u8_no {c : UInt8} (h : ¬ (c.toNat : Int) = 34) : ¬ c = 34 := fun e => h (by rw [e]; rfl)
/-- A place at which no blank and no quote stands. -/
theorem wordsF_plain {k : Nat} {s : ByteArray} {i : Nat} {out : List ByteArray} {r : Int} {n : Nat} (hi : i < s.size) (h1 : blankB (byteAt s i) = false) (h2 : ¬ byteAt s i = 34) (hr : Lib.indexAny (s.extract i s.size).data.toList [32, 9] = r) (hn : (if r < 0 then s.size - i else r.toNat) = n) :
    wordsF (k + 1) s i out = if 0 ≤ Lib.indexAny (s.extract i (i + n)).data.toList [34, 10] then none else wordsF k s (i + n) (out ++ [s.extract i (i + n)]) := by
  rw [wordsF, if_pos hi, if_neg (by rw [h1]; simp), if_neg h2]
  simp only [hr, hn]
theorem wordsF_q0 {k : Nat} {s : ByteArray} {i : Nat} {out : List ByteArray} (hi : i < s.size) (h1 : blankB (byteAt s i) = false) (h2 : byteAt s i = 34) (hR : lexq (s.data.toList.drop (i + 1)) [] (i + 1) = none) : wordsF (k + 1) s i out = none := by
  rw [wordsF, if_pos hi, if_neg (by rw [h1]; simp), if_pos h2]
  simp only [hR]
theorem wordsF_q1 {k : Nat} {s : ByteArray} {i : Nat} {out : List ByteArray} {w : List UInt8} {q : Nat} (hi : i < s.size) (h1 : blankB (byteAt s i) = false) (h2 : byteAt s i = 34) (hR : lexq (s.data.toList.drop (i + 1)) [] (i + 1) = some (w, q)) :
    wordsF (k + 1) s i out = if q < s.size ∧ blankB (byteAt s q) = false then none else wordsF k s q (out ++ [⟨w.toArray⟩]) := by
  rw [wordsF, if_pos hi, if_neg (by rw [h1]; simp), if_pos h2]
  simp only [hR]
theorem c_lex_Words {s : ByteArray} : XPure Tryz.prog 66 [str s] (.tup [eS (wordsV s), i64 (wordsE s)]) false := by
  refine XPure.bodyN ⟨_, Tryz.func66, rfl, by kernel_rfl⟩ Tryz.func66 rfl (Nat.le_of_ble_eq_true (by rfl)) (pf_of1 rfl) fun env => ?_
  repeat' ((conv => whnf); (fail_if_success refine zC ?_); first | refine zS ?_ | refine zB (fun h hs => ?_) (fun h hs => ?_) <;> try exact hs.elim | exact zElw | refine zZlw ?_ | fail)
  · exact words_long (by omega)
  refine XW.overL [0] (fun (p : Nat × List ByteArray) => [(4, eS p.2), (5, i64 p.1)]) (fun _ => [4]) (fun _ => []) (fun p => p.1 ≤ s.size ∧ p.2.length ≤ p.1 ∧ ∃ k, s.size + 1 ≤ p.1 + k ∧ wordsF k s p.1 p.2 = wordsL s) (fun p => s.size - p.1) (0, []) Weak.go ⟨Nat.zero_le _, Nat.zero_le _, s.size + 1, by omega, rfl⟩ ?_
  rintro ⟨i, out⟩ ⟨hi, ho, k, hk, hA⟩
  dsimp only at hi ho hk hA ⊢
  obtain ⟨k, rfl⟩ : ∃ k', k = k' + 1 := ⟨k - 1, by omega⟩
  refine codeS ?_
  have hq : i < s.size → XPure Tryz.prog 85 [str s, i64 i] _ false := fun h => c_lex_quoted h (by omega)
  obtain ⟨R, hR⟩ : ∃ R, lexq (s.data.toList.drop (i + 1)) [] (i + 1) = R := ⟨_, rfl⟩
  have hI := c_IndexAny (s := s.extract i s.size) (cs := ⟨#[32, 9]⟩) (Nat.le_of_ble_eq_true rfl) (Nat.le_of_ble_eq_true rfl) (by rw [size_ext (Nat.le_refl _)]; omega) rfl
  obtain ⟨r, hr⟩ : ∃ r, Lib.indexAny (s.extract i s.size).data.toList [32, 9] = r := ⟨_, rfl⟩
  rw [hR] at hq
  rw [show (⟨#[32, 9]⟩ : ByteArray).data.toList = [32, 9] from rfl, hr] at hI
  have hr1 : -1 ≤ r := hr ▸ Lib.indexAny_ge _ _
  have hr2 : r < ((s.size - i : Nat) : Int) ∨ r = -1 := by
    rcases indexAny_lt [32, 9] (s.extract i s.size).data.toList with h | ⟨_, h⟩
    · rw [len_data, size_ext (Nat.le_refl _), hr] at h; exact .inl h
    · exact .inr (hr ▸ h)
  have hwi : IntKind.i64.wrap ((i : Int) + 1) = ((i + 1 : Nat) : Int) := by rw [wrapId (by omega) (by omega)]; omega
  have hw2 : IntKind.i64.wrap ((s.size : Int) - (i : Int)) = ((s.size - i : Nat) : Int) := by rw [wrapId (by omega) (by omega)]; omega
  have hw3 : IntKind.i64.wrap ((i : Int) + ((s.size - i : Nat) : Int)) = (s.size : Int) := by rw [wrapId (by omega) (by omega)]; omega
  have hw4 : 0 ≤ r → IntKind.i64.wrap ((i : Int) + r) = ((i + r.toNat : Nat) : Int) := fun h => by rw [wrapId (by omega) (by omega)]; omega
  have hqp : 0 ≤ qP R := by rcases R with _ | ⟨w, q⟩ <;> simp [qP]
  repeat' ((conv => whnf); (fail_if_success refine zC ?_); first | refine zS ?_ | refine zB (fun h hs => ?_) (fun h hs => ?_) <;> try exact hs.elim | refine .inl ⟨_, _, c_lex_blank, ?_⟩ | refine .inl ⟨_, _, hq (by omega), ?_⟩ | refine .inl ⟨_, _, hI, ?_⟩ | refine .inl ⟨_, _, c_ContainsAny (Nat.le_of_ble_eq_true rfl) (Nat.le_of_ble_eq_true rfl) (by rw [size_ext (by omega)]; omega) rfl, ?_⟩ | (first | rw [hw2] | rw [hw3] | rw [hw4 (by omega)]) | exact zElws | refine zZlws ?_ | (refine ⟨?_, ?_, ?_⟩; (first | (refine sizeOk rfl ?_; simp only [List.length_map, List.length_append, List.length_cons, List.length_nil]; omega) | omega | (simp only [List.length_map, List.length_append, List.length_cons, List.length_nil]; omega) | (rw [size_ext (by omega)]; omega)); (first | (refine sizeOk rfl ?_; simp only [List.length_map, List.length_append, List.length_cons, List.length_nil]; omega) | omega | (simp only [List.length_map, List.length_append, List.length_cons, List.length_nil]; omega) | (rw [size_ext (by omega)]; omega))) | (refine ⟨?_, ?_⟩; (first | (refine sizeOk rfl ?_; simp only [List.length_map, List.length_append, List.length_cons, List.length_nil]; omega) | omega | (simp only [List.length_map, List.length_append, List.length_cons, List.length_nil]; omega) | (rw [size_ext (by omega)]; omega))) | fail)
  · rw [wordsF, if_pos (by assumption), if_pos (blankB_yes hs)] at hA
    conv => whnf
    rw [hwi]
    refine ⟨(i + 1, out), by dsimp only; omega, ⟨by dsimp only; omega, by dsimp only; omega, k, by dsimp only; omega, hA⟩, Weak.go⟩
  · rcases R with _ | ⟨w, q⟩
    · exact words_bad (by omega) (by rw [← hA, wordsF_q0 (by assumption) (blankB_no (by assumption)) (u8_yes (by assumption)) hR])
    · rw [wordsF_q1 (by assumption) (blankB_no (by assumption)) (u8_yes (by assumption)) hR] at hA
      have hlt : q < s.size := by have : ((q : Nat) : Int) < s.size := by assumption
                                  omega
      have hb : blankB (byteAt s q) = false := by
        rcases hs with h | ⟨_, h⟩
        · cases h
        · exact blankB_no h
      rw [if_pos ⟨hlt, hb⟩] at hA
      exact words_bad (by omega) hA.symm
  · rcases R with _ | ⟨w, q⟩
    · cases ‹qB none = true›
    · have hb := lexq_at _ _ _ _ _ hR
      rw [List.length_drop, len_data] at hb
      rw [wordsF_q1 (by assumption) (blankB_no (by assumption)) (u8_yes (by assumption)) hR] at hA
      have hM := map_snoc eStr out (qW (some (w, q)))
      rw [if_neg (by
        rintro ⟨g1, g2⟩
        rcases hs.2 with g | g
        · have : (s.size : Int) ≤ ((q : Nat) : Int) := g
          omega
        · exact absurd (blankB_yes g) (by show ¬ blankB (byteAt s q) = true; rw [g2]; simp))] at hA
      conv => whnf
      refine ⟨(q, out ++ [qW (some (w, q))]), by dsimp only; omega, ⟨by dsimp only; omega, by simp only [List.length_append, List.length_cons, List.length_nil]; omega, k, by dsimp only; omega, hA⟩, Weak.go⟩
  · exfalso; simp_all
  · rcases R with _ | ⟨w, q⟩
    · cases ‹qB none = true›
    · have hb := lexq_at _ _ _ _ _ hR
      rw [List.length_drop, len_data] at hb
      rw [wordsF_q1 (by assumption) (blankB_no (by assumption)) (u8_yes (by assumption)) hR] at hA
      have hM := map_snoc eStr out (qW (some (w, q)))
      rw [if_neg (by
        rintro ⟨g1, g2⟩
        have : (s.size : Int) ≤ ((q : Nat) : Int) := by assumption
        omega)] at hA
      conv => whnf
      refine ⟨(q, out ++ [qW (some (w, q))]), by dsimp only; omega, ⟨by dsimp only; omega, by simp only [List.length_append, List.length_cons, List.length_nil]; omega, k, by dsimp only; omega, hA⟩, Weak.go⟩
  · rcases R with _ | ⟨w, q⟩
    · exact words_bad (by omega) (by rw [← hA, wordsF_q0 (by assumption) (blankB_no (by assumption)) (u8_yes (by assumption)) hR])
    · cases hs
  · rw [wordsF_plain (n := s.size - i) (by assumption) (blankB_no (by assumption)) (u8_no (by assumption)) hr (if_pos (by assumption)), show i + (s.size - i) = s.size from by omega, if_pos hs] at hA
    exact words_bad (by omega) hA.symm
  · rw [wordsF_plain (n := s.size - i) (by assumption) (blankB_no (by assumption)) (u8_no (by assumption)) hr (if_pos (by assumption)), show i + (s.size - i) = s.size from by omega, if_neg (by omega)] at hA
    have hM := map_snoc eStr out (s.extract i s.size)
    conv => whnf
    refine ⟨(s.size, out ++ [s.extract i s.size]), by dsimp only; omega, ⟨by dsimp only; omega, by simp only [List.length_append, List.length_cons, List.length_nil]; omega, k, by dsimp only; omega, hA⟩, Weak.go⟩
  · rw [wordsF_plain (n := r.toNat) (by assumption) (blankB_no (by assumption)) (u8_no (by assumption)) hr (if_neg (by omega)), if_pos hs] at hA
    exact words_bad (by omega) hA.symm
  · have hq' : Lib.indexAny (s.extract i (i + r.toNat)).data.toList [34, 10] < 0 := hs
    rw [wordsF_plain (n := r.toNat) (by assumption) (blankB_no (by assumption)) (u8_no (by assumption)) hr (if_neg (by omega)), if_neg (by omega)] at hA
    have hM := map_snoc eStr out (s.extract i (i + r.toNat))
    have hr0 : r ≠ 0 := by
      rintro rfl
      obtain ⟨t, ht⟩ := ext_head (s := s) (i := i) (by assumption)
      rw [ht] at hr
      exact indexAny_pos (by have := blankB_no (s := s) (i := i) (by assumption); simp only [blankB, Bool.or_eq_false_iff, beq_eq_false_iff_ne] at this; simp only [List.contains_cons, List.contains_nil, Bool.or_false, Bool.or_eq_false_iff, beq_eq_false_iff_ne]; exact ⟨fun e => this.1 (by rw [e]; rfl), fun e => this.2 (by rw [e]; rfl)⟩) hr
    conv => whnf
    refine ⟨(i + r.toNat, out ++ [s.extract i (i + r.toNat)]), by dsimp only; omega, ⟨by dsimp only; omega, by simp only [List.length_append, List.length_cons, List.length_nil]; omega, k, by dsimp only; omega, hA⟩, Weak.go⟩
  · rw [wordsF, if_neg hs] at hA
    exact words_good (by omega) hA.symm
end Go.Proofs.YtepdiooaoegpfaaGreatDoor.Fx
end
section
/- A copying command is read. Conditions: those in each statement. -/
namespace Go.Proofs.YtepdiooaoegpfaaGreatDoor.Fx
open Go Go.Proofs Go.Ev Go.RowKit
set_option maxRecDepth 100000
set_option maxHeartbeats 1600000
set_option linter.unusedSimpArgs false
set_option linter.unusedVariables false
abbrev eC (op : Int) (dst : ByteArray) (src words : List ByteArray) (st : Int) : AV := .agg [i64 op, str dst, eS src, eS words, i64 st]
abbrev copyW : ByteArray := ⟨#[99, 111, 112, 121]⟩
abbrev heads1 : List ByteArray := [copyW, ⟨#[99, 111, 110, 99, 97, 116]⟩, ⟨#[101, 99, 104, 111, 45, 116, 111]⟩, ⟨#[116, 111, 117, 99, 104]⟩, ⟨#[114, 101, 109, 111, 118, 101]⟩, ⟨#[116, 101, 115, 116, 45, 101, 120, 105, 115, 116, 115]⟩, ⟨#[102, 97, 105, 108]⟩, ⟨#[115, 97, 121]⟩]
theorem c_heads : XPure Tryz.prog 88 [] (eS (⟨#[]⟩ :: heads1)) false := by
  refine XPure.body ⟨_, Tryz.func88, rfl, by kernel_rfl⟩ Tryz.func88 rfl (Nat.le_of_ble_eq_true (by rfl)) (pf_of1 rfl) fun env => ?_
  repeat' ((conv => whnf); (fail_if_success refine zC ?_); first | refine zS ?_ | refine zB (fun h hs => ?_) (fun h hs => ?_) <;> try exact hs.elim | exact zE | refine zZ ?_ | fail)
theorem leq_cmd {op op' st st' e e' : Int} {d d' : ByteArray} {a a' : List ByteArray} (h1 : op = op') (h2 : d = d') (h3 : a = a') (h4 : st = st') (h5 : e = e') : LeqD (.tup [.agg [i64 op, str d, eS a, nilv, i64 st], i64 e]) (.tup [eC op' d' a' [] st', i64 e']) := by
  subst h1 h2 h3 h4 h5
  repeat' (first | exact LeqD.nil (by decide) | exact LeqD.refl _ | exact LeqDL.refl _ | refine LeqDL.cons ?_ ?_ | refine LeqD.agg ?_ | refine LeqD.tup ?_)
theorem c_Parse_copy {a b : ByteArray} (ha : isName a = true) (hb : isName b = true) : XPure Tryz.prog 67 [eS [copyW, a, b]] (.tup [eC 1 b [a] [] 0, i64 0]) false := by
  have hI : XPure Tryz.prog 68 [eS heads1, str copyW] (i64 0) false := by
    have h := c_Index (l := heads1) (s := copyW) (Nat.le_of_ble_eq_true rfl)
    have e : findN heads1 copyW 0 = 0 := by simp [findN, beqS_self]
    rwa [e] at h
  have hsz : ∀ x : ByteArray, isName x = true → x.size ≤ 140737488355328 := fun x h => by
    unfold isName at h; simp only [Bool.and_eq_true, decide_eq_true_eq] at h; omega
  have hF : XPure Tryz.prog 93 [eS [a, b]] (i64 0) false := by
    have h := c_cmd_files (l := [a, b]) (Nat.le_of_ble_eq_true rfl) (sz2 (hsz a ha) (hsz b hb))
    rwa [show errIf ([a, b].all isName) 3 = 0 from by simp [errIf, ha, hb]] at h
  refine XPure.bodyN ⟨_, Tryz.func67, rfl, by kernel_rfl⟩ Tryz.func67 rfl (Nat.le_of_ble_eq_true (by rfl)) (pf_of1 rfl) fun env => ?_
  repeat' ((conv => whnf); (fail_if_success refine zC ?_); first | refine zSd ?_ | refine zB (fun h hs => ?_) (fun h hs => ?_) <;> try exact hs.elim | refine .inl ⟨_, _, c_heads, ?_⟩ | refine .inl ⟨_, _, hI, ?_⟩ | refine .inl ⟨_, _, c_CloneS (l := [a, b]) (Nat.le_of_ble_eq_true rfl), ?_⟩ | refine .inl ⟨_, _, c_cmd_count (by omega), ?_⟩ | refine .inl ⟨_, _, hF, ?_⟩ | refine ⟨_, _, c_heads, ?_⟩ | refine ⟨_, _, hI, ?_⟩ | refine ⟨_, _, c_CloneS (l := [a, b]) (Nat.le_of_ble_eq_true rfl), ?_⟩ | refine ⟨_, _, c_cmd_count (by omega), ?_⟩ | refine ⟨_, _, hF, ?_⟩ | (first | (refine XW.draw (id := 5) (m := 8) (by kernel_rfl) (by kernel_rfl) (by rfl) ?_) | (refine XW.drawW (id := 15) (M := 7) (p := 1) (W := [5, 6]) (by kernel_rfl) (by kernel_rfl) ?_) | ((with_reducible show _ ∧ allW _ _); refine ⟨?_, ?_⟩) | exact trivial) | exact zEl | refine zZl ?_ | fail)
  all_goals try (exfalso; have hs' := hs; simp [manyOk] at hs'; done)
  conv => whnf
  exact leq_cmd (op := 1) (d := b) (a := [a]) (st := 0) (e := 0) rfl rfl rfl rfl rfl
end Go.Proofs.YtepdiooaoegpfaaGreatDoor.Fx
end
