/- Written by programs of this session: laws and contracts that the law's proof stands on, merged into one text. Conditions: none beyond those in each statement. -/
import Derived.Test.YtepdiooaoegpfaaGreatDoorPkFx5
section
/- A file in its place on a disk. Conditions: those in each statement. -/
namespace Go.Proofs.YtepdiooaoegpfaaGreatDoor.Fx
open Go Go.Proofs Go.Ev Go.RowKit
set_option maxRecDepth 100000
set_option maxHeartbeats 12800000
set_option linter.unusedSimpArgs false
set_option linter.unusedVariables false
@[irreducible] def InsN (F : List AV) (env : List Bx) (r : AV) (ow : Bool) (env' : List Bx) : Prop :=
  ow = false ∧ ∃ B' c' new j, pfL B' = true ∧ 1 ≤ c' ∧ c' ≤ 9223372036854775807 ∧ B'.length = c' * 3 ∧ B'.take 3 = F ∧ r = .xs (env.length + j) 0 3 1 c' ∧ env' = env ++ new ∧ new[j]? = some (.cells B' [])
theorem InsN.new {cp j base : Nat} {F B' : List AV} {env own : List Bx} (h1 : pfL B' = true) (h2 : 1 ≤ cp) (h3 : cp ≤ 9223372036854775807) (h4 : B'.length = cp * 3) (h5 : B'.take 3 = F) (h6 : own[j]? = some (.cells B' [])) :
    InsN F env (.xs (env.length + j) 0 3 1 cp) false (env ++ own.map (Bx.up base)) := by
  unfold InsN
  exact ⟨rfl, B', cp, _, j, h1, h2, h3, h4, h5, rfl, rfl, by rw [List.getElem?_map, h6]; simp only [Option.map_some, Bx.up, upL_pf _ _ h1]⟩
theorem call_Insert : Callable Tryz.prog 118 := ⟨_, Tryz.func118, rfl, by kernel_rfl⟩
theorem c_InsertN {q2 : Nat} {F : List AV} {env : List Bx} (h2 : env[q2]? = some (.cells F [])) (hF : F.length = 3) (pF : pfL F = true) :
    XCalls Tryz.prog 118 [nilv, i64 0, .xs q2 0 3 1 1] env (InsN F env) := by
  refine XCalls.bodyB Tryz.func118 rfl (Nat.le_of_ble_eq_true (by rfl)) ?_
  repeat' ((conv => whnf); (fail_if_success refine zC ?_); first | refine zS ?_ | refine zB (fun h hs => ?_) (fun h hs => ?_) <;> try exact hs.elim | (rw [h2]) | exact zEs | refine zZs ?_ | (refine ⟨?_, ?_, ?_⟩; ((try dsimp only); first | omega | (simp only [s41, b41, List.length_append, List.length_take, List.length_drop]; omega)); ((try dsimp only); first | omega | (simp only [s41, b41, List.length_append, List.length_take, List.length_drop]; omega))) | (refine ⟨?_, ?_⟩; ((try dsimp only); first | omega | (simp only [s41, b41, List.length_append, List.length_take, List.length_drop]; omega))) | fail)
  · intro c' k1 k2
    repeat' ((conv => whnf); (fail_if_success refine zC ?_); first | refine zS ?_ | refine zB (fun h hs => ?_) (fun h hs => ?_) <;> try exact hs.elim | exact zE | refine zZ ?_ | fail)
    conv => whnf
    refine ⟨.inr rfl, rfl, ?_⟩
    conv => whnf
    refine InsN.new (j := 0) (B' := grownL [] ((F.drop 0).take (1 * 3)) (c' - 1) (.agg #[.string .empty, .string .empty, .int .i64 0])) ?_ k1 k2 ?_ ?_ rfl
    all_goals rw [takeF hF]
    all_goals unfold grownL
    · exact pfL_append (pfL_append rfl pF) (pfL_rep rfl _)
    · simp only [List.length_append, repLen, zl42, hF, List.length_nil]; omega
    · exact List.take_left' (by simpa using hF)
  all_goals exact absurd (rfl : (0 : Int) = ((0 : Nat) : Int)) (by assumption)
/-- What is handed back, in boxes: the file put into the row. -/
theorem c_InsertC {q q2 n cp i : Nat} {B F : List AV} {env : List Bx} (h1 : env[q]? = some (.cells B [])) (h2 : env[q2]? = some (.cells F [])) (hF : F.length = 3) (hq : q ≠ q2) (hB : B.length = cp * 3) (pB : pfL B = true) (pF : pfL F = true) (hn : n ≤ cp) (hn9 : n ≤ 1000000000) (hc : cp ≤ 9223372036854775807) (hi : i ≤ n) :
    XCalls Tryz.prog 118 [.xs q 0 3 n cp, i64 i, .xs q2 0 3 1 1] env fun r ow env' => ow = false ∧ ∃ B' c', pfL B' = true ∧ n + 1 ≤ c' ∧ c' ≤ 9223372036854775807 ∧ B'.length = c' * 3 ∧ B'.take ((n + 1) * 3) = B.take (i * 3) ++ F ++ (B.take (n * 3)).drop (i * 3) ∧
      ((r = .xs q 0 3 (n + 1) c' ∧ env' = env.set q (.cells B' [])) ∨ (r = .xs env.length 0 3 (n + 1) c' ∧ env' = env ++ [.cells B' []])) := by
  refine (c_InsertB h1 h2 hF hq hB pB pF hn hn9 hc hi).only fun r ow env' hR => ?_
  unfold InsR at hR
  obtain ⟨ho, B', c', k1, k2, k3, k4, k5, ⟨k6, k7⟩ | ⟨new, j, k6, k7, k8⟩⟩ := hR
  · exact .inl ⟨ho, B', c', k1, k2, k3, k4, k5, .inl ⟨k6, k7⟩⟩
  · exact .inr ⟨new, j, 0, 3, n + 1, c', B', k7, k6, k8, k1, rfl, B', c', k1, k2, k3, k4, k5, .inr ⟨rfl, rfl⟩⟩
theorem boxUp {c : Cfg} {j : Nat} {B : List AV} (pB : pfL B = true) (h : c.own[j]? = some (.cells B [])) : (c.env ++ c.own.map (Bx.up c.base))[c.base + j]? = some (.cells B []) := by
  rw [List.getElem?_append_right (by simp [Cfg.base]), show c.base + j - c.env.length = j from by simp [Cfg.base], List.getElem?_map, h]
  simp only [Option.map_some, Bx.up, upL_pf _ _ pB]
theorem own_cl {base : Nat} {env own : List Bx} (h : ∀ x ∈ env ++ own, Bx.cl base own.length x) {j : Nat} {B : List AV} (pB : pfL B = true) : ∀ x ∈ env ++ own.set j (.cells B []), Bx.cl base (own.set j (.cells B [])).length x := by
  intro x hx
  rw [List.length_set]
  rcases List.mem_append.1 hx with hx | hx
  · exact h x (List.mem_append_left _ hx)
  · rcases List.mem_or_eq_of_mem_set hx with hx | hx
    · exact h x (List.mem_append_right _ hx)
    · exact (mapUp_self (base := base) pB hx).2
theorem callG_ins {c : Cfg} {dst : Option Tmp} {K : Cfg → Prop} {j j2 n cp i : Nat} {B F : List AV} (h1 : c.own[j]? = some (.cells B [])) (h2 : c.own[j2]? = some (.cells F [])) (hF : F.length = 3) (hq : j ≠ j2) (hB : B.length = cp * 3) (pB : pfL B = true) (pF : pfL F = true) (hn : n ≤ cp) (hn9 : n ≤ 1000000000) (hc : cp ≤ 9223372036854775807) (hi : i ≤ n)
    (k1 : ∀ B' c', pfL B' = true → n + 1 ≤ c' → B'.length = c' * 3 → B'.take ((n + 1) * 3) = B.take (i * 3) ++ F ++ (B.take (n * 3)).drop (i * 3) → K (({ c with own := c.own.set j (.cells B' []) } : Cfg).after dst (.bs j 0 3 (n + 1) c') false))
    (k2 : ∀ B' c', pfL B' = true → n + 1 ≤ c' → B'.length = c' * 3 → B'.take ((n + 1) * 3) = B.take (i * 3) ++ F ++ (B.take (n * 3)).drop (i * 3) → K (({ c with own := c.own ++ [.cells B' []] } : Cfg).after dst (.bs c.own.length 0 3 (n + 1) c') false)) :
    callG Tryz.prog c [.bs j 0 3 n cp, i64 i, .bs j2 0 3 1 1] 118 dst K := by
  unfold callG
  refine ⟨call_Insert, _, c_InsertC (q := c.base + j) (q2 := c.base + j2) (boxUp pB h1) (boxUp pF h2) hF (by omega) hB pB pF hn hn9 hc hi, fun hE hA r ow env' hR => ?_⟩
  obtain ⟨rfl, B', c', q1, q2, q3, q4, q5, ⟨rfl, rfl⟩ | ⟨rfl, rfl⟩⟩ := hR
  · refine ⟨.bs j 0 3 (n + 1) c', c.env, c.own.set j (.cells B' []), rfl, ?_, rfl, ?_, hE, own_cl hA q1, k1 B' c' q1 q2 q4 q5⟩
    · rw [List.set_append_right _ _ (by simp [Cfg.base]), show c.base + j - c.env.length = j from by simp [Cfg.base], List.map_set]
      simp only [Bx.up, upL_pf _ _ q1]
    · simp only [AV.cl, List.length_set]; exact (List.getElem?_eq_some_iff.1 h1).1
  · obtain ⟨m1, m2⟩ := mapUp_self (base := c.base) (m := (c.own ++ [Bx.cells B' []]).length) q1 rfl
    refine ⟨.bs c.own.length 0 3 (n + 1) c', c.env, c.own ++ [.cells B' []], ?_, ?_, rfl, ?_, hE, clAll_app hE hA (fun x hx => ?_), k2 B' c' q1 q2 q4 q5⟩
    · simp [AV.up, Cfg.base, Nat.add_comm]
    · simp only [List.map_append, List.map_cons, List.map_nil, m1, List.append_assoc]
    · simp only [AV.cl]; simp
    · rw [List.mem_singleton] at hx; subst hx; exact m2
theorem callG_insN {c : Cfg} {dst : Option Tmp} {K : Cfg → Prop} {j2 : Nat} {F : List AV} (h2 : c.own[j2]? = some (.cells F [])) (hF : F.length = 3) (pF : pfL F = true)
    (k2 : ∀ B' c', pfL B' = true → 1 ≤ c' → B'.length = c' * 3 → B'.take 3 = F → K (({ c with own := c.own ++ [.cells B' []] } : Cfg).after dst (.bs c.own.length 0 3 1 c') false)) :
    callG Tryz.prog c [nilv, i64 0, .bs j2 0 3 1 1] 118 dst K := by
  unfold callG
  have hx := (c_InsertN (q2 := c.base + j2) (boxUp pF h2) hF pF).only (R' := fun r ow env' => ow = false ∧ ∃ B' c', pfL B' = true ∧ 1 ≤ c' ∧ B'.length = c' * 3 ∧ B'.take 3 = F ∧ r = .xs (c.env ++ c.own.map (Bx.up c.base)).length 0 3 1 c' ∧ env' = (c.env ++ c.own.map (Bx.up c.base)) ++ [.cells B' []]) fun r ow env' hR => by
    unfold InsN at hR
    obtain ⟨ho, B', c', new, j, k1, k2, k3, k4, k5, k6, k7, k8⟩ := hR
    exact .inr ⟨new, j, 0, 3, 1, c', B', k7, k6, k8, k1, rfl, B', c', k1, k2, k4, k5, rfl, rfl⟩
  refine ⟨call_Insert, _, hx, fun hE hA r ow env' hR => ?_⟩
  obtain ⟨rfl, B', c', q1, q2, q4, q5, rfl, rfl⟩ := hR
  obtain ⟨m1, m2⟩ := mapUp_self (base := c.base) (m := (c.own ++ [Bx.cells B' []]).length) q1 rfl
  refine ⟨.bs c.own.length 0 3 1 c', c.env, c.own ++ [.cells B' []], ?_, ?_, rfl, ?_, hE, clAll_app hE hA (fun x hx => ?_), k2 B' c' q1 q2 q4 q5⟩
  · simp [AV.up, Cfg.base, Nat.add_comm]
  · simp only [List.map_append, List.map_cons, List.map_nil, m1, List.append_assoc]
  · simp only [AV.cl]; simp
  · rw [List.mem_singleton] at hx; subst hx; exact m2
@[irreducible] def laidE (l : List File) (f : File) : Int := if thereF l f.name = true then 0 else if l.length = 256 then 22 else 0
@[irreducible] def laidL (l : List File) (f : File) : List File := if thereF l f.name = true then l.set (posF l f.name) f else if l.length = 256 then [] else l.take (posF l f.name) ++ f :: l.drop (posF l f.name)
theorem flat_len (l : List File) : ((l.map eF).flatMap AV.leaves).length = l.length * 3 := by rw [(els_F l).len, List.length_map]
theorem flat_take : ∀ (l : List File) (i : Nat), ((l.map eF).flatMap AV.leaves).take (i * 3) = ((l.take i).map eF).flatMap AV.leaves
  | [], i => by simp
  | f :: l, 0 => by simp
  | f :: l, i + 1 => by
    rw [List.map_cons, List.flatMap_cons, List.take_succ_cons, List.map_cons, List.flatMap_cons, ← flat_take l i]
    rw [show (i + 1) * 3 = (eF f).leaves.length + i * 3 from by show (i + 1) * 3 = 3 + i * 3; omega, List.take_length_add_append]
theorem flat_drop : ∀ (l : List File) (i : Nat), ((l.map eF).flatMap AV.leaves).drop (i * 3) = ((l.drop i).map eF).flatMap AV.leaves
  | [], i => by simp
  | f :: l, 0 => by simp
  | f :: l, i + 1 => by
    rw [List.map_cons, List.flatMap_cons, List.drop_succ_cons, ← flat_drop l i]
    rw [show (i + 1) * 3 = (eF f).leaves.length + i * 3 from by show (i + 1) * 3 = 3 + i * 3; omega, List.drop_length_add_append]
theorem shutI_disk {own : List Bx} {j n c1 : Nat} {c c' e e' : Int} {B : List AV} {L l' : List File} (hc : c = c') (he : e = e') (hL : L = l') (h : own[j]? = some (.cells B [])) (hn : n = l'.length) (h9 : l'.length ≤ 1000000000) (hB : l'.length * 3 ≤ B.length) (ht : B.take (n * 3) = (l'.map eF).flatMap AV.leaves) :
    ShutI own (.tup [.agg [i64 c', .bs j 0 3 n c1], i64 e']) (.tup [eD c L, i64 e]) := by
  subst hc he hL
  unfold ShutI
  simp only [ShutQ, ShutQL]
  refine ⟨_, rfl, _, _, rfl, ⟨_, rfl, _, _, rfl, .inl rfl, _, _, rfl, ?_, rfl⟩, _, _, rfl, .inl rfl, rfl⟩
  exact ⟨B, [], L.map eF, h, rfl, by simp [hn], by omega, by omega, by rw [List.drop_zero]; exact ht, els_F L⟩
theorem shutI_none {own : List Bx} {c c' e e' : Int} {L : List File} (hc : c = c') (he : e = e') (hL : L = []) : ShutI own (.tup [.agg [i64 c', nilv], i64 e']) (.tup [eD c L, i64 e]) := by
  subst hc he hL
  unfold ShutI
  simp only [ShutQ, ShutQL]
  exact ⟨_, rfl, _, _, rfl, ⟨_, rfl, _, _, rfl, .inl rfl, _, _, rfl, .inr ⟨3, 0, by decide, rfl, rfl⟩, rfl⟩, _, _, rfl, .inl rfl, rfl⟩
theorem condT {b : Bool} {A : Prop} (hb : b = true) (h : A) : (bif b then A else False) := by rw [hb]; exact h
theorem laidE_yes {l : List File} {f : File} (h : thereF l f.name = true) : laidE l f = 0 ∧ laidL l f = l.set (posF l f.name) f := by simp [laidE, laidL, h]
theorem laidE_full {l : List File} {f : File} (h : thereF l f.name = false) (hl : l.length = 256) : laidE l f = 22 ∧ laidL l f = [] := by simp [laidE, laidL, h, hl]
theorem laidE_no {l : List File} {f : File} (h : thereF l f.name = false) (hl : ¬ l.length = 256) : laidE l f = 0 ∧ laidL l f = l.take (posF l f.name) ++ f :: l.drop (posF l f.name) := by simp [laidE, laidL, h, hl]
theorem flat_ins (l : List File) (f : File) (i : Nat) (zs : List AV) (hi : i ≤ l.length) : ((l.map eF).flatMap AV.leaves ++ zs).take (i * 3) ++ (eF f).leaves ++ (((l.map eF).flatMap AV.leaves ++ zs).take ((l.map eF).length * 3)).drop (i * 3) = ((l.take i ++ f :: l.drop i).map eF).flatMap AV.leaves := by
  have h1 : ((l.map eF).flatMap AV.leaves ++ zs).take (i * 3) = ((l.take i).map eF).flatMap AV.leaves := by
    rw [List.take_append_of_le_length (by rw [flat_len]; omega), flat_take]
  have h2 : ((l.map eF).flatMap AV.leaves ++ zs).take ((l.map eF).length * 3) = (l.map eF).flatMap AV.leaves := by
    rw [List.length_map, ← flat_len l, List.take_left]
  rw [h1, h2, flat_drop]
  simp
theorem flat_set (l : List File) (f : File) (i : Nat) (zs : List AV) (hi : i < l.length) : (wrL ((l.map eF).flatMap AV.leaves ++ zs) (i * 3) (eF f).leaves).take (l.length * 3) = ((l.set i f).map eF).flatMap AV.leaves := by
  have h1 : ((l.map eF).flatMap AV.leaves ++ zs).take (i * 3) = ((l.take i).map eF).flatMap AV.leaves := by
    rw [List.take_append_of_le_length (by rw [flat_len]; omega), flat_take]
  have h2 : ((l.map eF).flatMap AV.leaves ++ zs).drop (i * 3 + (eF f).leaves.length) = ((l.drop (i + 1)).map eF).flatMap AV.leaves ++ zs := by
    rw [show i * 3 + (eF f).leaves.length = (i + 1) * 3 from by show i * 3 + 3 = _; omega, List.drop_append_of_le_length (by rw [flat_len]; omega), flat_drop]
  unfold wrL
  rw [h1, h2, List.set_eq_take_append_cons_drop, if_pos hi]
  rw [← List.append_assoc, List.take_left']
  · simp
  · simp only [List.length_append, flat_len, List.length_take, List.length_drop]; show _ + 3 + _ = _; omega
theorem nilThere {l : List File} {s : ByteArray} (h0 : l.map eF = []) (h : thereF l s = true) : False := by
  obtain rfl : l = [] := by simpa using h0
  cases h
theorem call_laid : Callable Tryz.prog 95 := ⟨_, Tryz.func95, rfl, by kernel_rfl⟩
theorem c_disk_laid {clock : Int} {l : List File} {f : File} (hl : l.length ≤ 256) (hp : l.Pairwise fun a b => ltS a.name b.name = true) : XPure Tryz.prog 95 [eD clock l, eF f] (.tup [eD (if laidE l f = 0 then clock else 0) (laidL l f), i64 (laidE l f)]) false := by
  refine XPure.bodyS call_laid Tryz.func95 rfl (Nat.le_of_ble_eq_true (by rfl)) (pf_of1 rfl) fun env => ?_
  repeat' ((conv => whnf); (fail_if_success refine zC ?_); first | refine zS ?_ | refine zB (fun h hs => ?_) (fun h hs => ?_) <;> try exact hs.elim | refine .inl ⟨_, _, c_disk_place hl hp, ?_⟩ | (first | (refine XW.drawW (M := 7) (p := 3) (W := [4, 5, 6]) (by kernel_rfl) (by kernel_rfl) ?_) | ((with_reducible show _ ∧ allW _ _); refine ⟨?_, ?_⟩) | exact trivial | (refine wildA_box call_CloneF rfl (els_F _) (fun env => c_CloneFB (by simp; omega) (els_F _) env) (fun h0 => ?_) (fun cp zs k1 k2 k3 k4 => ?_)) | ((with_reducible show (_ ∨ _) ∧ _ ∧ retB _ _ _ _ _); refine ⟨by first | exact .inr rfl | exact .inl rfl, rfl, ?_⟩) | (refine .inr ?_)) | exact zEws | refine zZws ?_ | (refine ⟨?_, ?_, ?_⟩; (first | omega | (have := posF_lt (by assumption); simp only [List.length_map]; omega) | (have := posF_lt (by assumption); simp only [List.length_map, List.length_append, flat_len, k3]; omega)); (first | omega | (have := posF_lt (by assumption); simp only [List.length_map]; omega) | (have := posF_lt (by assumption); simp only [List.length_map, List.length_append, flat_len, k3]; omega))) | (refine ⟨?_, ?_⟩; (first | omega | (have := posF_lt (by assumption); simp only [List.length_map]; omega) | (have := posF_lt (by assumption); simp only [List.length_map, List.length_append, flat_len, k3]; omega))) | fail)
  iterate 6
    first
    | · exact (nilThere h0 (by assumption)).elim
      · obtain ⟨e1, e2⟩ := laidE_full (l := l) (f := f) (by assumption) (by omega)
        conv => whnf
        refine shutI_none ?_ e1 e2
        rw [e1]; rfl
      · obtain ⟨e1, e2⟩ := laidE_no (l := l) (f := f) (by assumption) (by omega)
        obtain rfl : l = [] := by simpa using h0
        conv => whnf
        refine callG_insN (F := (eF f).leaves) rfl rfl rfl (fun B2 c2 q1 q2 q3 q4 => ?_)
        repeat' ((conv => whnf); (fail_if_success refine zC ?_); first | refine zS ?_ | refine zB (fun h hs => ?_) (fun h hs => ?_) <;> try exact hs.elim | ((with_reducible show (_ ∨ _) ∧ _ ∧ retB _ _ _ _ _); refine ⟨by first | exact .inr rfl | exact .inl rfl, rfl, ?_⟩) | exact zEw | refine zZw ?_ | fail)
        conv => whnf
        refine shutI_disk (by rw [e1]; rfl) e1 e2 rfl rfl (by simp) ?_ ?_
        · show 1 * 3 ≤ _; omega
        · exact q4
    | · conv => whnf
        refine condT (Nat.ble_eq_true_of_le (show 0 + posF l f.name * 3 + 3 ≤ ((l.map eF).flatMap AV.leaves ++ zs).length from ?_)) ?_
        · have := posF_lt (l := l) (s := f.name) (by assumption)
          rw [k3]; simp only [List.length_map] at k1; omega
        · obtain ⟨e1, e2⟩ := laidE_yes (l := l) (f := f) (by assumption)
          repeat' ((conv => whnf); (fail_if_success refine zC ?_); first | refine zS ?_ | refine zB (fun h hs => ?_) (fun h hs => ?_) <;> try exact hs.elim | ((with_reducible show (_ ∨ _) ∧ _ ∧ retB _ _ _ _ _); refine ⟨by first | exact .inr rfl | exact .inl rfl, rfl, ?_⟩) | exact zEw | refine zZw ?_ | fail)
          conv => whnf
          refine shutI_disk (by rw [e1]; rfl) e1 e2 rfl (by simp) (by simp; omega) ?_ ?_
          · show (l.set (posF l f.name) f).length * 3 ≤ (wrL ((l.map eF).flatMap AV.leaves ++ zs) (0 + posF l f.name * 3) (eF f).leaves).length
            rw [wrL_len (by have := posF_lt (l := l) (s := f.name) (by assumption); rw [k3]; simp only [List.length_map] at k1; show _ + 3 ≤ _; omega), k3, List.length_set]
            simp only [List.length_map] at k1; omega
          · show (wrL ((l.map eF).flatMap AV.leaves ++ zs) (0 + posF l f.name * 3) (eF f).leaves).take ((l.map eF).length * 3) = _
            rw [Nat.zero_add, List.length_map]
            exact flat_set l f _ zs (posF_lt (by assumption))
      · obtain ⟨e1, e2⟩ := laidE_full (l := l) (f := f) (by assumption) (by omega)
        conv => whnf
        refine shutI_none ?_ e1 e2
        rw [e1]; rfl
      · obtain ⟨e1, e2⟩ := laidE_no (l := l) (f := f) (by assumption) (by omega)
        conv => whnf
        refine callG_ins (B := (l.map eF).flatMap AV.leaves ++ zs) (F := (eF f).leaves) rfl rfl rfl (Nat.ne_of_beq_eq_false rfl) k3 (pfL_append (els_F l).pf k4) rfl k1 (by simp; omega) k2 (by rw [List.length_map]; exact posF_le) (fun B2 c2 q1 q2 q3 q4 => ?_) (fun B2 c2 q1 q2 q3 q4 => ?_)
        all_goals replace q4 := q4.trans (flat_ins l f _ zs posF_le)
        · repeat' ((conv => whnf); (fail_if_success refine zC ?_); first | refine zS ?_ | refine zB (fun h hs => ?_) (fun h hs => ?_) <;> try exact hs.elim | ((with_reducible show (_ ∨ _) ∧ _ ∧ retB _ _ _ _ _); refine ⟨by first | exact .inr rfl | exact .inl rfl, rfl, ?_⟩) | exact zEw | refine zZw ?_ | fail)
          conv => whnf
          refine shutI_disk (by rw [e1]; rfl) e1 e2 rfl ?_ ?_ ?_ q4
          all_goals (simp only [List.length_append, List.length_take, List.length_cons, List.length_drop, List.length_map] at q2 ⊢; have := @posF_le l f.name; omega)
        · repeat' ((conv => whnf); (fail_if_success refine zC ?_); first | refine zS ?_ | refine zB (fun h hs => ?_) (fun h hs => ?_) <;> try exact hs.elim | ((with_reducible show (_ ∨ _) ∧ _ ∧ retB _ _ _ _ _); refine ⟨by first | exact .inr rfl | exact .inl rfl, rfl, ?_⟩) | exact zEw | refine zZw ?_ | fail)
          conv => whnf
          refine shutI_disk (by rw [e1]; rfl) e1 e2 rfl ?_ ?_ ?_ q4
          all_goals (simp only [List.length_append, List.length_take, List.length_cons, List.length_drop, List.length_map] at q2 ⊢; have := @posF_le l f.name; omega)
end Go.Proofs.YtepdiooaoegpfaaGreatDoor.Fx
end
section
/- Files are written. Conditions: those in each statement. -/
namespace Go.Proofs.YtepdiooaoegpfaaGreatDoor.Fx
open Go Go.Proofs Go.Ev Go.RowKit
set_option maxRecDepth 100000
set_option maxHeartbeats 1600000
set_option linter.unusedSimpArgs false
set_option linter.unusedVariables false
/-- A file written: the clock, the files, what is wrong. -/
@[irreducible] def writE (clock : Int) (l : List File) (f : File) : Int := if laidE l f = 0 then if clock = 1099511627776 then 23 else 0 else laidE l f
@[irreducible] def writC (clock : Int) (l : List File) (f : File) : Int := if writE clock l f = 0 then clock + 1 else 0
@[irreducible] def writL (clock : Int) (l : List File) (f : File) : List File := if writE clock l f = 0 then laidL l f else []
theorem leq_disk {c c' e e' : Int} {L : List File} (hc : c = c') (he : e = e') (hL : L = []) : LeqD (.tup [.agg [i64 c, nilv], i64 e]) (.tup [eD c' L, i64 e']) := by
  subst hc he hL
  repeat' (first | exact LeqD.refl _ | exact LeqDL.refl _ | exact LeqD.nil (by decide) | refine LeqDL.cons ?_ ?_ | refine LeqD.agg ?_ | refine LeqD.tup ?_)
theorem leq_disk2 {c c' e e' : Int} {L L' : List File} (hc : c = c') (he : e = e') (hL : L = L') : LeqD (.tup [eD c L, i64 e]) (.tup [eD c' L', i64 e']) := by
  subst hc he hL; exact LeqD.refl _
theorem c_disk_written {clock : Int} {l : List File} {name text : ByteArray} (hc : 0 ≤ clock ∧ clock ≤ 1099511627776) (hl : l.length ≤ 256) (hp : l.Pairwise fun a b => ltS a.name b.name = true) :
    XPure Tryz.prog 72 [eD clock l, str name, str text] (.tup [eD (writC clock l ⟨name, text, clock + 1⟩) (writL clock l ⟨name, text, clock + 1⟩), i64 (writE clock l ⟨name, text, clock + 1⟩)]) false := by
  have hw : IntKind.i64.wrap (clock + 1) = clock + 1 := wrapId (by omega) (by omega)
  refine XPure.bodyN ⟨_, Tryz.func72, rfl, by kernel_rfl⟩ Tryz.func72 rfl (Nat.le_of_ble_eq_true (by rfl)) (pf_of1 rfl) fun env => ?_
  repeat' ((conv => whnf); (fail_if_success refine zC ?_); first | refine zS ?_ | refine zB (fun h hs => ?_) (fun h hs => ?_) <;> try exact hs.elim | refine .inl ⟨_, _, c_disk_laid (f := ⟨name, text, IntKind.i64.wrap (clock + 1)⟩) hl hp, ?_⟩ | exact zElw | refine zZlw ?_ | fail)
  all_goals rw [hw] at *
  · have e : writE clock l ⟨name, text, clock + 1⟩ = laidE l ⟨name, text, clock + 1⟩ := by unfold writE; rw [if_neg hs]
    exact leq_disk (by unfold writC; rw [e, if_neg hs]) e.symm (by unfold writL; rw [e, if_neg hs])
  · have e : writE clock l ⟨name, text, clock + 1⟩ = 23 := by unfold writE; rw [if_pos (by assumption), if_pos hs]
    exact leq_disk (by unfold writC; rw [e]; rfl) e.symm (by unfold writL; rw [e]; rfl)
  · have e : writE clock l ⟨name, text, clock + 1⟩ = 0 := by unfold writE; rw [if_pos (by assumption), if_neg hs]
    have e3 : laidE l ⟨name, text, clock + 1⟩ = 0 := by assumption
    exact leq_disk2 (by unfold writC; rw [e, e3, if_pos rfl, if_pos rfl, wrapId (by omega) (by omega)]) e.symm (by unfold writL; rw [e]; rfl)
theorem okD_clock {clock : Int} {l : List File} (h : okD clock l = true) : 0 ≤ clock ∧ clock ≤ 1099511627776 := by
  simp only [okD, Bool.and_eq_true, decide_eq_true_eq] at h; omega
/-- What is wrong with a write. -/
@[irreducible] def wrE (clock : Int) (l : List File) (name text : ByteArray) : Int := if okD clock l = true then if isName name = true then if 4096 < text.size then 20 else writE clock l ⟨name, text, clock + 1⟩ else 3 else 4
@[irreducible] def wrC (clock : Int) (l : List File) (name text : ByteArray) : Int := if wrE clock l name text = 0 then clock + 1 else 0
@[irreducible] def wrL' (clock : Int) (l : List File) (name text : ByteArray) : List File := if wrE clock l name text = 0 then laidL l ⟨name, text, clock + 1⟩ else []
theorem c_disk_Write {clock : Int} {l : List File} {name text : ByteArray} : XPure Tryz.prog 48 [eD clock l, str name, str text] (.tup [eD (wrC clock l name text) (wrL' clock l name text), i64 (wrE clock l name text)]) false := by
  refine XPure.bodyN ⟨_, Tryz.func48, rfl, by kernel_rfl⟩ Tryz.func48 rfl (Nat.le_of_ble_eq_true (by rfl)) (pf_of1 rfl) fun env => ?_
  repeat' ((conv => whnf); (fail_if_success refine zC ?_); first | refine zS ?_ | refine zB (fun h hs => ?_) (fun h hs => ?_) <;> try exact hs.elim | refine .inl ⟨_, _, c_disk_asked, ?_⟩ | refine .inl ⟨_, _, c_disk_written (okD_clock (asked0 (by assumption)).1) (okD_sorted (asked0 (by assumption)).1).1 (okD_sorted (asked0 (by assumption)).1).2, ?_⟩ | exact zElw | refine zZlw ?_ | fail)
  · have e : wrE clock l name text = bif okD clock l then errIf (isName name) 3 else 4 := by
      unfold wrE
      cases h1 : okD clock l <;> cases h2 : isName name <;> simp_all [errIf]
    have e0 : ¬ wrE clock l name text = 0 := by rw [e]; exact hs
    exact leq_disk (by unfold wrC; rw [if_neg e0]) e.symm (by unfold wrL'; rw [if_neg e0])
  · obtain ⟨q1, q2⟩ := asked0 (by assumption)
    have e : wrE clock l name text = 20 := by unfold wrE; rw [if_pos q1, if_pos q2, if_pos (by omega)]
    exact leq_disk (by unfold wrC; rw [e]; rfl) e.symm (by unfold wrL'; rw [e]; rfl)
  · obtain ⟨q1, q2⟩ := asked0 (by assumption)
    have e : wrE clock l name text = writE clock l ⟨name, text, clock + 1⟩ := by unfold wrE; rw [if_pos q1, if_pos q2, if_neg (by omega)]
    exact leq_disk2 (by unfold wrC writC; rw [e]) e.symm (by unfold wrL' writL; rw [e])
end Go.Proofs.YtepdiooaoegpfaaGreatDoor.Fx
end
section
/- A file is taken out of a row. Conditions: those in each statement. -/
namespace Go.Proofs.YtepdiooaoegpfaaGreatDoor.Fx
open Go Go.Proofs Go.Ev Go.RowKit
set_option maxRecDepth 100000
set_option maxHeartbeats 1600000
set_option linter.unusedSimpArgs false
set_option linter.unusedVariables false
/-- What a row comes to of which a file is taken out: its own box, with the files behind moved. -/
@[irreducible] def DelR (q n i cp : Nat) (B : List AV) (env : List Bx) (r : AV) (ow : Bool) (env' : List Bx) : Prop :=
  ow = false ∧ ∃ B', pfL B' = true ∧ B'.length = B.length ∧ B'.take ((n - 1) * 3) = B.take (i * 3) ++ (B.take (n * 3)).drop ((i + 1) * 3) ∧ r = .xs q 0 3 (n - 1) cp ∧ env' = env.set q (.cells B' [])
theorem DelR.mk {q n i cp m : Nat} {B B' : List AV} {env : List Bx} (h1 : pfL B' = true) (h2 : B'.length = B.length) (h3 : B'.take ((n - 1) * 3) = B.take (i * 3) ++ (B.take (n * 3)).drop ((i + 1) * 3)) (hm : m = n - 1) :
    DelR q n i cp B env (.xs q 0 3 m cp) false (env.set q (.cells B' []) ++ []) := by
  unfold DelR
  exact ⟨rfl, B', h1, h2, h3, by rw [hm], by simp⟩
theorem delTake {B Z : List AV} {n i o : Nat} (hB : n * 3 ≤ B.length) (hi : i < n) (ho : o = (i + 1) * 3 ∨ n = i + 1) :
    (wrL (wrL B (i * 3) ((B.drop o).take ((n - (i + 1)) * 3))) ((n - 1) * 3) Z).take ((n - 1) * 3) = B.take (i * 3) ++ (B.take (n * 3)).drop ((i + 1) * 3) := by
  have hX : (B.drop o).take ((n - (i + 1)) * 3) = (B.take (n * 3)).drop ((i + 1) * 3) := by
    rcases ho with rfl | h
    · rw [List.drop_take]; congr 1; omega
    · have e1 : n - (i + 1) = 0 := by omega
      have e2 : (B.take (n * 3)).drop ((i + 1) * 3) = [] := List.drop_eq_nil_of_le (by rw [List.length_take]; omega)
      rw [e1, e2]; simp
  rw [hX]
  have hXl : ((B.take (n * 3)).drop ((i + 1) * 3)).length = (n - (i + 1)) * 3 := by simp only [List.length_take, List.length_drop]; omega
  have h1 : (wrL B (i * 3) ((B.take (n * 3)).drop ((i + 1) * 3))).take ((n - 1) * 3) = B.take (i * 3) ++ (B.take (n * 3)).drop ((i + 1) * 3) := by
    unfold wrL
    exact List.take_left' (by simp only [List.length_append, hXl, List.length_take]; omega)
  show (List.take _ (wrL B _ _) ++ Z ++ _).take _ = _
  rw [h1, List.append_assoc]
  exact List.take_left' (by simp only [List.length_append, hXl, List.length_take]; omega)
theorem c_DeleteB {q n cp i : Nat} {B : List AV} {env : List Bx} (h1 : env[q]? = some (.cells B [])) (hB : B.length = cp * 3) (pB : pfL B = true) (hn : n ≤ cp) (hn9 : n ≤ 1000000000) (hc : cp ≤ 9223372036854775807) (hi : i < n) :
    XCalls Tryz.prog 74 [.xs q 0 3 n cp, i64 i, i64 ((i + 1 : Nat) : Int)] env (DelR q n i cp B env) := by
  have hq0 : ((i : Int) == ((i + 1 : Nat) : Int)) = false := beq_eq_false_iff_ne.2 (by omega)
  refine XCalls.bodyB Tryz.func74 rfl (Nat.le_of_ble_eq_true (by rfl)) ?_
  iterate 40 any_goals try ((conv => whnf); (fail_if_success refine zC ?_); first | refine zS ?_ | refine zB (fun h hs => ?_) (fun h hs => ?_) <;> try exact hs.elim | refine XW.dr (m := 6) ?_ | (first | rw [h1] | (refine ⟨.inr (by first | exact pfL_take _ pB), ?_⟩)) | exact zEs | refine zZs ?_ | (refine ⟨?_, ?_, ?_⟩; ((try dsimp only); first | omega | (simp only [List.length_append, List.length_take, List.length_drop]; omega) | exact .inr (pfL_take _ pB)); ((try dsimp only); first | omega | (simp only [List.length_append, List.length_take, List.length_drop]; omega) | exact .inr (pfL_take _ pB))) | (refine ⟨?_, ?_⟩; ((try dsimp only); first | omega | (simp only [List.length_append, List.length_take, List.length_drop]; omega) | exact .inr (pfL_take _ pB))) | fail)
  conv => whnf
  have hb0 : Nat.beq cp 0 = false := by rw [← Bool.not_eq_true]; intro h; have := Nat.eq_of_beq_eq_true h; omega
  have hql : q < env.length := (List.getElem?_eq_some_iff.1 h1).1
  have hset : ∀ x, (env.set q x)[q]? = some x := fun x => List.getElem?_set_self hql
  have ht : ((i + 1 : Nat) : Int).toNat = i + 1 := rfl
  rw [ht]
  obtain ⟨o, ho, ho1, ho2⟩ : ∃ o, (bif Nat.beq cp (i + 1) then 0 else 0 + (i + 1) * 3) = o ∧ o ≤ (i + 1) * 3 ∧ (o = (i + 1) * 3 ∨ n = i + 1) := by
    cases hb : Nat.beq cp (i + 1) with
    | true => exact ⟨_, rfl, Nat.zero_le _, .inr (by have := Nat.eq_of_beq_eq_true hb; omega)⟩
    | false => exact ⟨_, rfl, by simp, .inl (by simp)⟩
  refine ⟨by show (bif Nat.beq cp (i + 1) then 0 else 0 + (i + 1) * 3) + (n - (i + 1)) * 3 ≤ B.length; rw [ho]; omega, ?_⟩
  conv => whnf
  refine ⟨by show (i + (n - (i + 1))) * 40 ≤ _; omega, by show i + (n - (i + 1)) ≤ _; omega, by show (bif Nat.beq cp 0 then 0 else 0 + 0 * 3) + (cp - 0) * 3 ≤ B.length; rw [hb0]; simp only [cond_false]; omega, .inr (pfL_take _ (pfL_drop _ pB)), fun hle => ?_, fun hgt c' k1 k2 => by omega⟩
  iterate 8 any_goals try ((conv => whnf); (fail_if_success refine zC ?_); first | refine zS ?_ | refine zB (fun h hs => ?_) (fun h hs => ?_) <;> try exact hs.elim | exact zEw | refine zZw ?_ | fail)
  conv => whnf
  rw [hset]
  conv => whnf
  have hbe : Nat.beq cp (i + (n - (i + 1))) = false := by rw [← Bool.not_eq_true]; intro h; have := Nat.eq_of_beq_eq_true h; omega
  have hm : ((i : Int) + ((n - (i + 1) : Nat) : Int)).toNat = i + (n - (i + 1)) := rfl
  refine ⟨?_, ?_, .inr (pfL_rep rfl _), ?_⟩
  · show 0 < n - (i + (n - (i + 1))); omega
  · simp only [s41, co41, hb0, hbe, cond_false, toNat_i, hm, Nat.sub_zero, Nat.zero_add, Nat.zero_mul, repLen, wrL_len', List.length_take, List.length_drop, hB, zl41]
    have ho' : (bif Nat.beq cp (i + 1) then 0 else (i + 1) * 3) = o := by rw [← ho, Nat.zero_add]
    rw [ho']; omega
  · repeat' ((conv => whnf); (fail_if_success refine zC ?_); first | refine zS ?_ | refine zB (fun h hs => ?_) (fun h hs => ?_) <;> try exact hs.elim | exact zEw | refine zZw ?_ | fail)
    conv => whnf
    refine ⟨.inr rfl, by simp only [List.length_set], ?_⟩
    conv => whnf
    rw [hb0, List.set_set]
    have hZ : ∀ Z : List AV, (wrL (wrL B (i * 3) ((B.drop o).take ((n - (i + 1)) * 3))) ((i + (n - (i + 1))) * 3) Z).take ((n - 1) * 3) = B.take (i * 3) ++ (B.take (n * 3)).drop ((i + 1) * 3) := fun Z => by
      rw [show i + (n - (i + 1)) = n - 1 from by omega]; exact delTake (by omega) hi ho2
    have ho' : (bif Nat.beq cp (i + 1) then 0 else (i + 1) * 3) = o := by rw [← ho, Nat.zero_add]
    refine DelR.mk (m := i + (n - (i + 1))) ?_ ?_ ?_ (by omega)
    all_goals simp only [s41, co41, hb0, hbe, cond_false, toNat_i, hm, ho', Nat.sub_zero, Nat.zero_add, Nat.zero_mul]
    · exact pfL_wrL (pfL_wrL pB (pfL_take _ (pfL_drop _ pB))) (pfL_rep rfl _)
    · simp only [wrL_len', List.length_take, List.length_drop, hB, repLen, zl41]; omega
    · exact hZ _
end Go.Proofs.YtepdiooaoegpfaaGreatDoor.Fx
end
