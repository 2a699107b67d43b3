/- Written by programs of this session: laws and contracts that the law's proof stands on, merged into one text. Conditions: none beyond those in each statement. -/
import Derived.Test.YtepdiooaoegpfaaGreatDoorPkEv18
import Derived.Test.YtepdiooaoegpfaaGreatDoorPkEv17
section
/- Written by this session: calls that hand on one new box. Conditions: none beyond those in each statement. -/
namespace Go.Ev
open Go

/-- Of the new boxes one alone is kept. -/
theorem XCalls.only {P : Program} {f : FuncId} {args : List AV} {env : List Bx} {R R' : AV → Bool → List Bx → Prop} (h : XCalls P f args env R)
    (hs : ∀ r ow env', R r ow env' → R' r ow env' ∨ ∃ new i off k n c l, env' = env ++ new ∧ r = .xs (env.length + i) off k n c ∧ new[i]? = some (.cells l []) ∧ pfL l = true ∧ R' (.xs env.length off k n c) false (env ++ [.cells l []])) : XCalls P f args env R' := by
  intro w g vs G hs0 hv
  refine (h w g vs G hs0 hv).mono ?_
  rintro e w' ⟨u, g', r, ow, env', rfl, hR, hle, G', E, hr, how⟩
  rcases hs r ow env' hR with hR' | ⟨new, i, off, k, n, c, l, rfl, rfl, hi, hl, hR'⟩
  · exact ⟨u, g', r, ow, env', rfl, hR', hle, G', E, hr, how⟩
  have hnew : i < new.length := (List.getElem?_eq_some_iff.1 hi).1
  have hbl : g'.bs.length = env.length + new.length := by rw [G'.len]; simp
  have hil : env.length + i < g'.bs.length := by omega
  obtain ⟨bi, hbi⟩ : ∃ bi, g'.bs[env.length + i]? = some bi := ⟨_, List.getElem?_eq_getElem hil⟩
  have hbim : bi ∈ g'.bs := List.mem_of_getElem? hbi
  let g'' : Gh := { bs := g'.bs.take env.length ++ [bi], hw := g'.hw, own := (g'.down env.length).own }
  have hpre : ∀ j b, (g'.bs.take env.length)[j]? = some b → (g'.bs.take env.length ++ [bi])[j]? = some b := fun j b e => by
    rw [List.getElem?_append_left (List.getElem?_eq_some_iff.1 e).1]; exact e
  have hG : Good w' g'' (env ++ [.cells l []]) (env ++ [Bx.cells l []]).length := by
    refine ⟨by simp [g'', hbl], ?_, fun b hb => ?_, fun j x b hx hb => ?_, G'.hw, fun b L e => G'.own b L (down_own e), G'.glob⟩
    · show (g'.bs.take env.length ++ [bi]).Nodup
      rw [List.nodup_append]
      refine ⟨G'.nd.sublist (List.take_sublist _ _), by simp, fun a ha b hb => ?_⟩
      rw [List.mem_singleton] at hb
      subst hb
      rintro rfl
      have nd := G'.nd
      rw [← List.take_append_drop env.length g'.bs] at nd
      exact (List.nodup_append.1 nd).2.2 a ha a (List.mem_of_getElem? (i := i) (by rw [List.getElem?_drop]; exact hbi)) rfl
    · rcases List.mem_append.1 hb with hb | hb
      · exact G'.nohw b (List.mem_of_mem_take hb)
      · rw [List.mem_singleton] at hb; subst hb; exact G'.nohw _ hbim
    · rcases Nat.lt_or_ge j env.length with hj | hj
      · have hb' : g'.bs[j]? = some b := by
          have hb : (g'.bs.take env.length ++ [bi])[j]? = some b := hb
          rw [List.getElem?_append_left (by simp; omega), List.getElem?_take, if_pos hj] at hb; exact hb
        have hx' : env[j]? = some x := by rw [List.getElem?_append_left hj] at hx; exact hx
        have := G'.box j x b (by rw [List.getElem?_append_left hj]; exact hx') hb'
        have hcl := env_cl G x (List.mem_of_getElem? hx')
        cases x with
        | cells l' os =>
          obtain ⟨cs, e, h1, h2, h3⟩ := this
          refine ⟨cs, e, h1, ?_, fun q hq => ?_⟩
          · have q1 := RepL.rebase l' _ hcl h2
            have q2 := RepL.upL' (base' := (env ++ [Bx.cells l []]).length) (by simp only [List.length_take, List.length_append, List.length_cons, List.length_nil, hbl]; omega) (by simp) l' _ q1
            rw [upL_cl l' hcl] at q2
            exact RepL.mono (HwLe.refl _ _) hpre l' _ q2
          · obtain ⟨k, l', y, f1, f2, f3⟩ := h3 q hq
            exact ⟨k, l', y, f1, f2, f3.mono fun b hb => ⟨by simp [g'', Gh.down, hb, hj], rfl, rfl⟩⟩
        | map l' => exact this
      · have hj' : j = env.length := by
          have := (List.getElem?_eq_some_iff.1 hx).1
          simp at this; omega
        subst hj'
        have hx' : x = .cells l [] := by simpa using hx.symm
        have hb' : b = bi := by
          have hb : (g'.bs.take env.length ++ [bi])[env.length]? = some b := hb
          rw [List.getElem?_append_right (by simp; omega)] at hb
          simp [hbl] at hb; exact hb.symm
        subst hx' hb'
        have := G'.box (env.length + i) (.cells l []) b (by rw [List.getElem?_append_right (by omega), Nat.add_sub_cancel_left]; exact hi) hbi
        obtain ⟨cs, e, h1, h2, _⟩ := this
        exact ⟨cs, e, h1, RepL.lift _ _ (RepL.pfL' l _ hl h2), fun q hq => by cases hq⟩
  have hE : Ext (· = .ext) w g w' g'' := by
    refine ⟨E.size, E.tape, E.os, E.output, E.hw, fun b L hb hL => ?_, fun j b hb => ?_, fun b hb => E.bsnew b ?_, fun b hb L e => E.orig b hb L (down_own e), E.old⟩
    · obtain ⟨q1, q2, q3⟩ := E.ext b L hb hL
      subst hL
      exact ⟨by simp [g'', Gh.down, q1], q2, q3⟩
    · have hj : j < env.length := by have := (List.getElem?_eq_some_iff.1 hb).1; rw [G.len] at this; exact this
      refine hpre j b ?_
      rw [List.getElem?_take, if_pos hj]
      exact E.bs j b hb
    · rcases List.mem_append.1 hb with hb | hb
      · exact List.mem_of_mem_take hb
      · rw [List.mem_singleton] at hb; subst hb; exact hbim
  obtain ⟨_, b, hb, k1, k2, k3, ey⟩ := rep_xs hr
  have hbb : b = bi := by rw [hbi] at hb; exact (Option.some.inj hb).symm
  subst hbb
  refine ⟨u, g'', _, false, _, rfl, hR', by simp, hG, hE, ?_, fun h => by cases h⟩
  rw [ey]
  refine rep_mk_leaf rfl rfl ?_
  simp only [RepV]
  refine ⟨by simp, b, ?_, k1, k2, k3, rfl⟩
  show (g'.bs.take env.length ++ [b])[env.length]? = some b
  rw [List.getElem?_append_right (by simp; omega)]
  simp [hbl]

/-- A slice of its own, in one new box. -/
def NewBox (env : List Bx) (k : Nat) (l : List AV) (r : AV) (ow : Bool) (env' : List Bx) : Prop :=
  ow = false ∧ ((r = .v (.slice none 0 0) ∧ l = [] ∧ env' = env) ∨
    ∃ zs c, env' = env ++ [.cells (l.flatMap AV.leaves ++ zs) []] ∧ r = .xs env.length 0 k l.length c ∧ l.length ≤ c ∧ c ≤ 9223372036854775807 ∧ (l.flatMap AV.leaves ++ zs).length = c * k ∧ pfL zs = true)

theorem XCalls.newBox {P : Program} {f : FuncId} {args : List AV} {env : List Bx} {k : Nat} {l : List AV} (he : Els k l) (h : XCalls P f args env fun r ow env' => ow = false ∧ NewSl env k l r env') : XCalls P f args env (NewBox env k l) := by
  refine h.only fun r ow env' hR => ?_
  rcases hR with ⟨ho, h | ⟨new, i, c, zs, h1, h2, h3, h4, h5, h6, h7⟩⟩
  · exact .inl ⟨ho, .inl h⟩
  · exact .inr ⟨new, i, 0, k, l.length, c, _, h1, h2, h5, pfL_append he.pf h7, rfl, .inr ⟨zs, c, rfl, rfl, h3, h4, h6, h7⟩⟩

theorem NewBox.shut {env env' : List Bx} {k : Nat} {l : List AV} {r : AV} {ow : Bool} (hk : 0 < k) (he : Els k l) (h47 : l.length ≤ 140737488355328) (h : NewBox env k l r ow env') : ∃ new, env' = env ++ new ∧ Shut env' env.length r (.sl k l) := by
  obtain ⟨_, h⟩ := h
  refine NewSl.shut hk he h47 ?_
  rcases h with h | ⟨zs, c, rfl, rfl, h3, h4, h6, h7⟩
  · exact .inl h
  · exact .inr ⟨_, 0, c, zs, rfl, rfl, h3, h4, rfl, h6, h7⟩

theorem mapUp_self {base m : Nat} {x : Bx} {l : List AV} (hl : pfL l = true) (hx : x = .cells l []) : Bx.up base x = x ∧ Bx.cl base m x := by
  subst hx
  refine ⟨by simp only [Bx.up, upL_pf _ _ hl], ?_⟩
  have := clL_of_pf (base := base) l hl
  simp only [Bx.cl]
  have gen : ∀ l : List AV, pfL l = true → clL base m l := by
    intro l
    induction l with
    | nil => intro _; trivial
    | cons x l ih => intro h; simp only [pfL, Bool.and_eq_true] at h; simp only [clL]; exact ⟨cl_pf x h.1, ih h.2⟩
  exact gen l hl

theorem clAll_app {base : Nat} {own new : List Bx} {env : List Bx} (he : ∀ x ∈ env, Bx.cl base 0 x) (h : ∀ x ∈ env ++ own, Bx.cl base own.length x) (hn : ∀ x ∈ new, Bx.cl base (own ++ new).length x) : ∀ x ∈ env ++ (own ++ new), Bx.cl base (own ++ new).length x := by
  have up : ∀ (a b : Nat) (x : Bx), a ≤ b → Bx.cl base a x → Bx.cl base b x := by
    have gV : ∀ (a b : Nat), a ≤ b → (∀ x : AV, x.cl base a → x.cl base b) := fun a b hab => by
      intro x
      refine AV.rec (motive_1 := fun x => x.cl base a → x.cl base b) (motive_2 := fun l => clL base a l → clL base b l) ?_ ?_ ?_ ?_ ?_ ?_ ?_ ?_ ?_ ?_ ?_ ?_ ?_ ?_ ?_ ?_ ?_ x
      all_goals intros
      all_goals simp only [AV.cl, clL] at *
      all_goals first | trivial | omega | (rename_i h1 h2; exact h1 h2) | grind
    have gL : ∀ (a b : Nat), a ≤ b → (∀ l : List AV, clL base a l → clL base b l) := fun a b hab l => by
      induction l with
      | nil => exact fun h => h
      | cons x l ih => intro h; simp only [clL] at h ⊢; exact ⟨gV a b hab x h.1, ih h.2⟩
    intro a b x hab h
    cases x with
    | cells l os => exact gL a b hab l h
    | map l => trivial
  intro x hx
  rcases List.mem_append.1 hx with hx | hx
  · exact up 0 _ x (Nat.zero_le _) (he x hx)
  · rcases List.mem_append.1 hx with hx | hx
    · exact up _ _ x (by simp) (h x (List.mem_append_right _ hx))
    · exact hn x hx

/-- A call that hands on a new box. -/
theorem callG_box {P : Program} {c : Cfg} {args : List AV} {f : FuncId} {dst : Option Tmp} {K : Cfg → Prop} {k : Nat} {l : List AV} (hc : Callable P f) (ha : args.map (AV.up c.base) = args) (he : Els k l) (hx : ∀ env, XCalls P f args env (NewBox env k l))
    (h0 : l = [] → K (c.after dst (.v (.slice none 0 0)) false))
    (h1 : ∀ cp zs, l.length ≤ cp → cp ≤ 9223372036854775807 → (l.flatMap AV.leaves ++ zs).length = cp * k → pfL zs = true → K (({ c with own := c.own ++ [.cells (l.flatMap AV.leaves ++ zs) []] } : Cfg).after dst (.bs c.own.length 0 k l.length cp) false)) : callG P c args f dst K := by
  unfold callG
  refine ⟨hc, _, by rw [ha]; exact hx _, fun hE hA r ow env' hR => ?_⟩
  obtain ⟨rfl, ⟨rfl, e, rfl⟩ | ⟨zs, cp, rfl, rfl, q1, q2, q3, q4⟩⟩ := hR
  · exact ⟨_, c.env, c.own, (up_pf _ _ rfl).symm, rfl, rfl, trivial, hE, hA, h0 e⟩
  · have hpf := pfL_append he.pf q4
    obtain ⟨m1, m2⟩ := mapUp_self (base := c.base) (m := (c.own ++ [Bx.cells (l.flatMap AV.leaves ++ zs) []]).length) hpf rfl
    refine ⟨.bs c.own.length 0 k l.length cp, c.env, c.own ++ [.cells (l.flatMap AV.leaves ++ zs) []], ?_, ?_, rfl, ?_, hE, clAll_app hE hA (fun x hx => ?_), h1 cp zs q1 q2 q3 q4⟩
    · simp [AV.up, Cfg.base, Nat.add_comm]
    · simp only [List.map_append, List.map_cons, List.map_nil, m1, List.append_assoc]
    · simp only [AV.cl]; simp
    · rw [List.mem_singleton] at hx; subst hx; exact m2

theorem wildA_box {P : Program} {c : Cfg} {p : Nat} {K : AV → List Bx → Prop} {f : FuncId} {args : List AV} {k : Nat} {l : List AV} (hc : Callable P f) (ha : args.map (AV.up c.env.length) = args) (he : Els k l) (hx : ∀ env, XCalls P f args env (NewBox env k l))
    (h0 : l = [] → K (.v (.slice none 0 0)) c.own)
    (h1 : ∀ cp zs, l.length ≤ cp → cp ≤ 9223372036854775807 → (l.flatMap AV.leaves ++ zs).length = cp * k → pfL zs = true → K (.bs c.own.length 0 k l.length cp) (c.own ++ [.cells (l.flatMap AV.leaves ++ zs) []])) :
    Callable P f ∧ ∃ R, XCalls P f (args.map (AV.up c.env.length)) ((c.env ++ c.own).map (Bx.up c.env.length)) R ∧
      ((∀ x ∈ c.env, Bx.cl c.env.length 0 x) → (∀ x ∈ c.env ++ c.own, Bx.cl c.env.length c.own.length x) → ∀ r ow env', R r ow env' → ∃ v own', r = AV.up c.env.length v ∧ env' = (c.env ++ own').map (Bx.up c.env.length) ∧ v.cl c.env.length own'.length ∧ (∀ x ∈ c.env ++ own', Bx.cl c.env.length own'.length x) ∧ ((∃ new, own' = c.own ++ new) ∨ ∃ i x, p ≤ i ∧ own' = c.own.set i x) ∧ K v own') := by
  refine ⟨hc, _, by rw [ha]; exact hx _, fun hE hA r ow env' hR => ?_⟩
  obtain ⟨rfl, ⟨rfl, e, rfl⟩ | ⟨zs, cp, rfl, rfl, q1, q2, q3, q4⟩⟩ := hR
  · exact ⟨_, c.own, (up_pf _ _ rfl).symm, rfl, trivial, hA, .inl ⟨[], by simp⟩, h0 e⟩
  · have hpf := pfL_append he.pf q4
    obtain ⟨m1, m2⟩ := mapUp_self (base := c.env.length) (m := (c.own ++ [Bx.cells (l.flatMap AV.leaves ++ zs) []]).length) hpf rfl
    refine ⟨.bs c.own.length 0 k l.length cp, c.own ++ [.cells (l.flatMap AV.leaves ++ zs) []], ?_, ?_, ?_, clAll_app hE hA (fun x hx => ?_), .inl ⟨_, rfl⟩, h1 cp zs q1 q2 q3 q4⟩
    · simp [AV.up, Nat.add_comm]
    · simp only [List.map_append, List.map_cons, List.map_nil, m1, List.append_assoc]
    · simp only [AV.cl]; simp
    · rw [List.mem_singleton] at hx; subst hx; exact m2
end Go.Ev
end
section
/- Written by this session: functions whose result lies in new boxes, which are shut. Conditions: none beyond those in each statement. -/
namespace Go.Ev
open Go

def forceDL (f : AV → (AV → Prop) → Prop) : List AV → (List AV → Prop) → Prop
  | [], K => K []
  | x :: r, K => f x fun x' => forceDL f r fun r' => K (x' :: r')
def forceD : Nat → AV → (AV → Prop) → Prop
  | 0, x, K => forceV x K
  | n + 1, x, K => match x with
    | .agg l => forceDL (forceD n) l fun l' => K (.agg l')
    | .tup l => forceDL (forceD n) l fun l' => K (.tup l')
    | x => forceV x K
theorem forceDL_iff {f : AV → (AV → Prop) → Prop} (hf : ∀ x K, f x K ↔ K x) : ∀ (l : List AV) (K : List AV → Prop), forceDL f l K ↔ K l
  | [], K => Iff.rfl
  | x :: r, K => by simp only [forceDL, hf, forceDL_iff hf r]
theorem forceD_iff : ∀ (n : Nat) (x : AV) (K : AV → Prop), forceD n x K ↔ K x
  | 0, x, K => forceV_iff x K
  | n + 1, x, K => by
    cases x
    case agg l => exact forceDL_iff (forceD_iff n) l _
    case tup l => exact forceDL_iff (forceD_iff n) l _
    all_goals (simp only [forceD]; exact forceV_iff _ K)

mutual
/-- x, the own boxes shut, is y. -/
def ShutQ (own : List Bx) : AV → AV → Prop
  | .bs i off k n _, y => ∃ l os els, own[i]? = some (.cells l os) ∧ y = .sl k els ∧ els.length = n ∧ off + n * k ≤ l.length ∧ n ≤ 140737488355328 ∧ (l.drop off).take (n * k) = els.flatMap AV.leaves ∧ ∀ x ∈ els, x.leaves.length = k ∧ pfL x.leaves = true
  | .v x, y => y = .v x ∨ ∃ k c, 0 < k ∧ x = .slice none 0 c ∧ y = .sl k []
  | .agg l, y => ∃ l', y = .agg l' ∧ ShutQL own l l'
  | .tup l, y => ∃ l', y = .tup l' ∧ ShutQL own l l'
  | .sl k l, y => y = .sl k l
  | .ifc t x, y => y = .ifc t x
  | .top, y => y = .top
  | _, _ => False
def ShutQL (own : List Bx) : List AV → List AV → Prop
  | [], l => l = []
  | x :: xs, l => ∃ y ys, l = y :: ys ∧ ShutQ own x y ∧ ShutQL own xs ys
end

theorem upL_take (base : Nat) (l : List AV) (k : Nat) : upL base (l.take k) = (upL base l).take k := by simp only [upL_eq, List.map_take]
theorem upL_drop (base : Nat) (l : List AV) (k : Nat) : upL base (l.drop k) = (upL base l).drop k := by simp only [upL_eq, List.map_drop]
theorem els_pf {k : Nat} {l : List AV} (h : ∀ x ∈ l, x.leaves.length = k ∧ pfL x.leaves = true) : pfL (l.flatMap AV.leaves) = true := Els.pf (k := k) h

mutual
theorem ShutQ.shut {env own : List Bx} {base : Nat} : ∀ (x y : AV), ShutQ own x y → Shut (env ++ own.map (Bx.up base)) env.length (x.up env.length) y
  | .bs i off k n _, y, h => by
    simp only [ShutQ] at h
    obtain ⟨l, os, els, h1, rfl, h3, h4, h5, h6, h7⟩ := h
    simp only [AV.up, Shut]
    refine ⟨by omega, upL base l, os, els, ?_, rfl, h3, by rw [upL_length]; exact h4, h5, ?_, h7⟩
    · rw [List.getElem?_append_right (by omega), Nat.add_sub_cancel_left, List.getElem?_map, h1]; rfl
    · rw [← upL_drop, ← upL_take, h6, upL_pf _ _ (els_pf h7)]
  | .v x, y, h => by simp only [ShutQ] at h; simp only [AV.up, Shut]; exact h
  | .agg l, y, h => by
    simp only [ShutQ] at h
    obtain ⟨l', rfl, h⟩ := h
    simp only [AV.up, Shut]
    exact ⟨l', rfl, ShutQL.shut l l' h⟩
  | .tup l, y, h => by
    simp only [ShutQ] at h
    obtain ⟨l', rfl, h⟩ := h
    simp only [AV.up, Shut]
    exact ⟨l', rfl, ShutQL.shut l l' h⟩
  | .sl k l, y, h => by simp only [ShutQ] at h; subst h; simp only [AV.up, Shut]; exact ⟨trivial, rfl⟩
  | .ifc t x, y, h => by simp only [ShutQ] at h; subst h; simp only [AV.up, Shut]; exact ⟨trivial, rfl⟩
  | .top, y, h => by simp only [ShutQ] at h; subst h; simp only [AV.up, Shut]; exact ⟨trivial, rfl⟩
  | .bp .., _, h => by simp only [ShutQ] at h
  | .xp .., _, h => by simp only [ShutQ] at h
  | .mo .., _, h => by simp only [ShutQ] at h
  | .mx .., _, h => by simp only [ShutQ] at h
  | .xs .., _, h => by simp only [ShutQ] at h
  | .gv .., _, h => by simp only [ShutQ] at h
  | .ep .., _, h => by simp only [ShutQ] at h
  | .fn .., _, h => by simp only [ShutQ] at h
theorem ShutQL.shut {env own : List Bx} {base : Nat} : ∀ (x y : List AV), ShutQL own x y → ShutL (env ++ own.map (Bx.up base)) env.length (upL env.length x) y
  | [], y, h => by simp only [ShutQL] at h; simp only [upL, ShutL]; exact h
  | x :: xs, y, h => by
    simp only [ShutQL] at h
    obtain ⟨z, zs, rfl, h1, h2⟩ := h
    simp only [upL, ShutL]
    exact ⟨z, zs, rfl, ShutQ.shut x z h1, ShutQL.shut xs zs h2⟩
end

@[irreducible] def ShutI (own : List Bx) (x y : AV) : Prop := ShutQ own x y

/-- At the end of a function whose boxes are shut. -/
def OutS (P : Program) (n : Nat) (rs : List ResultVar) (env : List Bx) (r' : AV) (e : Exit) (c : Cfg) : Prop :=
  (e = .normal ∨ e = .ret) ∧ c.env = env ∧ retB P n rs c fun r _ => forceD 3 r fun r => forceO c.own fun own => ShutI own r r'

theorem partA_mono {P : Program} {t : TypeId} {l : List AV} {off : Nat} {K K' : AV → Prop} (h : ∀ v, K v → K' v) (hr : partA P t l off K) : partA P t l off K' := by
  unfold partA at *
  cases h1 : (P.underlying t).isSome with
  | false => rw [h1] at hr; exact hr.elim
  | true =>
    rw [h1] at hr
    simp only [cond_true] at hr ⊢
    cases h2 : isAggT P t with
    | true => rw [h2] at hr; exact ⟨hr.1, h _ hr.2⟩
    | false =>
      rw [h2] at hr
      simp only [cond_false] at hr ⊢
      split at hr
      · exact h _ hr
      · exact hr.elim
theorem loadA_mono {P : Program} {env own : List Bx} {t : TypeId} {x : AV} {K K' : AV → Prop} (h : ∀ v, K v → K' v) (hr : loadA P env own t x K) : loadA P env own t x K' := by
  unfold loadA at *
  split at hr
  · split at hr
    · exact partA_mono h hr
    · exact hr.elim
  · obtain ⟨l, os, h1, h2⟩ := hr
    exact ⟨l, os, h1, partA_mono h h2⟩
  · exact partA_mono h hr
  · exact hr.elim
theorem retL_mono {P : Program} {n : Nat} {c : Cfg} : ∀ (rs : List ResultVar) {K K' : List AV → Prop}, (∀ l, K l → K' l) → retL P n c rs K → retL P n c rs K'
  | [], K, K', h, hr => h _ hr
  | .tmp t :: r, K, K', h, hr => by
    simp only [retL] at hr ⊢
    cases hb : (Nat.blt t n && !(Fr.get c.fr t).isTup) with
    | false => rw [hb] at hr; exact hr.elim
    | true => rw [hb] at hr; exact retL_mono r (fun l hl => h _ hl) hr
  | .cell a t :: r, K, K', h, hr => by
    simp only [retL] at hr ⊢
    cases hb : Nat.blt a n with
    | false => rw [hb] at hr; exact hr.elim
    | true =>
      rw [hb] at hr
      simp only [cond_true] at hr ⊢
      refine loadA_mono (fun v hv => ?_) hr
      cases hb2 : v.isTup with
      | true => rw [hb2] at hv; exact hv.elim
      | false => rw [hb2] at hv; exact retL_mono r (fun l hl => h _ hl) hv
theorem retB_mono {P : Program} {n : Nat} {rs : List ResultVar} {c : Cfg} {K K' : AV → Bool → Prop} (h : ∀ r ow, K r ow → K' r ow) (hr : retB P n rs c K) : retB P n rs c K' := by
  unfold retB at *
  split at hr
  · rename_i t
    cases hb : Nat.blt t n with
    | false => rw [hb] at hr; exact hr.elim
    | true => rw [hb] at hr; exact h _ _ hr
  · rename_i a t
    cases hb : Nat.blt a n with
    | false => rw [hb] at hr; exact hr.elim
    | true => rw [hb] at hr; exact loadA_mono (fun v hv => h _ _ hv) hr
  · exact retL_mono rs (fun l hl => h _ _ hl) hr

/-- A function whose result lies in new boxes, which are shut. -/
theorem XPure.bodyS {P : Program} {f : FuncId} {fn : Func} {cd : Code} {args : List AV} {r' : AV} (hc : Callable P f) (hf : P.funcs[f]? = some fn) (hb : fn.body = some cd) (ha : args.length ≤ fn.ntmps) (hp : r'.pf = true)
    (h : ∀ env, codeA P fn.ntmps cd (OutS P fn.ntmps fn.results.toList env r') ⟨frOf 0 args, [], [], env⟩) : XPure P f args r' false := by
  refine XPure.shut (R := fun env r _ env' => ∃ new, env' = env ++ new ∧ Shut env' env.length r r') hc hp (fun env => ?_) (fun env r ow env' h => h)
  refine XCalls.introB hf hb ha ((codeA_sound _ _ _ (h env)).mono fun e c' q => ?_)
  obtain ⟨q1, q2, q3⟩ := q
  refine ⟨q1, by rw [q2], retB_mono (fun r ow hr => ?_) q3⟩
  rw [forceD_iff, forceO_iff] at hr
  unfold ShutI at hr
  refine ⟨_, by rw [q2], ?_⟩
  have := hr.shut (env := c'.env) (base := c'.base)
  rw [← q2]
  exact this
end Go.Ev
end
