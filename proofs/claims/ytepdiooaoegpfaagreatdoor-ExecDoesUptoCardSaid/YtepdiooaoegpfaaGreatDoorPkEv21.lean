/- Written by programs of this session: laws and contracts that the law's proof stands on, merged into one text. Conditions: none beyond those in each statement. -/
import Derived.Test.YtepdiooaoegpfaaGreatDoorPkEv20
section
/- Written by this session: of the boxes that a call makes, one alone is kept, or none; the result holds one row. Conditions: none beyond those in each statement. -/
namespace Go.Ev
open Go

mutual
theorem Shut.more {mem more : List Bx} {m : Nat} : ∀ x y : AV, Shut mem m x y → Shut (mem ++ more) m x y
  | .xs i off k n _, y, h => by
    simp only [Shut] at h ⊢
    obtain ⟨h0, l, os, els, h1, h2⟩ := h
    exact ⟨h0, l, os, els, by rw [List.getElem?_append_left (List.getElem?_eq_some_iff.1 h1).1]; exact h1, h2⟩
  | .v x, y, h => by simp only [Shut] at h ⊢; exact h
  | .agg l, y, h => by simp only [Shut] at h ⊢; obtain ⟨l', e, h⟩ := h; exact ⟨l', e, ShutL.more l l' h⟩
  | .tup l, y, h => by simp only [Shut] at h ⊢; obtain ⟨l', e, h⟩ := h; exact ⟨l', e, ShutL.more l l' h⟩
  | .top, y, h => by simp only [Shut] at h ⊢; exact h
  | .sl _ _, y, h => by simp only [Shut] at h ⊢; exact h
  | .bp _ _, y, h => by simp only [Shut] at h ⊢; exact h
  | .xp _ _, y, h => by simp only [Shut] at h ⊢; exact h
  | .mo _, y, h => by simp only [Shut] at h ⊢; exact h
  | .mx _, y, h => by simp only [Shut] at h ⊢; exact h
  | .bs .., y, h => by simp only [Shut] at h ⊢; exact h
  | .gv _ _, y, h => by simp only [Shut] at h ⊢; exact h
  | .ep _, y, h => by simp only [Shut] at h ⊢; exact h
  | .fn _ _ _, y, h => by simp only [Shut] at h ⊢; exact h
  | .ifc _ _, y, h => by simp only [Shut] at h ⊢; exact h
theorem ShutL.more {mem more : List Bx} {m : Nat} : ∀ x y : List AV, ShutL mem m x y → ShutL (mem ++ more) m x y
  | [], y, h => by simp only [ShutL] at h ⊢; exact h
  | x :: xs, y, h => by
    simp only [ShutL] at h ⊢
    obtain ⟨z, zs, e, h1, h2⟩ := h
    exact ⟨z, zs, e, Shut.more x z h1, ShutL.more xs zs h2⟩
end
theorem ShutL.app {mem : List Bx} {m : Nat} : ∀ {a b c d : List AV}, ShutL mem m a b → ShutL mem m c d → ShutL mem m (a ++ c) (b ++ d)
  | [], _, _, _, h1, h2 => by simp only [ShutL] at h1; subst h1; exact h2
  | x :: a, _, _, _, h1, h2 => by
    simp only [ShutL] at h1
    obtain ⟨y, ys, rfl, q1, q2⟩ := h1
    simp only [List.cons_append, ShutL]
    exact ⟨y, _, rfl, q1, ShutL.app q2 h2⟩

theorem XCalls.keepD {P : Program} {f : FuncId} {args : List AV} {env : List Bx} {R R' : AV → Bool → List Bx → Prop} (h : XCalls P f args env R)
    (hs : ∀ r ow env', R r ow env' → ∃ new a as es x, env' = env ++ new ∧ r = DT a as es x ∧ ((∃ y, x = .v y ∧ R' r false env) ∨ (∃ i off k n c, x = .xs i off k n c ∧ i < env.length ∧ R' r false env) ∨
      ∃ i off k n c l, x = .xs (env.length + i) off k n c ∧ new[i]? = some (.cells l []) ∧ pfL l = true ∧ R' (DT a as es (.xs env.length off k n c)) false (env ++ [.cells l []]))) : XCalls P f args env R' := by
  intro w g vs G hs0 hv
  refine (h w g vs G hs0 hv).mono ?_
  rintro e w' ⟨u, g', r, ow, env', rfl, hR, _, G', E, hr, _⟩
  obtain ⟨new, a, as, es, x, rfl, rfl, hx⟩ := hs r ow env' hR
  have hbl : g'.bs.length = env.length + new.length := by rw [G'.len]; simp
  have fin : ∀ (bn : List Nat) (nb : List Bx), bn.length = nb.length → bn.Nodup → (∀ b ∈ bn, b ∈ g'.bs.drop env.length) → (∀ (j : Nat) x b, nb[j]? = some x → bn[j]? = some b → ∃ l cs e, x = Bx.cells l [] ∧ pfL l = true ∧ w'.heap[b]? = some (.cells cs e (0, 0)) ∧ RepL w' g'.hw g'.bs (env ++ new).length l cs.toList) →
      ∃ g'' : Gh, g''.bs = g'.bs.take env.length ++ bn ∧ Good w' g'' (env ++ nb) (env ++ nb).length ∧ Ext (· = .ext) w g w' g'' ∧ g''.hw = g'.hw := fun bn nb hlen hnd hin hbox => by
    let g'' : Gh := { bs := g'.bs.take env.length ++ bn, hw := g'.hw, own := (g'.down env.length).own }
    have hin' : ∀ b ∈ bn, b ∈ g'.bs := fun b hb => List.mem_of_mem_drop (hin b hb)
    have hpre : ∀ j b, (g'.bs.take env.length)[j]? = some b → (g'.bs.take env.length ++ bn)[j]? = some b := fun j b e => by
      rw [List.getElem?_append_left (List.getElem?_eq_some_iff.1 e).1]; exact e
    refine ⟨g'', rfl, ?_, ?_, rfl⟩
    · refine ⟨by simp [g'', hbl, hlen], ?_, fun b hb => ?_, fun j x b hx hb => ?_, G'.hw, fun b L e => G'.own b L (down_own e), G'.glob⟩
      · show (g'.bs.take env.length ++ bn).Nodup
        rw [List.nodup_append]
        refine ⟨G'.nd.sublist (List.take_sublist _ _), hnd, fun a ha b hb => ?_⟩
        rintro rfl
        have nd := G'.nd
        rw [← List.take_append_drop env.length g'.bs] at nd
        exact (List.nodup_append.1 nd).2.2 a ha a (hin a hb) rfl
      · rcases List.mem_append.1 hb with hb | hb
        · exact G'.nohw b (List.mem_of_mem_take hb)
        · exact G'.nohw _ (hin' b hb)
      · rcases Nat.lt_or_ge j env.length with hj | hj
        · have hb' : g'.bs[j]? = some b := by
            have hb : (g'.bs.take env.length ++ bn)[j]? = some b := hb
            rw [List.getElem?_append_left (by simp; omega), List.getElem?_take, if_pos hj] at hb; exact hb
          have hx' : env[j]? = some x := by rw [List.getElem?_append_left hj] at hx; exact hx
          have hbx := G'.box j x b (by rw [List.getElem?_append_left hj]; exact hx') hb'
          have hcl := env_cl G x (List.mem_of_getElem? hx')
          cases x with
          | cells l' os =>
            obtain ⟨cs, e, h1, h2, h3⟩ := hbx
            refine ⟨cs, e, h1, ?_, fun q hq => ?_⟩
            · have q1 := RepL.rebase (b0 := env.length) l' _ hcl h2
              have q2 := RepL.upL' (base' := (env ++ nb).length) (by simp only [List.length_take, List.length_append, hbl]; omega) (by simp) l' _ q1
              rw [upL_cl l' hcl] at q2
              exact RepL.mono (HwLe.refl _ _) hpre l' _ q2
            · obtain ⟨k, l', y, f1, f2, f3⟩ := h3 q hq
              exact ⟨k, l', y, f1, f2, f3.mono fun b hb => ⟨by simp [g'', Gh.down, hb, hj], rfl, rfl⟩⟩
          | map l' => exact hbx
        · have hx' : nb[j - env.length]? = some x := by rwa [List.getElem?_append_right hj] at hx
          have hb' : bn[j - env.length]? = some b := by
            have hb : (g'.bs.take env.length ++ bn)[j]? = some b := hb
            rw [List.getElem?_append_right (by simp; omega)] at hb
            simpa [hbl] using hb
          obtain ⟨l, cs, e, rfl, hl, h1, h2⟩ := hbox _ x b hx' hb'
          exact ⟨cs, e, h1, RepL.lift _ _ (RepL.pfL' l _ hl h2), fun q hq => by cases hq⟩
    · refine ⟨E.size, E.tape, E.os, E.output, E.hw, fun b L hb hL => ?_, fun j b hb => ?_, fun b hb => E.bsnew b ?_, fun b hb L e => E.orig b hb L (down_own e), E.old⟩
      · obtain ⟨q1, q2, q3⟩ := E.ext b L hb hL
        subst hL
        exact ⟨by simp [g'', Gh.down, q1], q2, q3⟩
      · have hj : j < env.length := by have := (List.getElem?_eq_some_iff.1 hb).1; rw [G.len] at this; exact this
        refine hpre j b ?_
        rw [List.getElem?_take, if_pos hj]
        exact E.bs j b hb
      · rcases List.mem_append.1 hb with hb | hb
        · exact List.mem_of_mem_take hb
        · exact hin' b hb
  have none := fin [] [] rfl List.nodup_nil (fun b hb => absurd hb List.not_mem_nil) (fun j x b hx _ => by simp at hx)
  rcases hx with ⟨y, rfl, hR'⟩ | ⟨i, off, k, n, c, rfl, hi, hR'⟩ | ⟨i, off, k, n, c, l, rfl, hi, hl, hR'⟩
  · obtain ⟨g'', e1, e2, e3, _⟩ := none
    rw [List.append_nil] at e2
    exact ⟨u, g'', _, false, env, rfl, hR', Nat.le_refl _, e2, e3, flat_rep flat_dt hr, fun h => by cases h⟩
  · obtain ⟨g'', e1, e2, e3, e4⟩ := none
    rw [List.append_nil] at e2 e1
    obtain ⟨q, hq, back⟩ := dt_rep (x := .xs i off k n c) (y := .xs i off k n c) rfl hr
    refine ⟨u, g'', _, false, env, rfl, hR', Nat.le_refl _, e2, e3, back _ _ _ _ ?_, fun h => by cases h⟩
    simp only [RepV] at hq ⊢
    obtain ⟨_, b, hb, hq⟩ := hq
    exact ⟨hi, b, by rw [e1, List.getElem?_take, if_pos hi]; exact hb, hq⟩
  · have hnew : i < new.length := (List.getElem?_eq_some_iff.1 hi).1
    obtain ⟨q, hq, back⟩ := dt_rep (x := .xs (env.length + i) off k n c) (y := .xs env.length off k n c) rfl hr
    simp only [RepV] at hq
    obtain ⟨_, b, hb, hq⟩ := hq
    have hbx := G'.box (env.length + i) (.cells l []) b (by rw [List.getElem?_append_right (by omega), Nat.add_sub_cancel_left]; exact hi) hb
    obtain ⟨cs, et, h1, h2, _⟩ := hbx
    obtain ⟨g'', e1, e2, e3, _⟩ := fin [b] [.cells l []] rfl (by simp) (fun b' hb' => by
      rw [List.mem_singleton] at hb'; subst hb'; exact List.mem_of_getElem? (i := i) (by rw [List.getElem?_drop]; exact hb)) (fun j x b' hx hb' => by
      cases j with
      | zero => simp at hx hb'; subst hx hb'; exact ⟨l, cs, et, rfl, hl, h1, h2⟩
      | succ j => simp at hx)
    refine ⟨u, g'', _, false, _, rfl, hR', by simp, e2, e3, back _ _ _ _ ?_, fun h => by cases h⟩
    simp only [RepV]
    refine ⟨by simp, b, ?_, hq⟩
    rw [e1, List.getElem?_append_right (by simp; omega)]; simp [hbl]

theorem XCalls.bodyI {P : Program} {f : FuncId} {fn : Func} {cd : Code} {args : List AV} {env : List Bx} {Q : List Bx → AV → Prop} (hf : P.funcs[f]? = some fn) (hb : fn.body = some cd) (ha : args.length ≤ fn.ntmps)
    (h : codeA P fn.ntmps cd (fun e c => (e = .normal ∨ e = .ret) ∧ c.env = env ∧ retB P fn.ntmps fn.results.toList c fun r _ => forceD 3 r fun r => forceO c.own fun own => Q own r) ⟨frOf 0 args, [], [], env⟩) :
    XCalls P f args env fun r _ env' => ∃ r0 own0, r = AV.up env.length r0 ∧ env' = env ++ own0.map (Bx.up env.length) ∧ Q own0 r0 := by
  refine XCalls.introB hf hb ha ((codeA_sound _ _ _ h).mono fun e c' q => ?_)
  obtain ⟨q1, q2, q3⟩ := q
  refine ⟨q1, by rw [q2], retB_mono (fun r ow hr => ?_) q3⟩
  rw [forceD_iff, forceO_iff] at hr
  exact ⟨r, c'.own, by simp only [Cfg.base, q2], by simp only [Cfg.base, q2], hr⟩
end Go.Ev
end
