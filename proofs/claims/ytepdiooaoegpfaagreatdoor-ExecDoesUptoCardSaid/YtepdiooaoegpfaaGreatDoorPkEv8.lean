/- Written by programs of this session: laws and contracts that the law's proof stands on, merged into one text. Conditions: none beyond those in each statement. -/
import Derived.Test.YtepdiooaoegpfaaGreatDoorPkEv7
section
/- Written by this session: a function's contract out of its body's. Conditions: none beyond those in each statement. -/
namespace Go.Ev
open Go

def frOf : Nat → List AV → Fr
  | _, [] => []
  | i, x :: xs => (i, x) :: frOf (i + 1) xs

theorem frOf_get : ∀ (l : List AV) (i j : Nat), Fr.get (frOf i l) j = if i ≤ j then (l[j - i]?).getD .top else .top
  | [], i, j => by simp [frOf, Fr.get]
  | x :: l, i, j => by
    simp only [frOf, Fr.get_cons]
    by_cases h : i = j
    · subst h; simp
    · rw [if_neg h, frOf_get l (i + 1) j]
      by_cases h' : i ≤ j
      · rw [if_pos h', if_pos (by omega), show j - i = (j - (i + 1)) + 1 from by omega]; simp
      · rw [if_neg h', if_neg (by omega)]

def AV.isTup : AV → Bool | .tup _ => true | _ => false
theorem rep1_of {w : World} {hw : Hw} {bs : List Nat} {base : Nat} {x : AV} {y : Value} (hx : x.isTup = false) (h : Rep w hw bs base x y) : Rep1 w hw bs base x y := by
  cases x <;> first | exact h | (cases hx; done)

def retL (P : Program) (n : Nat) (c : Cfg) : List ResultVar → (List AV → Prop) → Prop
  | [], K => K []
  | .tmp t :: r, K => bif Nat.blt t n && !(Fr.get c.fr t).isTup then retL P n c r (fun l => K (Fr.get c.fr t :: l)) else False
  | .cell a t :: r, K => bif Nat.blt a n then loadA P c.env c.own t (Fr.get c.fr a) (fun v => bif v.isTup then False else retL P n c r (fun l => K (v :: l))) else False

def retB (P : Program) (n : Nat) (rs : List ResultVar) (c : Cfg) (K : AV → Bool → Prop) : Prop :=
  match rs with
  | [.tmp t] => bif Nat.blt t n then K (Fr.get c.fr t) (c.os.any (Nat.beq t)) else False
  | [.cell a t] => bif Nat.blt a n then loadA P c.env c.own t (Fr.get c.fr a) (fun v => K v false) else False
  | rs => retL P n c rs fun l => K (.tup l) false

def retA (P : Program) (n : Nat) (rs : List ResultVar) (c : Cfg) (K : AV → Bool → Prop) : Prop := retB P n rs c fun r ow => r.pf = true ∧ K r ow

section
variable {P : Program} {n : Nat} {W0 : World} {G0 : Gh} {c : Cfg} {a : Act} {w : World} {g : Gh}

theorem load_run {t : TypeId} {x : AV} {y : Value} {K : AV → Prop} (hi : Inv n W0 G0 c a w g) (h : loadA P c.env c.own t x K) (hr : Rep w g.hw g.bs c.base x y) :
    ∃ v u, K v ∧ (do loadVar t (← asAddr y) : Sem Value).run P w = .ok u w ∧ Rep w g.hw g.bs c.base v u := by
  obtain ⟨v, hk, hv⟩ := load_sound (ρA := fun _ => x) (x := .func 0) (dst := none) (type := 0) (pos := "") (after := #[]) (guard := none) h
  obtain ⟨u, hu, hrep⟩ := hv (fun _ => y) w g hi.good (fun _ _ => hr)
  refine ⟨v, u, hk, ?_, hrep⟩
  simp only [execOp, Sem.run_bind, Instr.loadAt] at hu
  cases y <;> simp only [Instr.sureAddr, run_stuck, Result.andThen_halt] at hu <;> try (cases hu; done)
  rename_i ad
  cases ad with
  | none => simp at hu
  | some ad =>
    simp only [Sem.run_pure, Result.andThen_ok] at hu
    simp only [asAddr, Sem.run_bind, Sem.run_pure, Result.andThen_ok]
    cases hl : (loadVar t ad).run P w with
    | ok q w' => rw [hl] at hu; simp at hu; simp [hu.1, hu.2]
    | halt q w' => rw [hl] at hu; simp at hu

def resOf (tmps : Array Value) : ResultVar → Sem Value
  | .tmp t => pure (tmps.getD t undef)
  | .cell a t => do loadVar t (← asAddr (tmps.getD a undef))

theorem retL_run (hi : Inv n W0 G0 c a w g) : ∀ (rs : List ResultVar) (K : List AV → Prop), retL P n c rs K → ∃ l us, K l ∧ (rs.mapM (resOf a.tmps)).run P w = .ok us w ∧ us.length = rs.length ∧ RepT w g.hw g.bs c.base l us
  | [], K, h => ⟨[], [], h, by simp, rfl, rfl⟩
  | .tmp t :: rs, K, h => by
    simp only [retL] at h
    cases ht : Nat.blt t n with
    | false => simp [ht] at h
    | true =>
      cases hu : (Fr.get c.fr t).isTup with
      | true => simp [hu] at h
      | false =>
      simp only [ht, hu, Bool.not_false, Bool.and_true, cond_true] at h
      obtain ⟨l, us, h1, h2, hl, h3⟩ := retL_run hi rs _ h
      have hr := hi.fr t (by rw [← Nat.blt_eq]; exact ht)
      refine ⟨_, a.tmps.getD t undef :: us, h1, by simp [List.mapM_cons, resOf, h2], by simp [hl], ?_⟩
      simp only [RepT]
      exact ⟨_, _, rfl, rep1_of hu hr, h3⟩
  | .cell b t :: rs, K, h => by
    simp only [retL] at h
    cases ht : Nat.blt b n with
    | false => simp [ht] at h
    | true =>
      simp only [ht, cond_true] at h
      have hr := hi.fr b (by rw [← Nat.blt_eq]; exact ht)
      obtain ⟨v, u, hk, hu, hrep⟩ := load_run hi h hr
      cases hv : v.isTup with
      | true => simp [hv] at hk
      | false =>
      simp only [hv, cond_false] at hk
      obtain ⟨l, us, h1, h2, hl, h3⟩ := retL_run hi rs _ hk
      refine ⟨_, u :: us, h1, ?_, by simp [hl], ?_⟩
      · simp only [List.mapM_cons, resOf, Sem.run_bind, Sem.run_pure] at hu ⊢
        rw [hu]
        simp [h2]
      · simp only [RepT]
        exact ⟨_, _, rfl, rep1_of hv hrep, h3⟩

theorem results_eq (fn : Func) (tmps : Array Value) : results fn tmps = (do let vs ← fn.results.mapM (resOf tmps); pure (if h : vs.size = 1 then vs[0] else .tuple vs)) := by
  unfold results
  congr 1

def resVal : List Value → Value
  | [u] => u
  | us => .tuple us.toArray
theorem resVal_eq (us : List Value) : (if h : us.toArray.size = 1 then us.toArray[0] else Value.tuple us.toArray) = resVal us := by
  match us with
  | [] => rfl
  | [u] => rfl
  | u :: u' :: us => rw [dif_neg (by simp)]; rfl

theorem results_run {fn : Func} {us : List Value} (h : (fn.results.toList.mapM (resOf a.tmps)).run P w = .ok us w) :
    (results fn a.tmps).run P w = .ok (resVal us) w := by
  rw [results_eq]
  simp only [Array.mapM_eq_mapM_toList, Sem.run_bind, Sem.run_map, h, Result.andThen_ok, Sem.run_pure, resVal_eq]

/-- What comes back, at a function's end. -/
theorem retB_run (hi : Inv n W0 G0 c a w g) {fn : Func} {K : AV → Bool → Prop} (h : retB P n fn.results.toList c K) :
    ∃ r ow u, K r ow ∧ (results fn a.tmps).run P w = .ok u w ∧ Rep w g.hw g.bs c.base r u ∧ (ow = true → ∃ s k l, r = .sl k l ∧ OwnAt w g (.slot s) k u) := by
  unfold retB at h
  split at h
  · rename_i t hrs
    cases ht : Nat.blt t n with
    | false => simp [ht] at h
    | true =>
      simp only [ht, cond_true] at h
      have htn : t < n := by rw [← Nat.blt_eq]; exact ht
      refine ⟨_, _, a.tmps.getD t undef, h, ?_, hi.fr t htn, fun ho => ?_⟩
      · exact results_run (us := [a.tmps.getD t undef]) (by rw [hrs]; simp [resOf])
      · obtain ⟨x, hx, hxt⟩ := List.any_eq_true.1 ho
        have := Nat.eq_of_beq_eq_true hxt
        subst this
        obtain ⟨k, l, h1, h2⟩ := hi.os _ hx
        exact ⟨_, k, l, h1, h2⟩
  · rename_i b t hrs
    cases ht : Nat.blt b n with
    | false => simp [ht] at h
    | true =>
      simp only [ht, cond_true] at h
      obtain ⟨v, u, hk, hu, hrep⟩ := load_run hi h (hi.fr b (by rw [← Nat.blt_eq]; exact ht))
      refine ⟨v, false, u, hk, ?_, hrep, by simp⟩
      exact results_run (us := [u]) (by rw [hrs]; simp only [List.mapM_cons, resOf, Sem.run_bind, Sem.run_pure] at hu ⊢; rw [hu]; simp)
  · rename_i hn1 hn2
    obtain ⟨l, us, h2, h3, hl, h4⟩ := retL_run hi _ _ h
    refine ⟨.tup l, false, .tuple us.toArray, h2, ?_, ⟨us.toArray, rfl, by simpa using h4⟩, by simp⟩
    have := results_run (fn := fn) h3
    have hne : us.length ≠ 1 := by
      rw [hl]
      intro hone
      match hrs : fn.results.toList, hone with
      | [.tmp t], _ => exact hn1 t hrs
      | [.cell b t], _ => exact hn2 b t hrs
    match us, hne with
    | [], _ => exact this
    | _ :: _ :: _, _ => exact this

theorem retA_run (hi : Inv n W0 G0 c a w g) {fn : Func} {K : AV → Bool → Prop} (h : retA P n fn.results.toList c K) :
    ∃ r ow u, K r ow ∧ r.pf = true ∧ (results fn a.tmps).run P w = .ok u w ∧ Rep w g.hw g.bs c.base r u ∧ (ow = true → ∃ s k l, r = .sl k l ∧ OwnAt w g (.slot s) k u) := by
  obtain ⟨r, ow, u, ⟨h1, h2⟩, h3⟩ := retB_run hi h
  exact ⟨r, ow, u, h2, h1, h3⟩

def outOwn (s : Option Nat) : Option Loc → Option Loc
  | some (.slot i) => if some i = s then some (.slot 0) else none
  | x => x

theorem Good.outB (G : Good w g c.mem c.base) (s : Option Nat) :
    let g' : Gh := { g with own := fun b => outOwn s (g.own b) }
    Good w g' (c.mem.map (Bx.up c.base)) (c.mem.map (Bx.up c.base)).length ∧ (∀ W0 G0, Ext (· = .ext) W0 G0 w g → Ext (· = .ext) W0 G0 w g') ∧ (∀ i k y, s = some i → OwnAt w g (.slot i) k y → OwnAt w g' (.slot 0) k y) := by
  have hlen : c.base ≤ c.mem.length := by simp [Cfg.base, Cfg.mem]
  have hbs : g.bs.length ≤ (c.mem.map (Bx.up c.base)).length := by simp [G.len]
  refine ⟨⟨by simp [G.len], G.nd, G.nohw, fun i x b hx hb => ?_, G.hw, fun b L e => ?_, G.glob⟩, fun W0 G0 E => ?_, ?_⟩
  · simp only [List.getElem?_map, Option.map_eq_some_iff] at hx
    obtain ⟨x, hx, rfl⟩ := hx
    have := G.box i x b hx hb
    cases x with
    | cells l os =>
      obtain ⟨cs, e, h1, h2, h3⟩ := this
      refine ⟨cs, e, h1, RepL.upL' hbs (by simpa using hlen) l _ h2, fun j hj => ?_⟩
      obtain ⟨k, l', y, e1, e2, e3⟩ := h3 j hj
      refine ⟨k, l', y, by rw [upL_eq, List.getElem?_map, e1]; rfl, e2, ?_⟩
      exact e3.mono fun b hb => ⟨by simp [hb, outOwn], rfl, rfl⟩
    | map l => exact this
  · cases h : g.own b with
    | none => simp [h, outOwn] at e
    | some L' => exact G.own b L' h
  · refine ⟨E.size, E.tape, E.os, E.output, E.hw, fun b L e hL => ?_, E.bs, E.bsnew, fun b hb L e => ?_, E.old⟩
    · obtain ⟨q1, q2, q3⟩ := E.ext b L e hL
      subst hL
      exact ⟨by simp [q1, outOwn], q2, q3⟩
    · cases h : g.own b with
      | none => simp [h, outOwn] at e
      | some L' =>
        obtain ⟨L'', e', he⟩ := E.orig b hb L' h
        refine ⟨L'', e', fun hk => ?_⟩
        have := he hk
        subst this hk
        simp [h, outOwn] at e
        exact e.symm
  · intro i k y hs h
    obtain ⟨a, n, c, e, hn, h⟩ := h
    refine ⟨a, n, c, e, hn, h.imp id ?_⟩
    rintro ⟨b, o, h, cs, e, ea, h1, h2, h3, h4, h5⟩
    exact ⟨b, o, h, cs, e, ea, by simp [h1, hs, outOwn], h2, h3, h4, h5⟩

theorem Good.out (G : Good w g c.mem c.base) (hcl : ∀ x ∈ c.env, Bx.cl c.base 0 x) (s : Option Nat) :
    let g' : Gh := { bs := g.bs.take c.base, hw := g.hw, own := fun b => match g.own b with
      | some (.slot i) => if some i = s then some (.slot 0) else none
      | some (.cell i j) => if i < c.base then some (.cell i j) else none
      | x => x }
    Good w g' c.env c.base ∧ (∀ W0 G0, G0.bs.length = c.base → Ext (· = .ext) W0 G0 w g → Ext (· = .ext) W0 G0 w g') ∧ (∀ i k y, s = some i → OwnAt w g (.slot i) k y → OwnAt w g' (.slot 0) k y) := by
  have hlen : c.base ≤ g.bs.length := by rw [G.len]; simp [Cfg.base, Cfg.mem]
  have hget : ∀ i (b : Nat), (g.bs.take c.base)[i]? = some b → i < c.base ∧ g.bs[i]? = some b := fun i b h => by
    rw [List.getElem?_take] at h
    split at h
    · exact ⟨by assumption, h⟩
    · cases h
  refine ⟨⟨by simp [Cfg.base] at hlen ⊢; omega, G.nd.sublist (List.take_sublist _ _), fun b hb => G.nohw b (List.mem_of_mem_take hb), fun i x b hx hb => ?_, G.hw, fun b L e => ?_, G.glob⟩, fun W0 G0 hW E => ?_, ?_⟩
  · obtain ⟨hi, hb'⟩ := hget i b hb
    have := G.box i x b (by rw [Cfg.mem, List.getElem?_append_left (by exact hi)]; exact hx) hb'
    have hc := hcl x (List.mem_of_getElem? hx)
    cases x with
    | cells l os =>
      obtain ⟨cs, e, h1, h2, h3⟩ := this
      refine ⟨cs, e, h1, by have := RepL.takeL l _ hc h2; rwa [Nat.add_zero] at this, fun j hj => ?_⟩
      obtain ⟨k, l', y, f1, f2, f3⟩ := h3 j hj
      exact ⟨k, l', y, f1, f2, f3.mono fun b hb => ⟨by simp [hb, hi], rfl, rfl⟩⟩
    | map l => exact this
  · cases h : g.own b with
    | none => simp [h] at e
    | some L' => exact G.own b L' h
  · refine ⟨E.size, E.tape, E.os, E.output, E.hw, fun b L e hL => ?_, fun i b h => ?_, fun b hb => E.bsnew b (List.mem_of_mem_take hb), fun b hb L e => ?_, E.old⟩
    · obtain ⟨q1, q2, q3⟩ := E.ext b L e hL
      subst hL
      exact ⟨by simp [q1], q2, q3⟩
    · have := (List.getElem?_eq_some_iff.1 h).1
      rw [List.getElem?_take, if_pos (by omega)]
      exact E.bs i b h
    · cases h : g.own b with
      | none => simp [h] at e
      | some L' =>
        obtain ⟨L'', e', he⟩ := E.orig b hb L' h
        refine ⟨L'', e', fun hk => ?_⟩
        have := he hk
        subst this hk
        simp [h] at e
        exact e.symm
  · intro i k y hs h
    obtain ⟨a, n, c, e, hn, h⟩ := h
    refine ⟨a, n, c, e, hn, h.imp id ?_⟩
    rintro ⟨b, o, h, cs, e, ea, h1, h2, h3, h4, h5⟩
    exact ⟨b, o, h, cs, e, ea, by simp [h1, hs], h2, h3, h4, h5⟩
end

/-- The frame in which a function's body begins. -/
theorem Inv.start {nt : Nat} {args : List AV} {env : List Bx} {w : World} {g : Gh} {vs : List Value} (ha : args.length ≤ nt) (G : Good w g env env.length) (hv : RepT w g.hw g.bs env.length args vs) :
    Inv nt w g ⟨frOf 0 args, [], [], env⟩ { tmps := vs.toArray ++ Array.replicate (nt - vs.toArray.size) undef, defers := [] } w g := by
  have hlen : ∀ (l : List AV) (us : List Value), RepT w g.hw g.bs env.length l us → us.length = l.length ∧ ∀ (i : Nat) (x : AV), l[i]? = some x → ∃ u, us[i]? = some u ∧ Rep1 w g.hw g.bs env.length x u := by
    intro l
    induction l with
    | nil => intro us h; simp only [RepT] at h; subst h; exact ⟨rfl, fun i x h => by simp at h⟩
    | cons x l ih =>
      intro us h
      simp only [RepT] at h
      obtain ⟨v, vs', rfl, h1, h2⟩ := h
      obtain ⟨q1, q2⟩ := ih _ h2
      refine ⟨by simp [q1], fun i y hy => ?_⟩
      cases i with
      | zero => simp at hy; subst hy; exact ⟨v, rfl, h1⟩
      | succ i => simpa using q2 i y (by simpa using hy)
  obtain ⟨hl, hget⟩ := hlen _ _ hv
  have hcl0 : ∀ x ∈ env, Bx.cl env.length 0 x := by
    intro x hx
    obtain ⟨i, hi, rfl⟩ := List.mem_iff_getElem.1 hx
    have hib : i < g.bs.length := by rw [G.len]; exact hi
    have := G.box i env[i] g.bs[i] (List.getElem?_eq_getElem hi) (List.getElem?_eq_getElem hib)
    cases hx : env[i] with
    | map l => trivial
    | cells l os =>
      rw [hx] at this
      obtain ⟨cs, e, _, h2, _⟩ := this
      have := RepL.toCl _ _ h2
      rw [G.len, Nat.sub_self] at this
      exact this
  refine ⟨?_, rfl, fun i hi => ?_, (fun i hi => by cases hi), by simpa [Cfg.mem, Cfg.base] using G, Ext.refl _ _ _, hcl0, G.len⟩
  · simp; omega
  · rw [frOf_get]
    simp only [Nat.zero_le, if_true, Nat.sub_zero]
    cases hx : args[i]? with
    | none => exact .inl rfl
    | some x =>
      obtain ⟨u, hu, hr⟩ := hget i x hx
      have hi' : i < vs.length := by rw [hl]; exact (List.getElem?_eq_some_iff.1 hx).1
      have : (vs.toArray ++ Array.replicate (nt - vs.toArray.size) undef).getD i undef = u := by
        rw [Array.getD_eq_getD_getElem?, Array.getElem?_append_left (by simpa using hi')]
        simp [hu]
      simp only [Option.getD_some]
      rw [this]
      exact rep_of hr

/-- The contract of a function out of its body's. -/
theorem XCalls.intro {P : Program} {f : FuncId} {fn : Func} {cd : Code} {args : List AV} {env : List Bx} {R : AV → Bool → List Bx → Prop} (hf : P.funcs[f]? = some fn) (hb : fn.body = some cd) (ha : args.length ≤ fn.ntmps)
    (h : XW P fn.ntmps cd (fun e c' => (e = .normal ∨ e = .ret) ∧ c'.env.length = env.length ∧ retA P fn.ntmps fn.results.toList c' (fun r ow => R r ow c'.env)) ⟨frOf 0 args, [], [], env⟩) :
    XCalls P f args env R := by
  intro w g vs G hs hv
  refine calls_of_wp hf hb (wp_mono (h.run w g _ w g (Inv.start ha G hv)) ?_)
  · rintro e a' w' ⟨c', g', ⟨he, hle, hret⟩, hi⟩
    obtain ⟨r, ow, u, hR, hpf, hrun, hrep, how⟩ := retA_run hi hret
    have hcl' := hi.ecl
    have fin : ∃ u g'' r ow env', Ending.returned u = .returned u ∧ R r ow env' ∧ env.length ≤ env'.length ∧ Good w' g'' env' env'.length ∧ Ext (· = .ext) w g w' g'' ∧ Rep w' g''.hw g''.bs env'.length r u ∧
        (ow = true → ∃ k l, r = .sl k l ∧ OwnAt w' g'' (.slot 0) k u) ∧ (results fn a'.tmps).run P w' = .ok u w' := by
      cases ow with
      | false =>
        obtain ⟨G', E', _⟩ := hi.good.out hcl' none
        exact ⟨u, _, r, false, c'.env, rfl, hR, Nat.le_of_eq hle.symm, G', E' w g (by rw [G.len, Cfg.base, hle]) hi.ext, (hrep.pf hpf).lift, by simp, hrun⟩
      | true =>
        obtain ⟨s, k, l, e1, e2⟩ := how rfl
        obtain ⟨G', E', O'⟩ := hi.good.out hcl' (some s)
        exact ⟨u, _, r, true, c'.env, rfl, hR, Nat.le_of_eq hle.symm, G', E' w g (by rw [G.len, Cfg.base, hle]) hi.ext, (hrep.pf hpf).lift, fun _ => ⟨k, l, e1, O' s k u rfl e2⟩, hrun⟩
    obtain ⟨u', g'', r', ow', env', _, q2, q3, q4, q5, q6, q7, q8⟩ := fin
    rcases he with rfl | rfl
    · exact ⟨hi.defers, u', q8, u', g'', r', ow', env', rfl, q2, q3, q4, q5, q6, q7⟩
    · exact ⟨hi.defers, u', q8, u', g'', r', ow', env', rfl, q2, q3, q4, q5, q6, q7⟩

/-- The same, of a function that hands on its boxes. -/
theorem XCalls.introB {P : Program} {f : FuncId} {fn : Func} {cd : Code} {args : List AV} {env : List Bx} {R : AV → Bool → List Bx → Prop} (hf : P.funcs[f]? = some fn) (hb : fn.body = some cd) (ha : args.length ≤ fn.ntmps)
    (h : XW P fn.ntmps cd (fun e c' => (e = .normal ∨ e = .ret) ∧ c'.env.length = env.length ∧ retB P fn.ntmps fn.results.toList c' (fun r ow => R (r.up c'.base) ow (c'.env ++ c'.own.map (Bx.up c'.base)))) ⟨frOf 0 args, [], [], env⟩) :
    XCalls P f args env R := by
  intro w g vs G hs hv
  refine calls_of_wp hf hb (wp_mono (h.run w g _ w g (Inv.start ha G hv)) ?_)
  rintro e a' w' ⟨c', g', ⟨he, hle, hret⟩, hi⟩
  obtain ⟨r, ow, u, hR, hrun, hrep, how⟩ := retB_run hi hret
  have hmem : c'.env ++ c'.own.map (Bx.up c'.base) = c'.mem.map (Bx.up c'.base) := by simp only [Cfg.mem, List.map_append, mapUp_cl hi.ecl]
  rw [hmem] at hR
  have hlen : c'.base ≤ c'.mem.length := by simp [Cfg.base, Cfg.mem]
  have hbs : g'.bs.length ≤ (c'.mem.map (Bx.up c'.base)).length := by simp [hi.good.len]
  have hle' : env.length ≤ (c'.mem.map (Bx.up c'.base)).length := by simp [Cfg.mem, hle]
  have fin : ∃ g'', Good w' g'' (c'.mem.map (Bx.up c'.base)) (c'.mem.map (Bx.up c'.base)).length ∧ Ext (· = .ext) w g w' g'' ∧ Rep w' g''.hw g''.bs (c'.mem.map (Bx.up c'.base)).length (r.up c'.base) u ∧
      (ow = true → ∃ k l, r.up c'.base = .sl k l ∧ OwnAt w' g'' (.slot 0) k u) := by
    cases ow with
    | false =>
      obtain ⟨G', E', _⟩ := hi.good.outB none
      exact ⟨_, G', E' _ _ hi.ext, hrep.up hbs (by simpa using hlen), fun h => by cases h⟩
    | true =>
      obtain ⟨s, k, l, e1, e2⟩ := how rfl
      obtain ⟨G', E', O'⟩ := hi.good.outB (some s)
      exact ⟨_, G', E' _ _ hi.ext, hrep.up hbs (by simpa using hlen), fun _ => ⟨k, l, by rw [e1]; rfl, O' s k u rfl e2⟩⟩
  obtain ⟨g'', q1, q2, q3, q4⟩ := fin
  rcases he with rfl | rfl
  · exact ⟨hi.defers, u, hrun, u, g'', _, ow, _, rfl, hR, hle', q1, q2, q3, q4⟩
  · exact ⟨hi.defers, u, hrun, u, g'', _, ow, _, rfl, hR, hle', q1, q2, q3, q4⟩
end Go.Ev
end
section
/- Written by this session: what is built out of parts, over trees. Conditions: none beyond those in each statement. -/
namespace Go.Ev
open Go

theorem fold_wr : ∀ (vs : List Value) (off j : Nat) (cs : Array Value), off + j + vs.length ≤ cs.size →
    ((vs.zipIdx j).foldl (fun (cs : Array Value) (p : Value × Nat) => cs.setIfInBounds (off + p.2) p.1) cs).toList = wrL cs.toList (off + j) vs
  | [], off, j, cs, h => by simp [wrL]
  | v :: vs, off, j, cs, h => by
    simp only [List.length_cons] at h
    simp only [List.zipIdx_cons, List.foldl_cons]
    rw [show off + j = off + j from rfl, fold_wr vs off (j + 1) (cs.setIfInBounds (off + j) v) (by simp; omega)]
    simp only [wrL, Array.toList_setIfInBounds]
    apply List.ext_getElem?
    intro i
    have hl : (cs.toList).length = cs.size := by simp
    simp only [List.append_assoc, List.cons_append]
    rcases Nat.lt_trichotomy i (off + j) with hi | hi | hi
    · rw [List.getElem?_append_left (by simp; omega), List.getElem?_append_left (by simp; omega)]
      rw [List.getElem?_take, List.getElem?_take, if_pos (by omega), if_pos hi, List.getElem?_set_ne (by omega)]
    · subst hi
      rw [List.getElem?_append_left (by simp; omega), List.getElem?_take, if_pos (by omega), List.getElem?_set_self (by omega)]
      rw [List.getElem?_append_right (by simp; omega)]
      simp [show min (off + j) cs.size = off + j from by omega]
    · have h1 : (List.take (off + (j + 1)) (cs.toList.set (off + j) v)).length = off + (j + 1) := by simp; omega
      have h2 : (List.take (off + j) cs.toList).length = off + j := by simp; omega
      rw [List.getElem?_append_right (l₁ := List.take (off + (j + 1)) (cs.toList.set (off + j) v)) (by rw [h1]; omega), h1, List.getElem?_append_right (l₁ := List.take (off + j) cs.toList) (by rw [h2]; omega), h2]
      obtain ⟨q, rfl⟩ : ∃ q, i = off + j + 1 + q := ⟨i - (off + j + 1), by omega⟩
      rw [show off + j + 1 + q - (off + (j + 1)) = q from by omega, show off + j + 1 + q - (off + j) = q + 1 from by omega, List.getElem?_cons_succ]
      rcases Nat.lt_or_ge q vs.length with hq | hq
      · rw [List.getElem?_append_left hq, List.getElem?_append_left hq]
      · rw [List.getElem?_append_right hq, List.getElem?_append_right hq, List.getElem?_drop, List.getElem?_drop, List.getElem?_set_ne (by simp; omega)]
        congr 1
        simp only [List.length_cons]
        omega

theorem fill_one {place : Nat → Option (Nat × Nat)} {cells : Array Value} {i off size : Nat} {v : Value} {rest : List (Nat × Value)} (hp : place i = some (off, size)) (hs : v.cells.size = size) (hf : off + v.cells.size ≤ cells.size) :
    ∃ cells' : Array Value, cells'.toList = wrL cells.toList off v.cells.toList ∧ Instr.fill place cells ((i, v) :: rest) = Instr.fill place cells' rest := by
  refine ⟨(v.cells.zipIdx.foldl (fun cs (c, j) => cs.setIfInBounds (off + j) c) cells), ?_, ?_⟩
  · rw [← Array.foldl_toList]
    have := fold_wr v.cells.toList off 0 cells (by simpa using hf)
    simp only [Nat.add_zero] at this
    rw [← this]
    simp [Array.toList_zipIdx]
  · simp only [Instr.fill, hp]
    rw [if_neg]
    simp; omega

/-- Parts laid one behind the other. -/
theorem fill_row {k : Nat} (hk : 0 < k) : ∀ (vs : List Value) (i : Nat) (cells : Array Value) (pre : List Value), (∀ v ∈ vs, v.cells.size = k) → cells.toList.take (i * k) = pre → cells.size = (i + vs.length) * k →
    ∃ cells' : Array Value, Instr.fill (fun i => some (i * k, k)) cells ((vs.zipIdx i).map fun (v, j) => (j, v)) = some cells' ∧ cells'.toList = pre ++ vs.flatMap fun v => v.cells.toList
  | [], i, cells, pre, _, hpre, hsz => ⟨cells, by simp [Instr.fill], by
      simp only [List.length_nil, Nat.add_zero] at hsz
      rw [← hpre, List.take_of_length_le (by simp; omega)]; simp⟩
  | v :: vs, i, cells, pre, hv, hpre, hsz => by
    have hv0 := hv v (by simp)
    have hmul : (i + (vs.length + 1)) * k = i * k + k + vs.length * k := by rw [Nat.add_mul, Nat.add_mul]; omega
    simp only [List.length_cons] at hsz
    rw [hmul] at hsz
    obtain ⟨c1, h1, h2⟩ := fill_one (place := fun i => some (i * k, k)) (cells := cells) (i := i) (rest := (vs.zipIdx (i + 1)).map fun (v, j) => (j, v)) rfl hv0 (by omega)
    have hvl : v.cells.toList.length = k := by simpa using hv0
    have htl : (cells.toList.take (i * k)).length = i * k := by simp; omega
    obtain ⟨c2, h3, h4⟩ := fill_row hk vs (i + 1) c1 (pre ++ v.cells.toList) (fun x hx => hv x (by simp [hx])) (by
      rw [h1, ← hpre]
      simp only [wrL]
      rw [List.take_append_of_le_length (by rw [List.length_append, htl, hvl, Nat.succ_mul]; omega)]
      rw [List.take_of_length_le (by rw [List.length_append, htl, hvl, Nat.succ_mul]; omega)]) (by
      have : c1.size = cells.size := by
        have := congrArg List.length h1
        simp only [wrL, List.length_append, htl, hvl, List.length_drop, Array.length_toList] at this
        omega
      rw [this, hsz, show i + 1 + vs.length = i + (vs.length + 1) from by omega, hmul])
    refine ⟨c2, ?_, ?_⟩
    · simp only [List.zipIdx_cons, List.map_cons]
      rw [h2]; exact h3
    · rw [h4]; simp
end Go.Ev
end
