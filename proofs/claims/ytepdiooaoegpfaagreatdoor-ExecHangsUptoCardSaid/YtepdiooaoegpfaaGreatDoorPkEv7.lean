/- Written by programs of this session: laws and contracts that the law's proof stands on, merged into one text. Conditions: none beyond those in each statement. -/
import Derived.Test.YtepdiooaoegpfaaGreatDoorPkEv6
section
/- Written by this session: a region in the order of its text, over trees. Conditions: none beyond those in each statement. -/
namespace Go.Ev
open Go

def guardA (n : Nat) (ops : List Oper) (c : Cfg) (o : Oper) (yes no : Prop) : Prop :=
  match o.guard with
  | none => yes
  | some (j, want) => match (ops[j]?).bind (·.dst) with
    | none => no
    | some t => bif Nat.blt t n then (match Fr.get c.fr t with
      | .v (.bool b) => (b = want → yes) ∧ (b ≠ want → no)
      | .v (.tuple _) => no
      | _ => False) else False

def opsA (P : Program) (n : Nat) (ops : List Oper) : List Oper → Cfg → (Cfg → Prop) → Prop
  | [], c, K => K c
  | o :: r, c, K => match o.guard with
    | none => stepA P n ops o c fun c' => normA c' fun c' => opsA P n ops r c' K
    | some _ => guardA n ops c o (stepA P n ops o c fun c' => normA c' fun c' => opsA P n ops r c' K) (bif dstOk n o.dst then normA (c.put o.dst (.v undef)) fun c' => opsA P n ops r c' K else False) ∨ guardV P n ops c o fun c' => normA c' fun c' => opsA P n ops r c' K

section
variable {P : Program} {n : Nat} {ops : Array Oper} {c : Cfg}

theorem guard_wanted {W0 : World} {G0 : Gh} {a : Act} {w : World} {g : Gh} {o : Oper} {yes no : Prop} (hi : Inv n W0 G0 c a w g) (h : guardA n ops.toList c o yes no) :
    (Region.wanted o (yielded ops a.tmps) = true ∧ yes) ∨ (Region.wanted o (yielded ops a.tmps) = false ∧ no) := by
  unfold guardA at h
  unfold Region.wanted
  split at h
  · rename_i hg; rw [hg]; exact .inl ⟨rfl, h⟩
  · rename_i j want hg
    rw [hg]
    simp only
    have hy : ∀ t, (ops.toList[j]?).bind (·.dst) = some t → yielded ops a.tmps j = (match a.tmps[t]? with
      | some (.bool b) => some b
      | _ => none) := by
      intro t ht
      unfold yielded
      have : (ops[j]?).bind (·.dst) = some t := by simpa using ht
      rw [this]
      rfl
    split at h
    · rename_i hd
      refine .inr ⟨?_, h⟩
      have : (ops[j]?).bind (·.dst) = none := by simpa using hd
      unfold yielded
      rw [this]
      rfl
    · rename_i t ht
      cases hb : Nat.blt t n with
      | false => rw [hb] at h; exact h.elim
      | true =>
        rw [hb] at h
        simp only [cond_true] at h
        have htn : t < n := by rw [← Nat.blt_eq]; exact hb
        have hr := hi.fr t htn
        have hget : a.tmps[t]? = some (a.tmps.getD t undef) := by
          rw [Array.getD_eq_getD_getElem?, Array.getElem?_eq_getElem (by rw [hi.size]; exact htn)]; rfl
        rw [hy t ht, hget]
        split at h
        · rename_i b hx
          rw [hx] at hr
          obtain ⟨e, _⟩ := rep_v hr
          rw [e]
          simp only
          by_cases hw : b = want
          · subst hw; exact .inl ⟨by simp, h.1 rfl⟩
          · exact .inr ⟨by simpa using hw, h.2 hw⟩
        · rename_i vs hx
          rw [hx] at hr
          obtain ⟨e, _⟩ := rep_v hr
          rw [e]
          exact .inr ⟨rfl, h⟩
        · exact h.elim

theorem opsA_sound {K : Cfg → Prop} {W0 : World} {G0 : Gh} {Q : Exit → Act → World → Prop} (hQ : ∀ c' a' w' g', K c' → Inv n W0 G0 c' a' w' g' → Q .normal a' w') :
    ∀ (l : List Oper) (i : Nat) (c : Cfg) (a : Act) (w : World) (g : Gh), (∀ j : Nat, l[j]? = ops[i + j]?) → opsA P n ops.toList l c K → Inv n W0 G0 c a w g → wpOps P ops Q (List.range' i l.length) a w
  | [], _, c, a, w, g, _, h, hi => hQ c a w g h hi
  | o :: l, i, c, a, w, g, hl, h, hi => by
    have h0 : ops[i]? = some o := by simpa using (hl 0).symm
    have hl' : ∀ j : Nat, l[j]? = ops[i + 1 + j]? := fun j => by
      have := hl (j + 1)
      simpa [Nat.add_assoc, Nat.add_comm 1 j] using this
    simp only [List.length_cons, List.range'_succ, wpOps, h0]
    simp only [opsA, normA_iff] at h
    have h : guardA n ops.toList c o (stepA P n ops.toList o c fun c' => opsA P n ops.toList l c' K) (bif dstOk n o.dst then opsA P n ops.toList l (c.put o.dst (.v undef)) K else False) ∨ guardV P n ops.toList c o fun c' => opsA P n ops.toList l c' K := by
      cases hg : o.guard with
      | none => rw [hg] at h; exact .inl (by unfold guardA; rw [hg]; exact h)
      | some q => rw [hg] at h; exact h
    rcases h with h | h
    rotate_left
    · obtain ⟨c', u, hk, ⟨hw, q1, q2⟩ | ⟨hw, q2⟩⟩ := guardV_sound hi h
      · rw [if_pos hw]
        refine .inl ?_
        unfold Oper.wp
        rw [q1]
        exact opsA_sound hQ l (i + 1) c' _ w g hl' hk q2
      · rw [if_neg (by rw [hw]; simp)]
        exact opsA_sound hQ l (i + 1) c' _ w g hl' hk q2
    rcases guard_wanted hi h with ⟨hw, h⟩ | ⟨hw, h⟩
    · rw [if_pos hw]
      exact .inl (stepA_sound h W0 G0 a w g hi _ Q fun c' a' w' g' hk hi' => opsA_sound hQ l (i + 1) c' a' w' g' hl' hk hi')
    · rw [if_neg (by rw [hw]; simp)]
      cases hd : dstOk n o.dst with
      | false => rw [hd] at h; exact h.elim
      | true =>
        rw [hd] at h
        exact opsA_sound hQ l (i + 1) _ _ w g hl' h (hi.putO (fun x e => by rw [e] at hd; rw [← Nat.blt_eq]; exact hd) (rep_v_mk rfl))

/-- A region in the order of its text. -/
theorem XW.region {Q : Exit → Cfg → Prop} {id : Nat} (h : opsA P n ops.toList ops.toList c fun c' => Q .normal c') : XW P n (.region id ops false) Q c := ⟨fun W0 G0 a w g hi => by
  refine wp_region ?_
  have := opsA_sound (P := P) (n := n) (ops := ops) (W0 := W0) (G0 := G0) (Q := fun e a' w' => ∃ c' g', Q e c' ∧ Inv n W0 G0 c' a' w' g') (fun c' a' w' g' hk hi' => ⟨c', g', hk, hi'⟩) ops.toList 0 c a w g (by simp) h hi
  rwa [← List.range_eq_range', Array.length_toList] at this⟩

theorem XW.cond {Q : Exit → Cfg → Prop} {x : Operand} {thn els : Code} (hx : okTmp n x = true) (h : match evA c x with
    | .v (.bool b) => (b = true → XW P n thn Q c) ∧ (b = false → XW P n els Q c)
    | _ => False) : XW P n (.cond x thn els) Q c := ⟨fun W0 G0 a w g hi => by
  split at h
  · rename_i b hb
    have hr := hi.eval hx
    rw [hb] at hr
    obtain ⟨e, _⟩ := rep_v hr
    exact wp_cond_split e (fun ht => (h.1 ht).run W0 G0 a w g hi) (fun hf => (h.2 hf).run W0 G0 a w g hi)
  · exact h.elim⟩
end
end Go.Ev
end
section
/- Written by this session: what is to be shown of a body, over trees, as a proposition; and that it is enough. Conditions: none beyond those in each statement. -/
namespace Go.Ev
open Go

def condA (n : Nat) (x : Operand) (c : Cfg) (thn els : Prop) : Prop :=
  bif okTmp n x then (match evA c x with
    | .v (.bool b) => (b = true → thn) ∧ (b = false → els)
    | _ => False) else False

def codeA (P : Program) (n : Nat) : Code → (Exit → Cfg → Prop) → Cfg → Prop
  | .skip, Q, c => Q .normal c
  | .label _, Q, c => Q .normal c
  | .region id ops draw, Q, c => bif draw then XW P n (.region id ops draw) Q c else opsA P n ops.toList ops.toList c fun c' => Q .normal c'
  | .seq x y, Q, c => codeA P n x (Then (fun c' => codeA P n y Q c') Q) c
  | .cond x thn els, Q, c => condA n x c (codeA P n thn Q c) (codeA P n els Q c)
  | .block id x, Q, c => codeA P n x (InBlock id Q) c
  | .exit id, Q, c => Q (.exit id) c
  | .ret, Q, c => Q .ret c
  | .loop x, Q, c => XW P n (.loop x) Q c
  | .rangeFunc f ps x y, Q, c => XW P n (.rangeFunc f ps x y) Q c
  | .scope x, Q, c => XW P n (.scope x) Q c
  | .goto l, Q, c => XW P n (.goto l) Q c
  | .refuse s, Q, c => XW P n (.refuse s) Q c

theorem codeA_sound {P : Program} {n : Nat} : ∀ (cd : Code) (Q : Exit → Cfg → Prop) (c : Cfg), codeA P n cd Q c → XW P n cd Q c
  | .skip, _, _, h => XW.skip h
  | .label _, _, _, h => XW.label h
  | .region id ops draw, Q, c, h => by
    cases draw with
    | true => exact h
    | false => exact XW.region h
  | .seq x y, Q, c, h => by
    refine XW.seq ((codeA_sound x _ c h).mono fun e c' q => ?_)
    cases e with
    | normal => exact codeA_sound y Q c' q
    | _ => exact q
  | .cond x thn els, Q, c, h => by
    simp only [codeA, condA] at h
    cases hx : okTmp n x with
    | false => rw [hx] at h; exact h.elim
    | true =>
      rw [hx] at h
      refine XW.cond hx ?_
      simp only [cond_true] at h
      split at h
      · rename_i b hb
        try rw [hb]
        exact ⟨fun e => codeA_sound thn Q c (h.1 e), fun e => codeA_sound els Q c (h.2 e)⟩
      · exact h.elim
  | .block id x, Q, c, h => XW.block (codeA_sound x _ c h)
  | .exit id, _, _, h => XW.exit h
  | .ret, _, _, h => XW.ret h
  | .loop _, _, _, h => h
  | .rangeFunc .., _, _, h => h
  | .scope _, _, _, h => h
  | .goto _, _, _, h => h
  | .refuse _, _, _, h => h

/-- The contract of a function out of what is to be shown of its body. -/
theorem XCalls.body {P : Program} {f : FuncId} {fn : Func} {cd : Code} {args : List AV} {env : List Bx} {R : AV → Bool → List Bx → Prop} (hf : P.funcs[f]? = some fn) (hb : fn.body = some cd) (ha : args.length ≤ fn.ntmps)
    (h : codeA P fn.ntmps cd (fun e c' => (e = .normal ∨ e = .ret) ∧ c'.env.length = env.length ∧ retA P fn.ntmps fn.results.toList c' (fun r ow => R r ow c'.env)) ⟨frOf 0 args, [], [], env⟩) :
    XCalls P f args env R := XCalls.intro hf hb ha (codeA_sound _ _ _ h)

/-- At the end of a function that hands on its boxes. -/
def OutB (P : Program) (n : Nat) (rs : List ResultVar) (k : Nat) (R : AV → Bool → List Bx → Prop) (e : Exit) (c : Cfg) : Prop :=
  (e = .normal ∨ e = .ret) ∧ c.env.length = k ∧ retB P n rs c fun r ow => R (r.up c.base) ow (c.env ++ c.own.map (Bx.up c.base))

theorem XCalls.bodyB {P : Program} {f : FuncId} {fn : Func} {cd : Code} {args : List AV} {env : List Bx} {R : AV → Bool → List Bx → Prop} (hf : P.funcs[f]? = some fn) (hb : fn.body = some cd) (ha : args.length ≤ fn.ntmps)
    (h : codeA P fn.ntmps cd (OutB P fn.ntmps fn.results.toList env.length R) ⟨frOf 0 args, [], [], env⟩) :
    XCalls P f args env R := XCalls.introB hf hb ha (codeA_sound _ _ _ h)

/-- At the end: what comes back, of a function that leaves boxes alone. -/
def Out (P : Program) (n : Nat) (rs : List ResultVar) (env : List Bx) (r : AV) (ow : Bool) (e : Exit) (c : Cfg) : Prop :=
  (e = .normal ∨ e = .ret) ∧ c.env = env ∧ retA P n rs c fun r' ow' => r' = r ∧ (ow = true → ow' = true)

theorem XPure.body {P : Program} {f : FuncId} {fn : Func} {cd : Code} {args : List AV} {r : AV} {ow : Bool} (hc : Callable P f) (hf : P.funcs[f]? = some fn) (hb : fn.body = some cd) (ha : args.length ≤ fn.ntmps) (hp : r.pf = true)
    (h : ∀ env, codeA P fn.ntmps cd (Out P fn.ntmps fn.results.toList env r ow) ⟨frOf 0 args, [], [], env⟩) : XPure P f args r ow := by
  refine ⟨hc, hp, fun env => ?_⟩
  have h1 := XCalls.intro (R := fun r' ow' env' => r' = r ∧ (ow = true → ow' = true) ∧ env' = env) hf hb ha ((codeA_sound _ _ _ (h env)).mono fun e c' q => by
    obtain ⟨q1, q2, q3⟩ := q
    refine ⟨q1, by rw [q2], ?_⟩
    have e : (fun r' ow' => (r' = r ∧ (ow = true → ow' = true) ∧ c'.env = env)) = (fun r' ow' => r' = r ∧ (ow = true → ow' = true)) := by
      funext r' ow'; simp [q2]
    rw [e]; exact q3)
  intro w g vs G hs hv
  refine (h1 w g vs G hs hv).mono ?_
  rintro e w' ⟨u, g', r', ow', env', k1, ⟨rfl, k2, rfl⟩, k3, k4, k5, k6, k7⟩
  refine ⟨u, g', r', ow, env', k1, ⟨rfl, rfl, rfl⟩, k3, k4, k5, k6, fun h => k7 (k2 h)⟩
end Go.Ev
end
section
/- Written by this session: what may be forgotten of a frame of trees. Conditions: none beyond those in each statement. -/
namespace Go.Ev
open Go

/-- y says no more than x. -/
def Leq (x y : AV) : Prop := y = .top ∨ x = y ∨ (x = .v (.slice none 0 0) ∧ ∃ k, 0 < k ∧ y = .sl k [])

def LeqL (base m : Nat) : List AV → List AV → Prop
  | [], [] => True
  | x :: xs, y :: ys => Leq x y ∧ y.cl base m ∧ LeqL base m xs ys
  | _, _ => False

def FrLeq (base m : Nat) (f : Fr) : Fr → Prop
  | [] => True
  | (i, y) :: r => Leq (Fr.get f i) y ∧ y.cl base m ∧ FrLeq base m f r

def AV.slK : AV → Option (Nat × List AV)
  | .sl k l => some (k, l)
  | _ => none

def OsLeq (n : Nat) (c : Cfg) (f0 : Fr) : List Nat → Prop
  | [] => True
  | i :: r => (i ∈ c.os ∨ (i < n ∧ Fr.get c.fr i = .v (.slice none 0 0))) ∧ (Fr.get f0 i).slK.isSome = true ∧ OsLeq n c f0 r

def OwnLeq (base m : Nat) : List Bx → List Bx → Prop
  | _, [] => True
  | .cells l os :: r, .cells l0 os0 :: r0 => LeqL base m l l0 ∧ (∀ j ∈ os0, (j ∈ os ∨ l[j]? = some (.v (.slice none 0 0))) ∧ (l0[j]?.bind AV.slK).isSome = true) ∧ OwnLeq base m r r0
  | .map l :: r, .map l0 :: r0 => l = l0 ∧ OwnLeq base m r r0
  | _, _ => False

section
variable {w : World} {hw : Hw} {bs : List Nat} {base m : Nat}

theorem nil_slot {L : Loc} {g : Gh} {k : Nat} : OwnAt w g L k (.slice none 0 0) := ⟨_, _, _, rfl, Nat.le_refl _, .inl rfl⟩

theorem Rep.cut {x y : AV} {v : Value} (h : Leq x y) (hc : y.cl base m) (hr : Rep w hw bs base x v) : Rep w hw (bs.take (base + m)) base y v := by
  have main : Rep w hw bs base y v := by
    rcases h with rfl | rfl | ⟨rfl, k, hk, rfl⟩
    · exact .inl rfl
    · exact hr
    · obtain ⟨rfl, _⟩ := rep_v hr
      exact rep_sl_mk rfl (Nat.le_refl _) ⟨hk, by simp⟩ (.inl rfl)
  have one : ∀ {y : AV} {v : Value}, y.cl base m → Rep1 w hw bs base y v → Rep1 w hw (bs.take (base + m)) base y v := fun hc h => h.imp id fun ⟨h1, h2⟩ => ⟨RepV.takeV _ _ hc h1, h2⟩
  cases y with
  | tup l =>
    obtain ⟨vs, e, h⟩ := main
    refine ⟨vs, e, ?_⟩
    simp only [AV.cl] at hc
    have : ∀ (l : List AV) (vs : List Value), clL base m l → RepT w hw bs base l vs → RepT w hw (bs.take (base + m)) base l vs := by
      intro l
      induction l with
      | nil => intro vs _ h; exact h
      | cons x l ih =>
        intro vs hc h
        simp only [RepT, clL] at h hc ⊢
        obtain ⟨v, vs', e, q1, q2⟩ := h
        exact ⟨v, vs', e, one hc.1 q1, ih _ hc.2 q2⟩
    exact this l _ hc h
  | _ => exact one hc main

theorem RepL.cut : ∀ {l l0 : List AV} {vs : List Value}, LeqL base m l l0 → RepL w hw bs base l vs → RepL w hw (bs.take (base + m)) base l0 vs
  | [], [], _, _, h => by simpa only [RepL] using h
  | x :: l, y :: l0, _, hl, h => by
    simp only [LeqL] at hl
    simp only [RepL] at h ⊢
    obtain ⟨v, vs', e, q1, q2⟩ := h
    have hy : RepV w hw bs base y [v] ∧ y.isAgg = false := by
      rcases hl.1 with rfl | rfl | ⟨rfl, k, hk, rfl⟩
      · exact ⟨by simp only [RepV]; exact ⟨v, rfl⟩, rfl⟩
      · exact ⟨q1.1, q1.2.1⟩
      · have h := q1.1
        simp only [RepV] at h
        simp only [List.cons.injEq, and_true] at h
        subst h
        exact ⟨by simp only [RepV]; exact ⟨none, 0, rfl, Nat.le_refl _, ⟨hk, by simp⟩, .inl trivial⟩, rfl⟩
    exact ⟨v, vs', e, ⟨RepV.takeV _ _ hl.2.1 hy.1, hy.2, q1.2.2⟩, RepL.cut hl.2.2 q2⟩
  | [], _ :: _, _, hl, _ => by simp only [LeqL] at hl
  | _ :: _, [], _, hl, _ => by simp only [LeqL] at hl
end

theorem OwnLeq.get {base m : Nat} : ∀ {o o0 : List Bx} {i : Nat} {x0 : Bx}, OwnLeq base m o o0 → o0[i]? = some x0 → ∃ x, o[i]? = some x ∧ OwnLeq base m [x] [x0]
  | o, [], i, x0, _, h => by simp at h
  | .cells l os :: r, .cells l0 os0 :: r0, 0, x0, h, e => by
    simp only [List.getElem?_cons_zero, Option.some.injEq] at e
    subst e
    simp only [OwnLeq] at h
    exact ⟨_, rfl, by simp only [OwnLeq]; exact ⟨h.1, h.2.1, trivial⟩⟩
  | .map l :: r, .map l0 :: r0, 0, x0, h, e => by
    simp only [List.getElem?_cons_zero, Option.some.injEq] at e
    subst e
    simp only [OwnLeq] at h
    exact ⟨_, rfl, by simp only [OwnLeq]; exact ⟨h.1, trivial⟩⟩
  | .cells l os :: r, .cells l0 os0 :: r0, i + 1, x0, h, e => by
    simp only [OwnLeq] at h
    obtain ⟨x, hx, hr⟩ := OwnLeq.get h.2.2 (i := i) (by simpa using e)
    exact ⟨x, by simpa using hx, hr⟩
  | .map l :: r, .map l0 :: r0, i + 1, x0, h, e => by
    simp only [OwnLeq] at h
    obtain ⟨x, hx, hr⟩ := OwnLeq.get h.2 (i := i) (by simpa using e)
    exact ⟨x, by simpa using hx, hr⟩
  | [], .cells _ _ :: _, _, _, h, _ => by simp only [OwnLeq] at h
  | [], .map _ :: _, _, _, h, _ => by simp only [OwnLeq] at h
  | .map _ :: _, .cells _ _ :: _, _, _, h, _ => by simp only [OwnLeq] at h
  | .cells _ _ :: _, .map _ :: _, _, _, h, _ => by simp only [OwnLeq] at h

theorem OwnLeq.len {base m : Nat} : ∀ {o o0 : List Bx}, OwnLeq base m o o0 → o0.length ≤ o.length
  | _, [], _ => Nat.zero_le _
  | .cells l os :: r, .cells l0 os0 :: r0, h => by simp only [OwnLeq] at h; have := OwnLeq.len h.2.2; simp; omega
  | .map l :: r, .map l0 :: r0, h => by simp only [OwnLeq] at h; have := OwnLeq.len h.2; simp; omega
  | [], .cells _ _ :: _, h => by simp only [OwnLeq] at h
  | [], .map _ :: _, h => by simp only [OwnLeq] at h
  | .map _ :: _, .cells _ _ :: _, h => by simp only [OwnLeq] at h
  | .cells _ _ :: _, .map _ :: _, h => by simp only [OwnLeq] at h

mutual
theorem cl_mono {base m m' : Nat} (h : m ≤ m') : ∀ a : AV, a.cl base m → a.cl base m'
  | .top, _ | .v _, _ | .sl _ _, _ | .ep _, _ | .gv _ _, _ | .ifc _ _, _ => by simp only [AV.cl]
  | .bp i _, c => by simp only [AV.cl] at c ⊢; omega
  | .mo i, c => by simp only [AV.cl] at c ⊢; omega
  | .xp i _, c => by simp only [AV.cl] at c ⊢; exact c
  | .mx i, c => by simp only [AV.cl] at c ⊢; exact c
  | .bs .., c => by simp only [AV.cl] at c ⊢; omega
  | .xs .., c => by simp only [AV.cl] at c ⊢; exact c
  | .agg l, c => by simp only [AV.cl] at c ⊢; exact clL_mono h l c
  | .tup l, c => by simp only [AV.cl] at c ⊢; exact clL_mono h l c
  | .fn f a b, c => by simp only [AV.cl] at c ⊢; exact ⟨clL_mono h a c.1, clL_mono h b c.2⟩
theorem clL_mono {base m m' : Nat} (h : m ≤ m') : ∀ l : List AV, clL base m l → clL base m' l
  | [], _ => by simp only [clL]
  | x :: l, c => by simp only [clL] at c ⊢; exact ⟨cl_mono h x c.1, clL_mono h l c.2⟩
end

theorem Weak.of {n : Nat} {c c0 : Cfg} (he : c0.env = c.env) (hf : FrLeq c.base c0.own.length c.fr c0.fr) (ho : OsLeq n c c0.fr c0.os) (hw : OwnLeq c.base c0.own.length c.own c0.own) : Weak n c c0 := by
  intro W0 G0 a w g hi
  have hb : c0.base = c.base := by simp [Cfg.base, he]
  have hlen := OwnLeq.len hw
  have hbl : g.bs.length = c.base + c.own.length := by rw [hi.good.len]; simp [Cfg.mem, Cfg.base]
  have hget : ∀ (i : Nat) (b : Nat), (g.bs.take (c.base + c0.own.length))[i]? = some b → i < c.base + c0.own.length ∧ g.bs[i]? = some b := fun i b h => by
    rw [List.getElem?_take] at h
    split at h
    · exact ⟨by assumption, h⟩
    · cases h
  have hfr : ∀ (f0 : Fr) (i : Nat), FrLeq c.base c0.own.length c.fr f0 → (Fr.get f0 i = .top) ∨ (Leq (Fr.get c.fr i) (Fr.get f0 i) ∧ (Fr.get f0 i).cl c.base c0.own.length) := by
    intro f0
    induction f0 with
    | nil => intro i _; exact .inl rfl
    | cons p f0 ih =>
      intro i h
      obtain ⟨j, y⟩ := p
      simp only [FrLeq] at h
      rw [Fr.get_cons]
      split
      · rename_i e; subst e; exact .inr ⟨h.1, h.2.1⟩
      · exact ih i h.2.2
  let g' : Gh := { g with bs := g.bs.take (c.base + c0.own.length) }
  have hG : Good w g' c0.mem c0.base := by
    refine ⟨by simp [g', Cfg.mem, he, hbl, Cfg.base] at hlen ⊢; omega, hi.good.nd.sublist (List.take_sublist _ _), fun b hb => hi.good.nohw b (List.mem_of_mem_take hb), fun i x b hx hb' => ?_, hi.good.hw, hi.good.own, hi.good.glob⟩
    obtain ⟨hil, hbi⟩ := hget i b hb'
    rw [hb]
    rcases Nat.lt_or_ge i c.base with hi' | hi'
    · have hx' : c.env[i]? = some x := by
        rw [Cfg.mem, List.getElem?_append_left (by rw [he]; exact hi'), he] at hx; exact hx
      have := hi.good.env_box (env := c.env) (own := c.own) hx' hbi
      have hcl := hi.ecl x (List.mem_of_getElem? hx')
      cases x with
      | cells l os =>
        obtain ⟨cs, e, h1, h2, h3⟩ := this
        exact ⟨cs, e, h1, RepL.takeL l _ (clL_mono (Nat.zero_le _) l hcl) h2, fun j hj => by
          obtain ⟨k, l', y, q1, q2, q3⟩ := h3 j hj
          exact ⟨k, l', y, q1, q2, q3.mono fun b hb => ⟨hb, rfl, rfl⟩⟩⟩
      | map l => exact this
    · have hx0 : c0.own[i - c.base]? = some x := by
        rw [Cfg.mem, List.getElem?_append_right (by rw [he]; exact hi'), he] at hx; exact hx
      obtain ⟨y, hy, hle⟩ := OwnLeq.get hw hx0
      have hbi' : g.bs[c.env.length + (i - c.base)]? = some b := by
        have : c.env.length + (i - c.base) = i := by simp only [Cfg.base] at hi' ⊢; omega
        rw [this]; exact hbi
      have := hi.good.own_box (env := c.env) (own := c.own) hy hbi'
      have hidx : c.env.length + (i - c.base) = i := by simp only [Cfg.base] at hi' ⊢; omega
      rw [hidx] at this
      cases x with
      | cells l0 os0 =>
        cases y with
        | map l => simp only [OwnLeq] at hle
        | cells l os =>
          simp only [OwnLeq] at hle
          obtain ⟨cs, e, h1, h2, h3⟩ := this
          refine ⟨cs, e, h1, RepL.cut hle.1 h2, fun j hj => ?_⟩
          obtain ⟨hjo, hjs⟩ := hle.2.1 j hj
          obtain ⟨⟨k0, l0'⟩, hkl⟩ := Option.isSome_iff_exists.1 hjs
          have hkl' : l0[j]? = some (.sl k0 l0') := by
            cases hq : l0[j]? with
            | none => rw [hq] at hkl; cases hkl
            | some q => rw [hq] at hkl; cases q <;> simp [AV.slK] at hkl; obtain ⟨rfl, rfl⟩ := hkl; rfl
          rcases hjo with hjo | hjo
          · obtain ⟨k, l', v, q1, q2, q3⟩ := h3 j hjo
            have hLL : ∀ (l l0 : List AV) (j : Nat) (x y : AV), LeqL c.base c0.own.length l l0 → l[j]? = some x → l0[j]? = some y → Leq x y := by
              intro l
              induction l with
              | nil => intro l0 j x y _ h; simp at h
              | cons a l ih =>
                intro l0 j x y h e1 e2
                cases l0 with
                | nil => simp at e2
                | cons b l0 =>
                  simp only [LeqL] at h
                  cases j with
                  | zero => simp at e1 e2; subst e1 e2; exact h.1
                  | succ j => exact ih l0 j x y h.2.2 (by simpa using e1) (by simpa using e2)
            have hlq := hLL l l0 j _ _ hle.1 q1 hkl'
            rcases hlq with h | h | ⟨h, _⟩
            · cases h
            · cases h
              exact ⟨_, _, v, hkl', q2, q3.mono fun b hb => ⟨hb, rfl, rfl⟩⟩
            · cases h
          · obtain ⟨v, hv, hrv, _⟩ := h2.get hjo
            simp only [RepV, List.cons.injEq, and_true] at hrv
            subst hrv
            exact ⟨k0, l0', _, hkl', by simpa using hv, nil_slot⟩
      | map l0 =>
        cases y with
        | cells l os => simp only [OwnLeq] at hle
        | map l => simp only [OwnLeq] at hle; rw [← hle.1]; exact this
  have hE : Ext (· = .ext) W0 G0 w g' := by
    have E := hi.ext
    refine ⟨E.size, E.tape, E.os, E.output, E.hw, E.ext, fun i b h => ?_, fun b hb => E.bsnew b (List.mem_of_mem_take hb), E.orig, E.old⟩
    have := (List.getElem?_eq_some_iff.1 h).1
    rw [hi.b0] at this
    rw [List.getElem?_take, if_pos (by omega)]
    exact E.bs i b h
  refine ⟨g', ⟨hi.size, hi.defers, fun i hn => ?_, fun i hm => ?_, hG, hE, by rw [he, hb]; exact hi.ecl, by rw [hb]; exact hi.b0⟩⟩
  · rw [hb]
    rcases hfr c0.fr i hf with h | ⟨h1, h2⟩
    · rw [h]; exact .inl rfl
    · exact (hi.fr i hn).cut h1 h2
  · have hos : ∀ (l : List Nat), OsLeq n c c0.fr l → ∀ i ∈ l, (i ∈ c.os ∨ (i < n ∧ Fr.get c.fr i = .v (.slice none 0 0))) ∧ (Fr.get c0.fr i).slK.isSome = true := by
      intro l
      induction l with
      | nil => intro _ i h; cases h
      | cons j l ih =>
        intro h i hi
        simp only [OsLeq] at h
        rcases List.mem_cons.1 hi with rfl | hi
        · exact ⟨h.1, h.2.1⟩
        · exact ih h.2.2 i hi
    obtain ⟨h1, h2⟩ := hos c0.os ho i hm
    obtain ⟨⟨k0, l0⟩, hkl⟩ := Option.isSome_iff_exists.1 h2
    have hkl' : Fr.get c0.fr i = .sl k0 l0 := by
      cases hq : Fr.get c0.fr i <;> rw [hq] at hkl <;> simp [AV.slK] at hkl
      obtain ⟨rfl, rfl⟩ := hkl; rfl
    rcases hfr c0.fr i hf with h | ⟨h3, _⟩
    · rw [h] at hkl'; cases hkl'
    · rw [hkl'] at h3
      rcases h1 with h1 | h1
      · obtain ⟨k, l, e1, e2⟩ := hi.os i h1
        rw [e1] at h3
        rcases h3 with h | h | ⟨h, _⟩
        · cases h
        · cases h
          exact ⟨_, _, hkl', e2.mono fun b hb => ⟨hb, rfl, rfl⟩⟩
        · cases h
      · refine ⟨k0, l0, hkl', ?_⟩
        have hr := hi.fr i h1.1
        rw [h1.2] at hr
        obtain ⟨e, _⟩ := rep_v hr
        rw [e]; exact nil_slot
end Go.Ev
end
section
/- Written by this session: a region that draws its order, over trees. Conditions: none beyond those in each statement. -/
namespace Go.Ev
open Go

abbrev FS := Nat → AV
def evF (F : FS) : Operand → AV
  | .tmp t => F t
  | .const v => cst v
  | .func f => .fn (.func f) [] []
  | .global g => globA g
def updO (F : FS) (d : Option Nat) (v : AV) : FS :=
  match d with
  | some d => upd F d v
  | none => F

theorem evF_get (c : Cfg) : evF (Fr.get c.fr) = evA c := by funext x; cases x <;> rfl
theorem get_put (c : Cfg) (d : Option Nat) (v : AV) : Fr.get (c.put d v).fr = updO (Fr.get c.fr) d v := by
  cases d with
  | none => rfl
  | some d =>
    funext i
    simp only [Cfg.put, Fr.get_cons, updO, upd]
    by_cases h : d = i
    · subst h; simp
    · rw [if_neg h, if_neg (Ne.symm h)]

/-- What an operation gives, whatever else memory is, boxes being as they are. -/
def Yield (P : Program) (env own : List Bx) (ρA : Operand → AV) (o : Oper) (v : AV) : Prop :=
  ∀ (a : Act) (w : World) (g : Gh), Good w g (env ++ own) env.length → (∀ x ∈ env, Bx.cl env.length 0 x) → (∀ x, x ∈ o.op.operands → Rep w g.hw g.bs env.length (ρA x) (a.eval x)) →
    ∀ (next : Act → World → Prop) (Q : Exit → Act → World → Prop), (∀ u w' g', Good w' g' (env ++ own) env.length → Ext KeepS w g w' g' → Rep w' g'.hw g'.bs env.length v u → next (a.put o.dst u) w') → o.wp P a w next Q

theorem Yield.congr {P : Program} {env own : List Bx} {ρA ρA' : Operand → AV} {o : Oper} {v : AV} (h : Yield P env own ρA o v) (he : ∀ x, x ∈ o.op.operands → ρA' x = ρA x) : Yield P env own ρA' o v :=
  fun a w g G E hr => h a w g G E fun x hx => by rw [← he x hx]; exact hr x hx

theorem Yield.pure {P : Program} {env own : List Bx} {ρA : Operand → AV} {o : Oper} {v : AV} (h : PureAt P env own ρA o v) : Yield P env own ρA o v := by
  intro a w g G _ hr next Q hn
  obtain ⟨u, hu, hrep⟩ := h a.eval w g G hr
  unfold Oper.wp
  rw [hu]
  exact hn u w g G (Ext.refl _ _ _) hrep

/-- Is the operation wanted? -/
def wantF (ops : List Oper) (F : FS) (o : Oper) : Option Bool :=
  match o.guard with
  | none => some true
  | some (j, want) => match (ops[j]?).bind (·.dst) with
    | none => some false
    | some t => match F t with
      | .v (.bool b) => some (b == want)
      | .v (.tuple _) => some false
      | _ => none

def okF (n : Nat) (ops : List Oper) (o : Oper) : Bool :=
  opsOk n o && (match o.guard with
    | none => true
    | some (j, _) => ((ops[j]?).bind (·.dst)).all (Nat.blt · n))

def Seq (P : Program) (n : Nat) (env own : List Bx) (ops : List Oper) : List Nat → FS → (FS → Prop) → Prop
  | [], F, K => K F
  | i :: r, F, K => ∃ o v, ops[i]? = some o ∧ okF n ops o = true ∧ ((wantF ops F o = some true ∧ Yield P env own (evF F) o v) ∨ (wantF ops F o = some false ∧ v = .v undef)) ∧ Seq P n env own ops r (updO F o.dst v) K

section
variable {P : Program} {n : Nat} {env own : List Bx} {ops : Array Oper}

theorem evF_upd {F : FS} {d : Option Nat} {v : AV} {x : Operand} (h : ∀ t, d = some t → x ≠ .tmp t) : evF (updO F d v) x = evF F x := by
  cases d with
  | none => rfl
  | some d =>
    cases x with
    | tmp t =>
      have : t ≠ d := fun e => h d rfl (by rw [e])
      simp only [evF, updO, upd, if_neg this]
    | _ => rfl

theorem wantF_upd {F : FS} {d : Option Nat} {v : AV} {o : Oper} (h : ∀ t, d = some t → t ∉ o.looksAt ops) : wantF ops.toList (updO F d v) o = wantF ops.toList F o := by
  cases d with
  | none => rfl
  | some d =>
    unfold wantF
    cases hg : o.guard with
    | none => rfl
    | some gw =>
      obtain ⟨j, want⟩ := gw
      simp only
      cases ht : (ops.toList[j]?).bind (·.dst) with
      | none => rfl
      | some t =>
        have hne : t ≠ d := fun e => h d rfl (by
          subst e
          have : (ops[j]?).bind (·.dst) = some t := by simpa using ht
          simp [Oper.looksAt, hg, this])
        simp only [updO, upd, if_neg hne]

theorem updO_comm {F : FS} {d e : Option Nat} {v u : AV} (h : ∀ t, d = some t → e ≠ some t) : updO (updO F d v) e u = updO (updO F e u) d v := by
  cases d with
  | none => rfl
  | some d =>
    cases e with
    | none => rfl
    | some e =>
      have hne : e ≠ d := fun he => h d rfl (by rw [he])
      funext i
      simp only [updO, upd]
      by_cases h1 : i = e
      · subst h1; simp [hne]
      · by_cases h2 : i = d
        · subst h2; simp [h1]
        · simp [h1, h2]

theorem looks_mem {o : Oper} {t : Nat} (h : (Operand.tmp t) ∈ o.op.operands) : t ∈ o.looksAt ops := by
  unfold Oper.looksAt
  exact List.mem_append_left _ (List.mem_filterMap.2 ⟨.tmp t, by simpa using h, rfl⟩)

/-- An operation that hangs on none of those ahead of it may go first. -/
theorem Seq.first {j : Nat} {oj : Oper} (hj : ops[j]? = some oj) : ∀ (r1 r2 : List Nat) (F : FS) (K : FS → Prop), (∀ i ∈ r1, ∀ oi, ops[i]? = some oi → oi.apart ops oj = true) → Seq P n env own ops.toList (r1 ++ j :: r2) F K →
    ∃ v, okF n ops.toList oj = true ∧ ((wantF ops.toList F oj = some true ∧ Yield P env own (evF F) oj v) ∨ (wantF ops.toList F oj = some false ∧ v = .v undef)) ∧ Seq P n env own ops.toList (r1 ++ r2) (updO F oj.dst v) K
  | [], r2, F, K, _, h => by
    simp only [List.nil_append, Seq] at h
    obtain ⟨o, v, h1, h2, h3, h4⟩ := h
    have : o = oj := by
      have : ops.toList[j]? = some oj := by simpa using hj
      rw [this] at h1; cases h1; rfl
    subst this
    exact ⟨v, h2, h3, h4⟩
  | i :: r1, r2, F, K, hap, h => by
    simp only [List.cons_append, Seq] at h
    obtain ⟨oi, vi, h1, h2, h3, h4⟩ := h
    have hoi : ops[i]? = some oi := by simpa using h1
    obtain ⟨p1, p2, p3⟩ := Oper.apart_spec (hap i (by simp) oi hoi)
    obtain ⟨v, k1, k2, k3⟩ := Seq.first hj r1 r2 _ K (fun i hi => hap i (by simp [hi])) h4
    refine ⟨v, k1, ?_, ?_⟩
    · rw [wantF_upd p1] at k2
      refine k2.imp (fun ⟨q1, q2⟩ => ⟨q1, q2.congr fun x hx => ?_⟩) id
      refine (evF_upd fun t ht e => ?_).symm
      subst e
      exact p1 t ht (looks_mem hx)
    · simp only [List.cons_append, Seq]
      refine ⟨oi, vi, h1, h2, ?_, ?_⟩
      · rw [wantF_upd p3]
        refine h3.imp (fun ⟨q1, q2⟩ => ⟨q1, q2.congr fun x hx => ?_⟩) id
        refine evF_upd fun t ht e => ?_
        subst e
        exact p3 t ht (looks_mem hx)
      · rw [← updO_comm p2]; exact k3
end
end Go.Ev
end
section
/- Written by this session: a region that draws its order: in whatever order its operations go, it comes to what the order of its text comes to. Conditions: none beyond those in each statement. -/
namespace Go.Ev
open Go

section
variable {P : Program} {n : Nat}

theorem argsRepF {w : World} {g : Gh} {base : Nat} {a : Act} {ρA : Operand → AV} : ∀ (l : List Operand), (∀ x ∈ l, Rep w g.hw g.bs base (ρA x) (a.eval x)) → (l.all fun x => !(ρA x).isTup) = true → RepT w g.hw g.bs base (l.map ρA) (l.map a.eval)
  | [], _, _ => rfl
  | x :: l, h, ht => by
    simp only [List.all_cons, Bool.and_eq_true, Bool.not_eq_true'] at ht
    simp only [List.map_cons, RepT]
    exact ⟨_, _, rfl, rep1_of ht.1 (h x (by simp)), argsRepF l (fun y hy => h y (by simp [hy])) ht.2⟩

/-- A call of a function that leaves memory as it is. -/
theorem Yield.call {env own : List Bx} {ρA : Operand → AV} {f : FuncId} {args : Array Operand} {ts : Array TypeId} {dst : Option Tmp} {type : TypeId} {pos : String} {after : Array Edge} {guard : Option (Nat × Bool)} {r : AV} {ow : Bool}
    (htup : (args.toList.all fun x => !(ρA x).isTup) = true) (hpf : pfL (args.toList.map ρA) = true) (hx : XPure P f (args.toList.map ρA) r ow) : Yield P env own ρA ⟨dst, .call ⟨.value (.func f), args, ts⟩, type, pos, after, guard⟩ r := by
  intro a w g G E hr next Q hn
  have hA := argsRepF (ρA := ρA) (a := a) args.toList (fun x hx => hr x (by simp [Op.operands, Call.operands]; exact .inr (by simpa using hx))) htup
  have hrun : (execOp a.eval ⟨dst, .call ⟨.value (.func f), args, ts⟩, type, pos, after, guard⟩).run P w = .ok (.enter f (args.toList.map a.eval).toArray) w := by
    have hq : a.eval (.func f) = .func (.func f) #[] #[] := rfl
    simp only [execOp, Sem.run_bind, resolve, hq, Deferred.ofValue, Sem.run_pure, Result.andThen_ok, invoke]
    rw [run_callFunc hx.1]
    congr 2
    apply Array.toList_inj.1; simp
  unfold Oper.wp
  rw [hrun]
  have hup : (args.toList.map ρA).map (AV.up env.length) = args.toList.map ρA := by rw [← upL_eq]; exact upL_pf _ _ hpf
  have hcl : ∀ x ∈ env ++ own, Bx.cl env.length ((env ++ own).length - env.length) x := by
    intro x hx
    obtain ⟨i, hi', rfl⟩ := List.mem_iff_getElem.1 hx
    have hib : i < g.bs.length := by rw [G.len]; exact hi'
    have := G.box i (env ++ own)[i] g.bs[i] (List.getElem?_eq_getElem hi') (List.getElem?_eq_getElem hib)
    cases hx : (env ++ own)[i] with
    | map l => trivial
    | cells l os =>
      rw [hx] at this
      obtain ⟨cs, e, _, h2, _⟩ := this
      have := RepL.toCl _ _ h2
      rw [G.len] at this
      exact this
  refine (Good.call (c := ⟨[], [], own, env⟩) (g := g) G hA (R := fun r' ow' env' => r' = r ∧ ow' = ow ∧ env' = (env ++ own).map (Bx.up env.length)) (by
    have := hx.2.2 ((env ++ own).map (Bx.up env.length))
    show XCalls P f ((args.toList.map ρA).map (AV.up env.length)) _ _
    rw [hup]; exact this) 0).mono ?_
  rintro e w' ⟨u, r', ow', env', rfl, ⟨rfl, rfl, rfl⟩, hcont⟩
  obtain ⟨g', h1, h2, h3, _⟩ := hcont r' (env ++ own) (up_pf _ _ hx.2.1).symm rfl (cl_pf _ hx.2.1) hcl
  exact hn u w' g' h1 h2 h3

/-- A slice that is built of values that hang on no box. -/
theorem Yield.buildSlice {env own : List Bx} {ρA : Operand → AV} {t e : TypeId} {len k : Nat} {parts : Array (Nat × Operand)} {xs : List Operand} {i : TypeInfo} {z : Value} {dst : Option Tmp} {type : TypeId} {pos : String} {after : Array Edge} {guard : Option (Nat × Bool)}
    (ht : P.underlying t = some (.slice e)) (hin : P.info? e = some i) (hz : i.zero = some z) (hk : i.size = k) (hk0 : 0 < k)
    (hlen : len = xs.length) (hparts : parts.toList = xs.zipIdx.map fun (x, j) => (j, x)) (hsm : len * k ≤ 16777216)
    (hxs : ∀ x ∈ xs, leavesOk (ρA x) = true ∧ (ρA x).pf = true ∧ (ρA x).isTup = false ∧ (ρA x).leaves.length = k) :
    Yield P env own ρA ⟨dst, .buildSlice t len parts, type, pos, after, guard⟩ (.sl k (xs.map ρA)) := by
  intro a w g G E hr next Q hn
  have hmem : ∀ x ∈ xs, x ∈ (Op.buildSlice t len parts).operands := fun x hx => by
    obtain ⟨j, hj, rfl⟩ := List.mem_iff_getElem.1 hx
    simp only [Op.operands, List.mem_toArray, List.mem_map, hparts]
    exact ⟨(j, xs[j]), ⟨(xs[j], j), by simp [List.mem_zipIdx_iff_getElem?, List.getElem?_eq_getElem hj], rfl⟩, rfl⟩
  have hT := argsRepF (ρA := ρA) (a := a) xs (fun x hx => hr x (hmem x hx)) (by
    rw [List.all_eq_true]; intro x hx; rw [(hxs x hx).2.2.1]; rfl)
  obtain ⟨hE, hcs, hl⟩ := repE_flat (k := k) _ _ hT (by
    intro y hy
    obtain ⟨x, hx, rfl⟩ := List.mem_map.1 hy
    exact ⟨(hxs x hx).1, (hxs x hx).2.1, (hxs x hx).2.2.2⟩)
  simp only [List.length_map] at hl
  subst hlen
  let cells0 : Array Value := (Array.range (xs.length * k)).map fun j => (if xs.length * k = 0 then (#[] : Array Value) else z.cells)[j % (if xs.length * k = 0 then (#[] : Array Value) else z.cells).size]!
  obtain ⟨cells', hfill, hcl⟩ := fill_row hk0 (xs.map a.eval) 0 cells0 [] hcs (by simp) (by simp [cells0])
  have hcells : cells' = ((xs.map a.eval).flatMap fun v => v.cells.toList).toArray := by apply Array.toList_inj.1; rw [hcl]; simp
  have hps : (parts.map fun (p : Nat × Operand) => (p.1, a.eval p.2)).toList = ((xs.map a.eval).zipIdx 0).map fun (v, j) => (j, v) := by
    rw [Array.toList_map, hparts]
    simp [List.zipIdx_map]
  have hlenE := RepE.len hE
  obtain ⟨G1, E1⟩ := G.push (.cells cells' e) (some cells'.size) none (by intro h e; simp at e; subst e; exact ⟨_, _, _, rfl, by simp⟩) (by simp)
  unfold Oper.wp
  have hsz : (sizeOf e).run P w = .ok k w := by simp [sizeOf, typeInfo, hin, hk]
  have hrun : (execOp a.eval ⟨dst, .buildSlice t xs.length parts, type, pos, after, guard⟩).run P w = .ok (.value (.slice (some ⟨w.heap.size, 0, none⟩) xs.length xs.length)) (push w (.cells cells' e)) := by
    have hc0 : ∀ zz : Array Value, zz = (if xs.length * k = 0 then (#[] : Array Value) else z.cells) → (Array.range (xs.length * k)).map (fun x => zz[x % zz.size]!) = cells0 := by rintro _ rfl; rfl
    simp only [execOp, Instr.buildSlice, Sem.run_bind, run_und ht, Result.andThen_ok, hsz]
    rw [if_neg (by omega : ¬ xs.length * k > 2 ^ 24)]
    simp only [hps]
    by_cases h0 : xs.length * k = 0
    · rw [if_pos h0]
      simp only [Sem.run_bind, Sem.run_pure, Result.andThen_ok]
      rw [hc0 #[] (by rw [if_pos h0]), hfill]
      simp [newRow, push]
    · rw [if_neg h0]
      have hzv : (zeroValue e).run P w = .ok z w := by simp [zeroValue, typeInfo, hin, hz]
      simp only [Sem.run_bind, Sem.run_pure, Result.andThen_ok, hzv]
      rw [hc0 z.cells (by rw [if_neg h0]), hfill]
      simp [newRow, push]
  rw [hrun]
  refine hn _ _ _ G1 E1 ?_
  have hfit : xs.length ≤ 140737488355328 := Nat.le_trans (Nat.le_mul_of_pos_right _ hk0) (Nat.le_trans hsm (by decide))
  refine rep_sl_mk (by simp) (by simp) ⟨hk0, by simpa using hfit⟩ (.inr ⟨w.heap.size, 0, _, rfl, ⟨cells'.size, upd_same _ _ _, by rw [hcells]; simp, fun j v hj => ?_⟩, RepE.mono E1.hw _ _ hE⟩)
  simp only [World.cell?, heap_push_new, Option.isSome_none, Bool.false_eq_true, if_false, Nat.zero_add]
  rw [hcells, List.getElem?_toArray]; exact hj

def steadySl (P : Program) (ρA : Operand → AV) (t : TypeId) (len : Nat) (parts : Array (Nat × Operand)) (K : AV → Prop) : Prop :=
  match P.underlying t, sliceParts 0 parts.toList with
  | some (.slice e), some xs => match P.info? e with
    | some i => match i.zero with
      | some _ => bif Nat.blt 0 i.size && Nat.beq len xs.length && Nat.ble (len * i.size) 16777216 && xs.all (fun x => leavesOk (ρA x) && !(ρA x).isTup && Nat.beq (ρA x).leaves.length i.size) && xs.all (fun x => pf1 (ρA x)) then K (.sl i.size (xs.map ρA)) else False
      | none => False
    | none => False
  | _, _ => False
theorem steadySl_sound {env own : List Bx} {ρA : Operand → AV} {t : TypeId} {len : Nat} {parts : Array (Nat × Operand)} {dst : Option Tmp} {type : TypeId} {pos : String} {after : Array Edge} {guard : Option (Nat × Bool)} {K : AV → Prop} (h : steadySl P ρA t len parts K) :
    ∃ v, Yield P env own ρA ⟨dst, .buildSlice t len parts, type, pos, after, guard⟩ v ∧ K v := by
  unfold steadySl at h
  split at h
  · rename_i e xs hu hp
    split at h
    · rename_i i hi
      split at h
      · rename_i z hz
        cases hc : (Nat.blt 0 i.size && Nat.beq len xs.length && Nat.ble (len * i.size) 16777216 && xs.all (fun x => leavesOk (ρA x) && !(ρA x).isTup && Nat.beq (ρA x).leaves.length i.size) && xs.all (fun x => pf1 (ρA x))) with
        | false => rw [hc] at h; exact h.elim
        | true =>
          rw [hc] at h
          simp only [Bool.and_eq_true] at hc
          obtain ⟨⟨⟨⟨c1, c2⟩, c3⟩, c4⟩, c5⟩ := hc
          refine ⟨_, Yield.buildSlice hu hi hz rfl (by rw [← Nat.blt_eq]; exact c1) (Nat.eq_of_beq_eq_true c2) (sliceParts_eq _ _ _ hp) (Nat.le_of_ble_eq_true c3) (fun x hx => ?_), h⟩
          have := List.all_eq_true.1 c4 x hx
          simp only [Bool.and_eq_true, Bool.not_eq_true'] at this
          exact ⟨this.1.1, pf_of1 (List.all_eq_true.1 c5 x hx), this.1.2, Nat.eq_of_beq_eq_true this.2⟩
      · exact h.elim
    · exact h.elim
  · exact h.elim

def steadyA (P : Program) (c : Cfg) (o : Oper) (K : AV → Prop) : Prop :=
  match o.op with
  | .call cl => (match cl.callee with
    | .value (.func f) => bif (cl.args.toList.all fun x => !(evA c x).isTup) && pf1L (cl.args.toList.map (evA c)) then ∃ r ow, XPure P f (cl.args.toList.map (evA c)) r ow ∧ K r else False
    | _ => pureA P c.env c.own (evA c) o K)
  | .buildSlice t len parts => steadySl P (evA c) t len parts K
  | _ => pureA P c.env c.own (evA c) o K

theorem steadyA_sound {c : Cfg} {o : Oper} {K : AV → Prop} (h : steadyA P c o K) : ∃ v, Yield P c.env c.own (evA c) o v ∧ K v := by
  have pure : pureA P c.env c.own (evA c) o K → ∃ v, Yield P c.env c.own (evA c) o v ∧ K v := fun h => by
    obtain ⟨v, h1, h2⟩ := pureA_sound h
    exact ⟨v, Yield.pure h2, h1⟩
  obtain ⟨dst, op, type, pos, after, guard⟩ := o
  unfold steadyA at h
  split at h
  · rename_i cl hop
    simp only at hop
    subst hop
    split at h
    · rename_i f hc
      obtain ⟨callee, args, ts⟩ := cl
      simp only at hc
      subst hc
      cases hb : ((args.toList.all fun x => !(evA c x).isTup) && pf1L (args.toList.map (evA c))) with
      | false => rw [hb] at h; exact h.elim
      | true =>
        rw [hb] at h
        simp only [Bool.and_eq_true] at hb
        obtain ⟨r, ow, h1, h2⟩ := h
        exact ⟨r, Yield.call hb.1 (pfL_of1 hb.2) h1, h2⟩
    · exact pure h
  · rename_i hop
    simp only at hop
    subst hop
    exact steadySl_sound h
  · exact pure h

def preA (P : Program) (n : Nat) (ops : List Oper) : List Oper → Cfg → (Cfg → Prop) → Prop
  | [], c, K => K c
  | o :: r, c, K => bif okF n ops o then guardA n ops c o (steadyA P c o fun v => normA (c.put o.dst v) fun c' => preA P n ops r c' K) (normA (c.put o.dst (.v undef)) fun c' => preA P n ops r c' K) else False

theorem guard_wantF {ops : List Oper} {c : Cfg} {o : Oper} {yes no : Prop} (h : guardA n ops c o yes no) : (wantF ops (Fr.get c.fr) o = some true ∧ yes) ∨ (wantF ops (Fr.get c.fr) o = some false ∧ no) := by
  unfold guardA at h
  unfold wantF
  split at h
  · rename_i hg; (try rw [hg]); exact .inl ⟨rfl, h⟩
  · rename_i j want hg
    (try rw [hg])
    (try simp only)
    split at h
    · rename_i hd; (try rw [hd]); exact .inr ⟨rfl, h⟩
    · rename_i t ht
      (try rw [ht])
      (try simp only)
      cases hb : Nat.blt t n with
      | false => rw [hb] at h; exact h.elim
      | true =>
        rw [hb] at h
        simp only [cond_true] at h
        split at h
        · rename_i b hx
          (try rw [hx])
          (try simp only)
          by_cases hw : b = want
          · subst hw; exact .inl ⟨by simp, h.1 rfl⟩
          · exact .inr ⟨by simp [hw], h.2 hw⟩
        · rename_i vs hx; (try rw [hx]); exact .inr ⟨rfl, h⟩
        · exact h.elim

theorem put_own (c : Cfg) (d : Option Nat) (v : AV) : (c.put d v).own = c.own ∧ (c.put d v).env = c.env := by cases d <;> exact ⟨rfl, rfl⟩

theorem preA_seq {ops : List Oper} {K : Cfg → Prop} : ∀ (l : List Oper) (i : Nat) (c : Cfg), (∀ j : Nat, j < l.length → l[j]? = ops[i + j]?) → preA P n ops l c K →
    Seq P n c.env c.own ops (List.range' i l.length) (Fr.get c.fr) fun F => ∃ c', Fr.get c'.fr = F ∧ c'.own = c.own ∧ c'.env = c.env ∧ K c'
  | [], _, c, _, h => ⟨c, rfl, rfl, rfl, h⟩
  | o :: l, i, c, hl, h => by
    simp only [preA, normA_iff] at h
    cases ho : okF n ops o with
    | false => rw [ho] at h; exact h.elim
    | true =>
      rw [ho] at h
      simp only [cond_true] at h
      have h0 : ops[i]? = some o := by simpa using (hl 0 (by simp)).symm
      have hl' : ∀ j : Nat, j < l.length → l[j]? = ops[i + 1 + j]? := fun j hj => by
        have := hl (j + 1) (by simp; omega)
        simpa [Nat.add_assoc, Nat.add_comm 1 j] using this
      simp only [List.length_cons, List.range'_succ, Seq]
      rcases guard_wantF h with ⟨hw, h⟩ | ⟨hw, h⟩
      · obtain ⟨v, hv, h⟩ := steadyA_sound h
        have ih := preA_seq l (i + 1) _ hl' h
        rw [(put_own c o.dst v).1, (put_own c o.dst v).2, get_put] at ih
        exact ⟨o, v, h0, ho, .inl ⟨hw, by rw [evF_get]; exact hv⟩, ih⟩
      · have ih := preA_seq l (i + 1) _ hl' h
        rw [(put_own c o.dst _).1, (put_own c o.dst _).2, get_put] at ih
        exact ⟨o, _, h0, ho, .inr ⟨hw, rfl⟩, ih⟩

/-- What an operation waits for, and what that waits for. -/
def befN (ops : List Oper) : Nat → Nat → List Nat
  | 0, _ => []
  | f + 1, j => match ops[j]? with
    | some o => ((o.after.toList.filter (Region.binds .any)).flatMap fun e => e.on :: befN ops f e.on).eraseDups
    | none => []

def drawB (ops : List Oper) (m : Nat) : Bool :=
  (List.range ops.length).all fun j => match ops[j]? with
    | some o => (o.after.toList.all fun e => !Region.binds .any e || Nat.blt e.on j) &&
        (List.range j).all fun i => (befN ops ops.length j).contains i || (Nat.blt j m && (match ops[i]? with
          | some oi => oi.apart ops.toArray o
          | none => false))
    | none => true
end

structure InvF (n : Nat) (W0 : World) (G0 : Gh) (F : FS) (os : List Nat) (own env : List Bx) (a : Act) (w : World) (g : Gh) : Prop where
  size : a.tmps.size = n
  defers : a.defers = []
  fr : ∀ i, i < n → Rep w g.hw g.bs env.length (F i) (a.tmps.getD i undef)
  os : ∀ i ∈ os, ∃ k l, F i = .sl k l ∧ OwnAt w g (.slot i) k (a.tmps.getD i undef)
  good : Good w g (env ++ own) env.length
  ext : Ext (· = .ext) W0 G0 w g
  ecl : ∀ x ∈ env, Bx.cl env.length 0 x
  b0 : G0.bs.length = env.length

section
variable {P : Program} {n : Nat} {W0 : World} {G0 : Gh} {F : FS} {os : List Nat} {own env : List Bx} {a : Act} {w : World} {g : Gh} {ops : Array Oper}

theorem InvF.step (hi : InvF n W0 G0 F os own env a w g) {d : Option Nat} (hd : ∀ t, d = some t → t < n ∧ t ∉ os) {v : AV} {u : Value} {w' : World} {g' : Gh} (G : Good w' g' (env ++ own) env.length) (E : Ext KeepS w g w' g') (hr : Rep w' g'.hw g'.bs env.length v u) :
    InvF n W0 G0 (updO F d v) os own env (a.put d u) w' g' := by
  have hE := hi.ext.trans (E.weaken (by rintro L rfl; intro i j; simp))
  have hos : ∀ i ∈ os, ∃ k l, F i = .sl k l ∧ OwnAt w' g' (.slot i) k (a.tmps.getD i undef) := fun i hm => by
    obtain ⟨k, l, h1, h2⟩ := hi.os i hm
    exact ⟨k, l, h1, h2.mono fun b hb => E.ext b _ hb (by intro i j; simp)⟩
  cases d with
  | none => exact ⟨hi.size, hi.defers, fun i h => (hi.fr i h).mono E.hw E.bs, hos, G, hE, hi.ecl, hi.b0⟩
  | some d =>
    obtain ⟨hd1, hd2⟩ := hd d rfl
    refine ⟨by simpa [Act.put] using hi.size, hi.defers, fun i h => ?_, fun i hm => ?_, G, hE, hi.ecl, hi.b0⟩
    · rw [getD_put (by rw [hi.size]; exact hd1)]
      simp only [updO, upd]
      by_cases e : i = d
      · subst e; simpa using hr
      · rw [if_neg e, if_neg (Ne.symm e)]; exact (hi.fr i h).mono E.hw E.bs
    · have hne : i ≠ d := fun e => hd2 (e ▸ hm)
      rw [getD_put (by rw [hi.size]; exact hd1), if_neg (Ne.symm hne)]
      simp only [updO, upd, if_neg hne]
      exact hos i hm

theorem InvF.eval (hi : InvF n W0 G0 F os own env a w g) {x : Operand} (hx : okTmp n x = true) : Rep w g.hw g.bs env.length (evF F x) (a.eval x) := by
  cases x with
  | tmp t => exact hi.fr t (by rw [← Nat.blt_eq]; exact hx)
  | const v => exact cst_rep v hx
  | func f =>
    have : Rep w g.hw g.bs env.length (.fn (.func f) [] []) (.func (.func f) #[] #[]) := rep_mk_leaf rfl rfl (by simp only [RepV]; exact ⟨#[], #[], rfl, by simp only [RepL], by simp only [RepL]⟩)
    exact this
  | global g => exact hi.good.glob.rep g

theorem InvF.wanted (hi : InvF n W0 G0 F os own env a w g) {o : Oper} {b : Bool} (ho : okF n ops.toList o = true) (h : wantF ops.toList F o = some b) : Region.wanted o (yielded ops a.tmps) = b := by
  unfold wantF at h
  unfold Region.wanted
  simp only [okF, Bool.and_eq_true] at ho
  split at h
  · rename_i hg; rw [hg]; simpa using h
  · rename_i j want hg
    rw [hg] at ho ⊢
    simp only at ho ⊢
    unfold yielded
    have hj : (ops[j]?).bind (·.dst) = (ops.toList[j]?).bind (·.dst) := by simp
    rw [hj]
    split at h
    · rename_i hd; rw [hd]; simp at h; subst h; rfl
    · rename_i t ht
      rw [ht] at ho ⊢
      have htn : t < n := by rw [← Nat.blt_eq]; simpa using ho.2
      have hr := hi.fr t htn
      have hget : a.tmps[t]? = some (a.tmps.getD t undef) := by
        rw [Array.getD_eq_getD_getElem?, Array.getElem?_eq_getElem (by rw [hi.size]; exact htn)]; rfl
      simp only [Option.bind_some]
      rw [hget]
      split at h
      · rename_i b' hx
        rw [hx] at hr
        obtain ⟨e, _⟩ := rep_v hr
        rw [e]
        simp only [Option.some.injEq] at h
        rw [← h]
        simp only
        cases b' <;> cases want <;> rfl
      · rename_i vs hx
        rw [hx] at hr
        obtain ⟨e, _⟩ := rep_v hr
        rw [e]
        simp only [Option.some.injEq] at h
        rw [← h]; rfl
      · cases h

/-- One operation that goes when it is ready. -/
theorem InvF.op (hi : InvF n W0 G0 F os own env a w g) {j : Nat} {o : Oper} {v : AV} {Q : Exit → Act → World → Prop} {K : Act → World → Prop} (hj : ops[j]? = some o) (ho : okF n ops.toList o = true) (hd : ∀ t, o.dst = some t → t ∉ os)
    (h : (wantF ops.toList F o = some true ∧ Yield P env own (evF F) o v) ∨ (wantF ops.toList F o = some false ∧ v = .v undef))
    (hK : ∀ a' w' g', InvF n W0 G0 (updO F o.dst v) os own env a' w' g' → K a' w') : wpOp P ops Q j K a w := by
  have hok : opsOk n o = true := by simp only [okF, Bool.and_eq_true] at ho; exact ho.1
  have hdd : ∀ t, o.dst = some t → t < n ∧ t ∉ os := fun t e => ⟨opsOk_dst hok t e, hd t e⟩
  unfold wpOp
  simp only [hj]
  rcases h with ⟨hw, hy⟩ | ⟨hw, rfl⟩
  · rw [if_pos (hi.wanted ho hw)]
    exact .inl (hy a w g hi.good hi.ecl (fun x hx => hi.eval (opsOk_mem hok hx)) K Q fun u w' g' h1 h2 h3 => hK _ _ g' (hi.step hdd h1 h2 h3))
  · rw [if_neg (by rw [hi.wanted ho hw]; simp)]
    exact hK _ _ g (hi.step hdd hi.good (Ext.refl _ _ _) (rep_v_mk rfl))

def Closed (ops : Array Oper) (listed : Array Bool) : Prop := ∀ j, j < ops.size → listed.getD j true = true → ∀ f k, k ∈ befN ops.toList f j → listed.getD k false = true

theorem bef_ready {listed : Array Bool} (hc : Closed ops listed) (hsz : listed.size = ops.size) {j : Nat} (hj : j ∈ Region.ready .any ops listed) (hlt : ∀ o, ops[j]? = some o → ∀ e ∈ o.after, Region.binds .any e = true → e.on < ops.size) :
    ∀ f k, k ∈ befN ops.toList f j → listed.getD k false = true := by
  obtain ⟨hun, o, ho, hall⟩ := mem_ready.1 hj
  intro f k hk
  cases f with
  | zero => cases hk
  | succ f =>
    have ho' : ops.toList[j]? = some o := by simpa using ho
    simp only [befN, ho', List.mem_eraseDups, List.mem_flatMap, List.mem_filter] at hk
    obtain ⟨e, ⟨he, hb⟩, hk⟩ := hk
    have he' : e ∈ o.after := by simpa using he
    have hl := hall e he' hb
    rcases List.mem_cons.1 hk with rfl | hk
    · exact hl
    · refine hc e.on (hlt o ho e he' hb) ?_ f k hk
      have := hlt o ho e he' hb
      simp only [Array.getD_eq_getD_getElem?, Array.getElem?_eq_getElem (show e.on < listed.size by omega), Option.getD_some] at hl ⊢
      exact hl

theorem drawB_spec {m : Nat} (h : drawB ops.toList m = true) {j : Nat} {o : Oper} (ho : ops[j]? = some o) :
    (∀ e ∈ o.after, Region.binds .any e = true → e.on < j) ∧ ∀ i, i < j → i ∈ befN ops.toList ops.size j ∨ (j < m ∧ ∀ oi, ops[i]? = some oi → oi.apart ops o = true) := by
  have hj : j < ops.size := (Array.getElem?_eq_some_iff.1 ho).1
  have ho' : ops.toList[j]? = some o := by simpa using ho
  unfold drawB at h
  have := List.all_eq_true.1 h j (by simpa using hj)
  simp only [ho', Bool.and_eq_true, List.all_eq_true, Bool.or_eq_true, Bool.not_eq_true'] at this
  refine ⟨fun e he hb => ?_, fun i hij => ?_⟩
  · rcases this.1 e (by simpa using he) with h | h
    · rw [hb] at h; cases h
    · rw [← Nat.blt_eq]; exact h
  · rcases this.2 i (by simpa using hij) with h | h
    · exact .inl (by simpa using h)
    · refine .inr ⟨by rw [← Nat.blt_eq]; exact h.1, fun oi hoi => ?_⟩
      have hoi' : ops.toList[i]? = some oi := by simpa using hoi
      rw [hoi'] at h
      simpa using h.2

theorem closed_set {m : Nat} (hB : drawB ops.toList m = true) {listed : Array Bool} (hc : Closed ops listed) (hsz : listed.size = ops.size) {j : Nat} (hj : j ∈ Region.ready .any ops listed) : Closed ops (listed.setIfInBounds j true) := by
  have hbr := bef_ready hc hsz hj (fun o ho e he hb => Nat.lt_trans ((drawB_spec hB ho).1 e he hb) (Array.getElem?_eq_some_iff.1 ho).1)
  intro i hi hl f k hk
  by_cases hij : i = j
  · subst hij; exact getD_set_true (hbr f k hk)
  · rw [getD_set_ne true (Ne.symm hij)] at hl
    exact getD_set_true (hc i hi hl f k hk)
end
end Go.Ev
end
section
/- Written by this session: a region that draws its order, whole. Conditions: none beyond those in each statement. -/
namespace Go.Ev
open Go

section
variable {P : Program} {n : Nat} {W0 : World} {G0 : Gh} {ops : Array Oper} {Q : Exit → Act → World → Prop}

def upTo (N k : Nat) : Array Bool := ((List.range N).map fun i => decide (i < k)).toArray
theorem upTo_size (N k : Nat) : (upTo N k).size = N := by simp [upTo]
theorem upTo_get {N k i : Nat} (h : i < N) (d : Bool) : (upTo N k).getD i d = decide (i < k) := by
  rw [Array.getD_eq_getD_getElem?]; simp [upTo, h]
theorem upTo_succ {N k : Nat} : (upTo N k).setIfInBounds k true = upTo N (k + 1) := by
  apply Array.ext
  · simp [upTo]
  · intro i h1 h2
    have hi : i < N := by simpa [upTo] using h2
    rw [Array.getElem_setIfInBounds (by simpa [upTo] using hi)]
    simp only [upTo, List.getElem_toArray, List.getElem_map, List.getElem_range]
    by_cases e : k = i
    · subst e; simp
    · simp only [if_neg e]
      exact decide_eq_decide.2 (by omega)

/-- Behind the part that may go in any order, each operation waits for all ahead of it. -/
theorem any_of_ops {m : Nat} (hB : drawB ops.toList m = true) : ∀ (r k : Nat) (a : Act) (w : World), m ≤ k → k + r = ops.size → wpOps P ops Q (List.range' k r) a w → wpAny P .any ops Q r (upTo ops.size k) a w
  | 0, k, a, w, hm, hk, h => by
    simp only [wpAny, wpOps, List.range'_zero] at h ⊢
    refine ⟨?_, h⟩
    apply List.eq_nil_iff_forall_not_mem.2
    intro i hi
    obtain ⟨h1, o, ho, _⟩ := mem_ready.1 hi
    have := (Array.getElem?_eq_some_iff.1 ho).1
    rw [upTo_get this] at h1
    simp at h1; omega
  | r + 1, k, a, w, hm, hk, h => by
    have hkl : k < ops.size := by omega
    have hko : ops[k]? = some ops[k] := Array.getElem?_eq_getElem hkl
    have hclosed : Closed ops (upTo ops.size k) := by
      intro j hj hl f
      rw [upTo_get hj] at hl
      have hjk : j < k := by simpa using hl
      have : ∀ f j, j < k → ∀ q, q ∈ befN ops.toList f j → q < k := by
        intro f
        induction f with
        | zero => intro j _ q hq; cases hq
        | succ f ih =>
          intro j hj q hq
          have hjl : j < ops.size := by omega
          have hjo : ops.toList[j]? = some ops[j] := by simp
          simp only [befN, hjo, List.mem_eraseDups, List.mem_flatMap, List.mem_filter] at hq
          obtain ⟨e, ⟨he, hb⟩, hq⟩ := hq
          have := (drawB_spec hB (Array.getElem?_eq_getElem hjl)).1 e (by simpa using he) hb
          rcases List.mem_cons.1 hq with rfl | hq
          · omega
          · exact ih e.on (by omega) q hq
      intro q hq
      have := this f j hjk q hq
      rw [upTo_get (by omega)]; simpa using this
    have hready : k ∈ Region.ready .any ops (upTo ops.size k) := by
      refine mem_ready.2 ⟨by rw [upTo_get hkl]; simp, _, hko, fun e he hb => ?_⟩
      have := (drawB_spec hB hko).1 e he hb
      rw [upTo_get (by omega)]; simpa using this
    have honly : ∀ i ∈ Region.ready .any ops (upTo ops.size k), i = k := by
      intro i hi
      obtain ⟨h1, o, ho, _⟩ := mem_ready.1 hi
      have hil := (Array.getElem?_eq_some_iff.1 ho).1
      rw [upTo_get hil] at h1
      simp at h1
      rcases Nat.lt_or_ge k i with hlt | hge
      · have hbr := bef_ready hclosed (upTo_size _ _) hi (fun o ho e he hb => Nat.lt_trans ((drawB_spec hB ho).1 e he hb) (Array.getElem?_eq_some_iff.1 ho).1)
        rcases (drawB_spec hB ho).2 k hlt with h | ⟨h, _⟩
        · have := hbr _ _ h
          rw [upTo_get hkl] at this
          simp at this
        · omega
      · omega
    refine ⟨(fun h0 => by rw [h0] at hready; cases hready), fun i hi => ?_⟩
    have := honly i hi
    subst this
    rw [upTo_succ]
    rw [List.range'_succ, wpOps_cons] at h
    exact wpOp_mono (fun a w => any_of_ops hB r (i + 1) a w (by omega) (by omega)) h

theorem filter_out {p : Nat → Bool} {l r1 r2 : List Nat} {j : Nat} (hnd : l.Nodup) (h : l.filter p = r1 ++ j :: r2) : l.filter (fun i => p i && decide (i ≠ j)) = r1 ++ r2 := by
  have h1 : l.filter (fun i => p i && decide (i ≠ j)) = (l.filter p).filter fun i => decide (i ≠ j) := by
    rw [List.filter_filter]
    congr 1
    funext i
    rw [Bool.and_comm]
  have hnd' : (r1 ++ j :: r2).Nodup := h ▸ hnd.sublist List.filter_sublist
  rw [h1, h, List.filter_append, List.filter_cons]
  rw [List.nodup_append] at hnd'
  obtain ⟨q1, q2, q3⟩ := hnd'
  rw [List.nodup_cons] at q2
  simp only [ne_eq, not_true_eq_false, decide_false, Bool.false_eq_true, if_false]
  rw [List.filter_eq_self.2, List.filter_eq_self.2]
  · intro a ha; simp; rintro rfl; exact q2.1 ha
  · intro a ha; simp; rintro rfl; exact q3 a ha a (by simp) rfl

theorem any_of_seq {m : Nat} (hB : drawB ops.toList m = true) (hm : m ≤ ops.size) {os : List Nat} {own env : List Bx} {K : FS → Prop} (hdst : ∀ j o, j < m → ops[j]? = some o → ∀ t, o.dst = some t → t ∉ os)
    (hsuf : ∀ F a w g, K F → InvF n W0 G0 F os own env a w g → wpOps P ops Q (List.range' m (ops.size - m)) a w) :
    ∀ (N : Nat) (R : List Nat) (listed : Array Bool) (F : FS) (a : Act) (w : World) (g : Gh), R.length = N → listed.size = ops.size → Closed ops listed → (List.range m).filter (fun i => !listed.getD i true) = R →
      (∀ j, m ≤ j → j < ops.size → listed.getD j true = false) → Seq P n env own ops.toList R F K → InvF n W0 G0 F os own env a w g → wpAny P .any ops Q (N + (ops.size - m)) listed a w
  | 0, R, listed, F, a, w, g, hN, hsz, hc, hR, hs, hseq, hi => by
    have hRn : R = [] := List.eq_nil_of_length_eq_zero hN
    subst hRn
    simp only [Seq] at hseq
    have : listed = upTo ops.size m := by
      apply Array.ext
      · rw [hsz, upTo_size]
      · intro i h1 h2
        have hi' : i < ops.size := by rw [← hsz]; exact h1
        have e1 : listed.getD i true = listed[i] := by rw [Array.getD_eq_getD_getElem?, Array.getElem?_eq_getElem h1]; rfl
        have e2 : (upTo ops.size m).getD i true = (upTo ops.size m)[i] := by rw [Array.getD_eq_getD_getElem?, Array.getElem?_eq_getElem h2]; rfl
        rw [← e1, ← e2, upTo_get hi']
        rcases Nat.lt_or_ge i m with h | h
        · have hn : i ∉ (List.range m).filter fun i => !listed.getD i true := by rw [hR]; simp
          simp only [List.mem_filter, List.mem_range, h, true_and, Bool.not_eq_true'] at hn
          simp [h]; simpa using hn
        · rw [hs i h hi']; simp; omega
    subst this
    rw [Nat.zero_add]
    exact any_of_ops hB _ m a w (Nat.le_refl _) (by omega) (hsuf F a w g hseq hi)
  | N + 1, R, listed, F, a, w, g, hN, hsz, hc, hR, hs, hseq, hi => by
    have hsort : R.Pairwise (· < ·) := by rw [← hR]; exact List.pairwise_lt_range.sublist List.filter_sublist
    have hmemR : ∀ i, i ∈ R ↔ i < m ∧ listed.getD i true = false := fun i => by rw [← hR]; simp
    have edge : ∀ (o : Oper) (j : Nat), ops[j]? = some o → ∀ e ∈ o.after, Region.binds .any e = true → e.on < ops.size := fun o j ho e he hb => Nat.lt_trans ((drawB_spec hB ho).1 e he hb) (Array.getElem?_eq_some_iff.1 ho).1
    rw [show N + 1 + (ops.size - m) = (N + (ops.size - m)) + 1 from by omega]
    -- the least of them is ready
    cases hRc : R with
    | nil => rw [hRc] at hN; cases hN
    | cons i0 R0 =>
      have hi0 : i0 < m ∧ listed.getD i0 true = false := (hmemR i0).1 (by rw [hRc]; simp)
      have hi0l : i0 < ops.size := by omega
      have hleast : ∀ i, i < i0 → listed.getD i false = true := by
        intro i hii
        have hin : i ∉ R := by
          intro h
          rw [hRc] at h hsort
          rcases List.mem_cons.1 h with rfl | h
          · omega
          · have := (List.pairwise_cons.1 hsort).1 i h; omega
        rw [hmemR] at hin
        have : listed.getD i true = true := by
          cases h : listed.getD i true with
          | true => rfl
          | false => exact absurd ⟨by omega, h⟩ hin
        have hil : i < listed.size := by omega
        rw [Array.getD_eq_getD_getElem?, Array.getElem?_eq_getElem hil] at this ⊢
        exact this
      have hready0 : i0 ∈ Region.ready .any ops listed := mem_ready.2 ⟨hi0.2, _, Array.getElem?_eq_getElem hi0l, fun e he hb => hleast _ ((drawB_spec hB (Array.getElem?_eq_getElem hi0l)).1 e he hb)⟩
      refine ⟨(fun h0 => by rw [h0] at hready0; cases hready0), fun j hj => ?_⟩
      obtain ⟨hjun, o, ho, hall⟩ := mem_ready.1 hj
      have hjl := (Array.getElem?_eq_some_iff.1 ho).1
      have hbr := bef_ready hc hsz hj (fun o ho => edge o j ho)
      have hjm : j < m := by
        rcases Nat.lt_or_ge j m with h | h
        · exact h
        · rcases (drawB_spec hB ho).2 i0 (by omega) with h' | ⟨h', _⟩
          · have := hbr _ _ h'
            have hil : i0 < listed.size := by omega
            have e := hi0.2
            rw [Array.getD_eq_getD_getElem?, Array.getElem?_eq_getElem hil] at this e
            simp at this e; rw [this] at e; cases e
          · omega
      have hjR : j ∈ R := (hmemR j).2 ⟨hjm, hjun⟩
      obtain ⟨r1, r2, hsplit⟩ := List.append_of_mem hjR
      have hap : ∀ i ∈ r1, ∀ oi, ops[i]? = some oi → oi.apart ops o = true := by
        intro i hi1 oi hoi
        have hiR : i ∈ R := by rw [hsplit]; simp [hi1]
        have hlt : i < j := by
          rw [hsplit, List.pairwise_append] at hsort
          exact hsort.2.2 i hi1 j (by simp)
        rcases (drawB_spec hB ho).2 i hlt with h | ⟨_, h⟩
        · have := hbr _ _ h
          have e := ((hmemR i).1 hiR).2
          have hil : i < listed.size := by omega
          rw [Array.getD_eq_getD_getElem?, Array.getElem?_eq_getElem hil] at this e
          simp at this e; rw [this] at e; cases e
        · exact h oi hoi
      have hseq' := hseq
      rw [hsplit] at hseq'
      obtain ⟨v, k1, k2, k3⟩ := Seq.first ho r1 r2 F K hap hseq'
      refine hi.op ho k1 (fun t ht => hdst j o hjm ho t ht) k2 fun a' w' g' hi' => ?_
      refine any_of_seq hB hm hdst hsuf N (r1 ++ r2) (listed.setIfInBounds j true) _ a' w' g' ?_ (by simpa using hsz) (closed_set hB hc hsz hj) ?_ (fun q hq hql => ?_) k3 hi'
      · rw [hsplit] at hN; simp at hN ⊢; omega
      · rw [← filter_out List.nodup_range (hR.trans hsplit)]
        apply List.filter_congr
        intro i hi1
        have him : i < m := by simpa using hi1
        by_cases hij : i = j
        · subst hij
          have hil : i < listed.size := by omega
          rw [Array.getD_eq_getD_getElem?]
          simp [hil]
        · rw [getD_set_ne true (Ne.symm hij)]
          simp [hij]
      · rw [getD_set_ne true (by omega)]; exact hs q hq hql

/-- Where the first m operations may go in any order. -/
def drawA (P : Program) (n : Nat) (ops : List Oper) (m : Nat) (c : Cfg) (K : Cfg → Prop) : Prop :=
  preA P n ops (ops.take m) { c with os := [] } fun c' =>
    opsA P n ops (ops.drop m) { c' with os := c.os.filter fun i => (ops.take m).all fun o => match o.dst with
      | some d => !Nat.beq i d
      | none => true } K

theorem XW.draw {id m : Nat} {c : Cfg} {Q : Exit → Cfg → Prop} (hmix : P.follows .mixedOrders = true) (hB : drawB ops.toList m = true) (hm : Nat.ble m ops.toList.length = true) (h : drawA P n ops.toList m c fun c' => Q .normal c') : XW P n (.region id ops true) Q c := ⟨fun W0 G0 a w g hi => by
  have hml : m ≤ ops.size := by simpa using Nat.le_of_ble_eq_true hm
  refine wp_region_any hmix ?_
  have hi1 := hi.drew
  let os' := c.os.filter fun i => (ops.toList.take m).all fun o => match o.dst with
      | some d => !Nat.beq i d
      | none => true
  have hF : InvF n W0 G0 (Fr.get c.fr) os' c.own c.env a w.drew g := ⟨hi1.size, hi1.defers, hi1.fr, fun i hm => hi1.os i (List.mem_filter.1 hm).1, hi1.good, hi1.ext, hi1.ecl, hi1.b0⟩
  have hseq := preA_seq (P := P) (n := n) (ops := ops.toList) (ops.toList.take m) 0 { c with os := [] } (fun j hj => by
    rw [List.getElem?_take, if_pos (by simp at hj; omega), Nat.zero_add]) h
  have hlen : (ops.toList.take m).length = m := by simp; omega
  rw [hlen, ← List.range_eq_range'] at hseq
  have := any_of_seq (P := P) (n := n) (W0 := W0) (G0 := G0) (ops := ops) (os := os') (own := c.own) (env := c.env) (Q := fun e a' w' => ∃ c' g', Q e c' ∧ Inv n W0 G0 c' a' w' g') hB hml ?_ ?_ m (List.range m) (upTo ops.size 0) (Fr.get c.fr) a w.drew g (by simp) (upTo_size _ _) ?_ ?_ ?_ hseq hF
  · rw [show m + (ops.size - m) = ops.size from by omega] at this
    have e : upTo ops.size 0 = Array.replicate ops.size false := by
      apply Array.ext
      · simp [upTo]
      · intro i h1 h2; simp [upTo]
    rw [e] at this
    exact this
  · intro j o hj ho t ht hmem
    have := (List.mem_filter.1 hmem).2
    have hjo : o ∈ ops.toList.take m := by
      have hjl := (Array.getElem?_eq_some_iff.1 ho).1
      refine List.mem_of_getElem? (i := j) ?_
      rw [List.getElem?_take, if_pos hj]; simpa using ho
    have := List.all_eq_true.1 this o hjo
    rw [ht] at this
    simp at this
  · rintro F a' w' g' ⟨c', rfl, e1, e2, hk⟩ hf
    have hI : Inv n W0 G0 { c' with os := os' } a' w' g' := by
      have e1' : c'.own = c.own := e1
      have e2' : c'.env = c.env := e2
      refine ⟨hf.size, hf.defers, ?_, hf.os, ?_, hf.ext, ?_, ?_⟩
      · simpa only [Cfg.base, e2'] using hf.fr
      · simpa only [Cfg.mem, Cfg.base, e1', e2'] using hf.good
      · simpa only [Cfg.base, e2'] using hf.ecl
      · simpa only [Cfg.base, e2'] using hf.b0
    have hd := opsA_sound (P := P) (n := n) (ops := ops) (W0 := W0) (G0 := G0) (Q := fun e a' w' => ∃ c' g', Q e c' ∧ Inv n W0 G0 c' a' w' g') (fun c' a' w' g' hk hi' => ⟨c', g', hk, hi'⟩) (ops.toList.drop m) m _ a' w' g' (fun j => by rw [List.getElem?_drop]; simp) hk hI
    rwa [List.length_drop, Array.length_toList] at hd
  · intro j hj hl
    rw [upTo_get hj] at hl; simp at hl
  · rw [List.filter_eq_self.2]
    intro i hi'
    rw [upTo_get (by simp at hi'; omega)]; simp
  · intro j hj hjl
    rw [upTo_get hjl]; simp⟩
end
end Go.Ev
end
