/- Written by programs of this session: laws and contracts that the law's proof stands on, merged into one text. Conditions: none beyond those in each statement. -/
import Derived.Test.YtepdiooaoegpfaaGreatDoorPkEv2
import Derived.KernelRfl
section
/- Written by this session: a region in the order of its text, over trees. Conditions: none beyond those in each statement. -/
namespace Go.Ev
open Go

def guardA (n : Nat) (ops : List Oper) (c : Cfg) (o : Oper) (yes no : Prop) : Prop :=
  match o.guard with
  | none => yes
  | some (j, want) => match (ops[j]?).bind (·.dst) with
    | none => no
    | some t => bif Nat.blt t n then (match Fr.get c.fr t with
      | .v (.bool b) => (b = want → yes) ∧ (b ≠ want → no)
      | .v (.tuple _) => no
      | _ => False) else False

def opsA (P : Program) (n : Nat) (ops : List Oper) : List Oper → Cfg → (Cfg → Prop) → Prop
  | [], c, K => K c
  | o :: r, c, K => match o.guard with
    | none => stepA P n ops o c fun c' => normA c' fun c' => opsA P n ops r c' K
    | some _ => guardA n ops c o (stepA P n ops o c fun c' => normA c' fun c' => opsA P n ops r c' K) (bif dstOk n o.dst then normA (c.put o.dst (.v undef)) fun c' => opsA P n ops r c' K else False) ∨ guardV P n ops c o fun c' => normA c' fun c' => opsA P n ops r c' K

section
variable {P : Program} {n : Nat} {ops : Array Oper} {c : Cfg}

theorem guard_wanted {W0 : World} {G0 : Gh} {a : Act} {w : World} {g : Gh} {o : Oper} {yes no : Prop} (hi : Inv n W0 G0 c a w g) (h : guardA n ops.toList c o yes no) :
    (Region.wanted o (yielded ops a.tmps) = true ∧ yes) ∨ (Region.wanted o (yielded ops a.tmps) = false ∧ no) := by
  unfold guardA at h
  unfold Region.wanted
  split at h
  · rename_i hg; rw [hg]; exact .inl ⟨rfl, h⟩
  · rename_i j want hg
    rw [hg]
    simp only
    have hy : ∀ t, (ops.toList[j]?).bind (·.dst) = some t → yielded ops a.tmps j = (match a.tmps[t]? with
      | some (.bool b) => some b
      | _ => none) := by
      intro t ht
      unfold yielded
      have : (ops[j]?).bind (·.dst) = some t := by simpa using ht
      rw [this]
      rfl
    split at h
    · rename_i hd
      refine .inr ⟨?_, h⟩
      have : (ops[j]?).bind (·.dst) = none := by simpa using hd
      unfold yielded
      rw [this]
      rfl
    · rename_i t ht
      cases hb : Nat.blt t n with
      | false => rw [hb] at h; exact h.elim
      | true =>
        rw [hb] at h
        simp only [cond_true] at h
        have htn : t < n := by rw [← Nat.blt_eq]; exact hb
        have hr := hi.fr t htn
        have hget : a.tmps[t]? = some (a.tmps.getD t undef) := by
          rw [Array.getD_eq_getD_getElem?, Array.getElem?_eq_getElem (by rw [hi.size]; exact htn)]; rfl
        rw [hy t ht, hget]
        split at h
        · rename_i b hx
          rw [hx] at hr
          obtain ⟨e, _⟩ := rep_v hr
          rw [e]
          simp only
          by_cases hw : b = want
          · subst hw; exact .inl ⟨by simp, h.1 rfl⟩
          · exact .inr ⟨by simpa using hw, h.2 hw⟩
        · rename_i vs hx
          rw [hx] at hr
          obtain ⟨e, _⟩ := rep_v hr
          rw [e]
          exact .inr ⟨rfl, h⟩
        · exact h.elim

theorem opsA_sound {K : Cfg → Prop} {W0 : World} {G0 : Gh} {Q : Exit → Act → World → Prop} (hQ : ∀ c' a' w' g', K c' → Inv n W0 G0 c' a' w' g' → Q .normal a' w') :
    ∀ (l : List Oper) (i : Nat) (c : Cfg) (a : Act) (w : World) (g : Gh), (∀ j : Nat, l[j]? = ops[i + j]?) → opsA P n ops.toList l c K → Inv n W0 G0 c a w g → wpOps P ops Q (List.range' i l.length) a w
  | [], _, c, a, w, g, _, h, hi => hQ c a w g h hi
  | o :: l, i, c, a, w, g, hl, h, hi => by
    have h0 : ops[i]? = some o := by simpa using (hl 0).symm
    have hl' : ∀ j : Nat, l[j]? = ops[i + 1 + j]? := fun j => by
      have := hl (j + 1)
      simpa [Nat.add_assoc, Nat.add_comm 1 j] using this
    simp only [List.length_cons, List.range'_succ, wpOps, h0]
    simp only [opsA, normA_iff] at h
    have h : guardA n ops.toList c o (stepA P n ops.toList o c fun c' => opsA P n ops.toList l c' K) (bif dstOk n o.dst then opsA P n ops.toList l (c.put o.dst (.v undef)) K else False) ∨ guardV P n ops.toList c o fun c' => opsA P n ops.toList l c' K := by
      cases hg : o.guard with
      | none => rw [hg] at h; exact .inl (by unfold guardA; rw [hg]; exact h)
      | some q => rw [hg] at h; exact h
    rcases h with h | h
    rotate_left
    · obtain ⟨c', u, hk, ⟨hw, q1, q2⟩ | ⟨hw, q2⟩⟩ := guardV_sound hi h
      · rw [if_pos hw]
        refine .inl ?_
        unfold Oper.wp
        rw [q1]
        exact opsA_sound hQ l (i + 1) c' _ w g hl' hk q2
      · rw [if_neg (by rw [hw]; simp)]
        exact opsA_sound hQ l (i + 1) c' _ w g hl' hk q2
    rcases guard_wanted hi h with ⟨hw, h⟩ | ⟨hw, h⟩
    · rw [if_pos hw]
      exact .inl (stepA_sound h W0 G0 a w g hi _ Q fun c' a' w' g' hk hi' => opsA_sound hQ l (i + 1) c' a' w' g' hl' hk hi')
    · rw [if_neg (by rw [hw]; simp)]
      cases hd : dstOk n o.dst with
      | false => rw [hd] at h; exact h.elim
      | true =>
        rw [hd] at h
        exact opsA_sound hQ l (i + 1) _ _ w g hl' h (hi.putO (fun x e => by rw [e] at hd; rw [← Nat.blt_eq]; exact hd) (rep_v_mk rfl))

/-- A region in the order of its text. -/
theorem XW.region {Q : Exit → Cfg → Prop} {id : Nat} (h : opsA P n ops.toList ops.toList c fun c' => Q .normal c') : XW P n (.region id ops false) Q c := ⟨fun W0 G0 a w g hi => by
  refine wp_region ?_
  have := opsA_sound (P := P) (n := n) (ops := ops) (W0 := W0) (G0 := G0) (Q := fun e a' w' => ∃ c' g', Q e c' ∧ Inv n W0 G0 c' a' w' g') (fun c' a' w' g' hk hi' => ⟨c', g', hk, hi'⟩) ops.toList 0 c a w g (by simp) h hi
  rwa [← List.range_eq_range', Array.length_toList] at this⟩

theorem XW.cond {Q : Exit → Cfg → Prop} {x : Operand} {thn els : Code} (hx : okTmp n x = true) (h : match evA c x with
    | .v (.bool b) => (b = true → XW P n thn Q c) ∧ (b = false → XW P n els Q c)
    | _ => False) : XW P n (.cond x thn els) Q c := ⟨fun W0 G0 a w g hi => by
  split at h
  · rename_i b hb
    have hr := hi.eval hx
    rw [hb] at hr
    obtain ⟨e, _⟩ := rep_v hr
    exact wp_cond_split e (fun ht => (h.1 ht).run W0 G0 a w g hi) (fun hf => (h.2 hf).run W0 G0 a w g hi)
  · exact h.elim⟩
end
end Go.Ev
end
section
/- Written by this session: what is to be shown of a body, over trees, as a proposition; and that it is enough. Conditions: none beyond those in each statement. -/
namespace Go.Ev
open Go

def condA (n : Nat) (x : Operand) (c : Cfg) (thn els : Prop) : Prop :=
  bif okTmp n x then (match evA c x with
    | .v (.bool b) => (b = true → thn) ∧ (b = false → els)
    | _ => False) else False

def codeA (P : Program) (n : Nat) : Code → (Exit → Cfg → Prop) → Cfg → Prop
  | .skip, Q, c => Q .normal c
  | .label _, Q, c => Q .normal c
  | .region id ops draw, Q, c => bif draw then XW P n (.region id ops draw) Q c else opsA P n ops.toList ops.toList c fun c' => Q .normal c'
  | .seq x y, Q, c => codeA P n x (Then (fun c' => codeA P n y Q c') Q) c
  | .cond x thn els, Q, c => condA n x c (codeA P n thn Q c) (codeA P n els Q c)
  | .block id x, Q, c => codeA P n x (InBlock id Q) c
  | .exit id, Q, c => Q (.exit id) c
  | .ret, Q, c => Q .ret c
  | .loop x, Q, c => XW P n (.loop x) Q c
  | .rangeFunc f ps x y, Q, c => XW P n (.rangeFunc f ps x y) Q c
  | .scope x, Q, c => XW P n (.scope x) Q c
  | .goto l, Q, c => XW P n (.goto l) Q c
  | .refuse s, Q, c => XW P n (.refuse s) Q c

theorem codeA_sound {P : Program} {n : Nat} : ∀ (cd : Code) (Q : Exit → Cfg → Prop) (c : Cfg), codeA P n cd Q c → XW P n cd Q c
  | .skip, _, _, h => XW.skip h
  | .label _, _, _, h => XW.label h
  | .region id ops draw, Q, c, h => by
    cases draw with
    | true => exact h
    | false => exact XW.region h
  | .seq x y, Q, c, h => by
    refine XW.seq ((codeA_sound x _ c h).mono fun e c' q => ?_)
    cases e with
    | normal => exact codeA_sound y Q c' q
    | _ => exact q
  | .cond x thn els, Q, c, h => by
    simp only [codeA, condA] at h
    cases hx : okTmp n x with
    | false => rw [hx] at h; exact h.elim
    | true =>
      rw [hx] at h
      refine XW.cond hx ?_
      simp only [cond_true] at h
      split at h
      · rename_i b hb
        try rw [hb]
        exact ⟨fun e => codeA_sound thn Q c (h.1 e), fun e => codeA_sound els Q c (h.2 e)⟩
      · exact h.elim
  | .block id x, Q, c, h => XW.block (codeA_sound x _ c h)
  | .exit id, _, _, h => XW.exit h
  | .ret, _, _, h => XW.ret h
  | .loop _, _, _, h => h
  | .rangeFunc .., _, _, h => h
  | .scope _, _, _, h => h
  | .goto _, _, _, h => h
  | .refuse _, _, _, h => h

/-- The contract of a function out of what is to be shown of its body. -/
theorem XCalls.body {P : Program} {f : FuncId} {fn : Func} {cd : Code} {args : List AV} {env : List Bx} {R : AV → Bool → List Bx → Prop} (hf : P.funcs[f]? = some fn) (hb : fn.body = some cd) (ha : args.length ≤ fn.ntmps)
    (h : codeA P fn.ntmps cd (fun e c' => (e = .normal ∨ e = .ret) ∧ c'.env.length = env.length ∧ retA P fn.ntmps fn.results.toList c' (fun r ow => R r ow c'.env)) ⟨frOf 0 args, [], [], env⟩) :
    XCalls P f args env R := XCalls.intro hf hb ha (codeA_sound _ _ _ h)

/-- At the end of a function that hands on its boxes. -/
def OutB (P : Program) (n : Nat) (rs : List ResultVar) (k : Nat) (R : AV → Bool → List Bx → Prop) (e : Exit) (c : Cfg) : Prop :=
  (e = .normal ∨ e = .ret) ∧ c.env.length = k ∧ retB P n rs c fun r ow => R (r.up c.base) ow (c.env ++ c.own.map (Bx.up c.base))

theorem XCalls.bodyB {P : Program} {f : FuncId} {fn : Func} {cd : Code} {args : List AV} {env : List Bx} {R : AV → Bool → List Bx → Prop} (hf : P.funcs[f]? = some fn) (hb : fn.body = some cd) (ha : args.length ≤ fn.ntmps)
    (h : codeA P fn.ntmps cd (OutB P fn.ntmps fn.results.toList env.length R) ⟨frOf 0 args, [], [], env⟩) :
    XCalls P f args env R := XCalls.introB hf hb ha (codeA_sound _ _ _ h)

/-- At the end: what comes back, of a function that leaves boxes alone. -/
def Out (P : Program) (n : Nat) (rs : List ResultVar) (env : List Bx) (r : AV) (ow : Bool) (e : Exit) (c : Cfg) : Prop :=
  (e = .normal ∨ e = .ret) ∧ c.env = env ∧ retA P n rs c fun r' ow' => r' = r ∧ (ow = true → ow' = true)

theorem XPure.body {P : Program} {f : FuncId} {fn : Func} {cd : Code} {args : List AV} {r : AV} {ow : Bool} (hc : Callable P f) (hf : P.funcs[f]? = some fn) (hb : fn.body = some cd) (ha : args.length ≤ fn.ntmps) (hp : r.pf = true)
    (h : ∀ env, codeA P fn.ntmps cd (Out P fn.ntmps fn.results.toList env r ow) ⟨frOf 0 args, [], [], env⟩) : XPure P f args r ow := by
  refine ⟨hc, hp, fun env => ?_⟩
  have h1 := XCalls.intro (R := fun r' ow' env' => r' = r ∧ (ow = true → ow' = true) ∧ env' = env) hf hb ha ((codeA_sound _ _ _ (h env)).mono fun e c' q => by
    obtain ⟨q1, q2, q3⟩ := q
    refine ⟨q1, by rw [q2], ?_⟩
    have e : (fun r' ow' => (r' = r ∧ (ow = true → ow' = true) ∧ c'.env = env)) = (fun r' ow' => r' = r ∧ (ow = true → ow' = true)) := by
      funext r' ow'; simp [q2]
    rw [e]; exact q3)
  intro w g vs G hs hv
  refine (h1 w g vs G hs hv).mono ?_
  rintro e w' ⟨u, g', r', ow', env', k1, ⟨rfl, k2, rfl⟩, k3, k4, k5, k6, k7⟩
  refine ⟨u, g', r', ow, env', k1, ⟨rfl, rfl, rfl⟩, k3, k4, k5, k6, fun h => k7 (k2 h)⟩
end Go.Ev
end
section
/- Written by this session: what may be forgotten of a frame of trees. Conditions: none beyond those in each statement. -/
namespace Go.Ev
open Go

/-- y says no more than x. -/
def Leq (x y : AV) : Prop := y = .top ∨ x = y ∨ (x = .v (.slice none 0 0) ∧ ∃ k, 0 < k ∧ y = .sl k [])

def LeqL (base m : Nat) : List AV → List AV → Prop
  | [], [] => True
  | x :: xs, y :: ys => Leq x y ∧ y.cl base m ∧ LeqL base m xs ys
  | _, _ => False

def FrLeq (base m : Nat) (f : Fr) : Fr → Prop
  | [] => True
  | (i, y) :: r => Leq (Fr.get f i) y ∧ y.cl base m ∧ FrLeq base m f r

def AV.slK : AV → Option (Nat × List AV)
  | .sl k l => some (k, l)
  | _ => none

def OsLeq (n : Nat) (c : Cfg) (f0 : Fr) : List Nat → Prop
  | [] => True
  | i :: r => (i ∈ c.os ∨ (i < n ∧ Fr.get c.fr i = .v (.slice none 0 0))) ∧ (Fr.get f0 i).slK.isSome = true ∧ OsLeq n c f0 r

def OwnLeq (base m : Nat) : List Bx → List Bx → Prop
  | _, [] => True
  | .cells l os :: r, .cells l0 os0 :: r0 => LeqL base m l l0 ∧ (∀ j ∈ os0, (j ∈ os ∨ l[j]? = some (.v (.slice none 0 0))) ∧ (l0[j]?.bind AV.slK).isSome = true) ∧ OwnLeq base m r r0
  | .map l :: r, .map l0 :: r0 => l = l0 ∧ OwnLeq base m r r0
  | _, _ => False

section
variable {w : World} {hw : Hw} {bs : List Nat} {base m : Nat}

theorem nil_slot {L : Loc} {g : Gh} {k : Nat} : OwnAt w g L k (.slice none 0 0) := ⟨_, _, _, rfl, Nat.le_refl _, .inl rfl⟩

theorem Rep.cut {x y : AV} {v : Value} (h : Leq x y) (hc : y.cl base m) (hr : Rep w hw bs base x v) : Rep w hw (bs.take (base + m)) base y v := by
  have main : Rep w hw bs base y v := by
    rcases h with rfl | rfl | ⟨rfl, k, hk, rfl⟩
    · exact .inl rfl
    · exact hr
    · obtain ⟨rfl, _⟩ := rep_v hr
      exact rep_sl_mk rfl (Nat.le_refl _) ⟨hk, by simp⟩ (.inl rfl)
  have one : ∀ {y : AV} {v : Value}, y.cl base m → Rep1 w hw bs base y v → Rep1 w hw (bs.take (base + m)) base y v := fun hc h => h.imp id fun ⟨h1, h2⟩ => ⟨RepV.takeV _ _ hc h1, h2⟩
  cases y with
  | tup l =>
    obtain ⟨vs, e, h⟩ := main
    refine ⟨vs, e, ?_⟩
    simp only [AV.cl] at hc
    have : ∀ (l : List AV) (vs : List Value), clL base m l → RepT w hw bs base l vs → RepT w hw (bs.take (base + m)) base l vs := by
      intro l
      induction l with
      | nil => intro vs _ h; exact h
      | cons x l ih =>
        intro vs hc h
        simp only [RepT, clL] at h hc ⊢
        obtain ⟨v, vs', e, q1, q2⟩ := h
        exact ⟨v, vs', e, one hc.1 q1, ih _ hc.2 q2⟩
    exact this l _ hc h
  | _ => exact one hc main

theorem RepL.cut : ∀ {l l0 : List AV} {vs : List Value}, LeqL base m l l0 → RepL w hw bs base l vs → RepL w hw (bs.take (base + m)) base l0 vs
  | [], [], _, _, h => by simpa only [RepL] using h
  | x :: l, y :: l0, _, hl, h => by
    simp only [LeqL] at hl
    simp only [RepL] at h ⊢
    obtain ⟨v, vs', e, q1, q2⟩ := h
    have hy : RepV w hw bs base y [v] ∧ y.isAgg = false := by
      rcases hl.1 with rfl | rfl | ⟨rfl, k, hk, rfl⟩
      · exact ⟨by simp only [RepV]; exact ⟨v, rfl⟩, rfl⟩
      · exact ⟨q1.1, q1.2.1⟩
      · have h := q1.1
        simp only [RepV] at h
        simp only [List.cons.injEq, and_true] at h
        subst h
        exact ⟨by simp only [RepV]; exact ⟨none, 0, rfl, Nat.le_refl _, ⟨hk, by simp⟩, .inl trivial⟩, rfl⟩
    exact ⟨v, vs', e, ⟨RepV.takeV _ _ hl.2.1 hy.1, hy.2, q1.2.2⟩, RepL.cut hl.2.2 q2⟩
  | [], _ :: _, _, hl, _ => by simp only [LeqL] at hl
  | _ :: _, [], _, hl, _ => by simp only [LeqL] at hl
end

theorem OwnLeq.get {base m : Nat} : ∀ {o o0 : List Bx} {i : Nat} {x0 : Bx}, OwnLeq base m o o0 → o0[i]? = some x0 → ∃ x, o[i]? = some x ∧ OwnLeq base m [x] [x0]
  | o, [], i, x0, _, h => by simp at h
  | .cells l os :: r, .cells l0 os0 :: r0, 0, x0, h, e => by
    simp only [List.getElem?_cons_zero, Option.some.injEq] at e
    subst e
    simp only [OwnLeq] at h
    exact ⟨_, rfl, by simp only [OwnLeq]; exact ⟨h.1, h.2.1, trivial⟩⟩
  | .map l :: r, .map l0 :: r0, 0, x0, h, e => by
    simp only [List.getElem?_cons_zero, Option.some.injEq] at e
    subst e
    simp only [OwnLeq] at h
    exact ⟨_, rfl, by simp only [OwnLeq]; exact ⟨h.1, trivial⟩⟩
  | .cells l os :: r, .cells l0 os0 :: r0, i + 1, x0, h, e => by
    simp only [OwnLeq] at h
    obtain ⟨x, hx, hr⟩ := OwnLeq.get h.2.2 (i := i) (by simpa using e)
    exact ⟨x, by simpa using hx, hr⟩
  | .map l :: r, .map l0 :: r0, i + 1, x0, h, e => by
    simp only [OwnLeq] at h
    obtain ⟨x, hx, hr⟩ := OwnLeq.get h.2 (i := i) (by simpa using e)
    exact ⟨x, by simpa using hx, hr⟩
  | [], .cells _ _ :: _, _, _, h, _ => by simp only [OwnLeq] at h
  | [], .map _ :: _, _, _, h, _ => by simp only [OwnLeq] at h
  | .map _ :: _, .cells _ _ :: _, _, _, h, _ => by simp only [OwnLeq] at h
  | .cells _ _ :: _, .map _ :: _, _, _, h, _ => by simp only [OwnLeq] at h

theorem OwnLeq.len {base m : Nat} : ∀ {o o0 : List Bx}, OwnLeq base m o o0 → o0.length ≤ o.length
  | _, [], _ => Nat.zero_le _
  | .cells l os :: r, .cells l0 os0 :: r0, h => by simp only [OwnLeq] at h; have := OwnLeq.len h.2.2; simp; omega
  | .map l :: r, .map l0 :: r0, h => by simp only [OwnLeq] at h; have := OwnLeq.len h.2; simp; omega
  | [], .cells _ _ :: _, h => by simp only [OwnLeq] at h
  | [], .map _ :: _, h => by simp only [OwnLeq] at h
  | .map _ :: _, .cells _ _ :: _, h => by simp only [OwnLeq] at h
  | .cells _ _ :: _, .map _ :: _, h => by simp only [OwnLeq] at h

mutual
theorem cl_mono {base m m' : Nat} (h : m ≤ m') : ∀ a : AV, a.cl base m → a.cl base m'
  | .top, _ | .v _, _ | .sl _ _, _ | .ep _, _ | .gv _ _, _ | .ifc _ _, _ => by simp only [AV.cl]
  | .bp i _, c => by simp only [AV.cl] at c ⊢; omega
  | .mo i, c => by simp only [AV.cl] at c ⊢; omega
  | .xp i _, c => by simp only [AV.cl] at c ⊢; exact c
  | .mx i, c => by simp only [AV.cl] at c ⊢; exact c
  | .bs .., c => by simp only [AV.cl] at c ⊢; omega
  | .xs .., c => by simp only [AV.cl] at c ⊢; exact c
  | .agg l, c => by simp only [AV.cl] at c ⊢; exact clL_mono h l c
  | .tup l, c => by simp only [AV.cl] at c ⊢; exact clL_mono h l c
  | .fn f a b, c => by simp only [AV.cl] at c ⊢; exact ⟨clL_mono h a c.1, clL_mono h b c.2⟩
theorem clL_mono {base m m' : Nat} (h : m ≤ m') : ∀ l : List AV, clL base m l → clL base m' l
  | [], _ => by simp only [clL]
  | x :: l, c => by simp only [clL] at c ⊢; exact ⟨cl_mono h x c.1, clL_mono h l c.2⟩
end

theorem Weak.of {n : Nat} {c c0 : Cfg} (he : c0.env = c.env) (hf : FrLeq c.base c0.own.length c.fr c0.fr) (ho : OsLeq n c c0.fr c0.os) (hw : OwnLeq c.base c0.own.length c.own c0.own) : Weak n c c0 := by
  intro W0 G0 a w g hi
  have hb : c0.base = c.base := by simp [Cfg.base, he]
  have hlen := OwnLeq.len hw
  have hbl : g.bs.length = c.base + c.own.length := by rw [hi.good.len]; simp [Cfg.mem, Cfg.base]
  have hget : ∀ (i : Nat) (b : Nat), (g.bs.take (c.base + c0.own.length))[i]? = some b → i < c.base + c0.own.length ∧ g.bs[i]? = some b := fun i b h => by
    rw [List.getElem?_take] at h
    split at h
    · exact ⟨by assumption, h⟩
    · cases h
  have hfr : ∀ (f0 : Fr) (i : Nat), FrLeq c.base c0.own.length c.fr f0 → (Fr.get f0 i = .top) ∨ (Leq (Fr.get c.fr i) (Fr.get f0 i) ∧ (Fr.get f0 i).cl c.base c0.own.length) := by
    intro f0
    induction f0 with
    | nil => intro i _; exact .inl rfl
    | cons p f0 ih =>
      intro i h
      obtain ⟨j, y⟩ := p
      simp only [FrLeq] at h
      rw [Fr.get_cons]
      split
      · rename_i e; subst e; exact .inr ⟨h.1, h.2.1⟩
      · exact ih i h.2.2
  let g' : Gh := { g with bs := g.bs.take (c.base + c0.own.length) }
  have hG : Good w g' c0.mem c0.base := by
    refine ⟨by simp [g', Cfg.mem, he, hbl, Cfg.base] at hlen ⊢; omega, hi.good.nd.sublist (List.take_sublist _ _), fun b hb => hi.good.nohw b (List.mem_of_mem_take hb), fun i x b hx hb' => ?_, hi.good.hw, hi.good.own, hi.good.glob⟩
    obtain ⟨hil, hbi⟩ := hget i b hb'
    rw [hb]
    rcases Nat.lt_or_ge i c.base with hi' | hi'
    · have hx' : c.env[i]? = some x := by
        rw [Cfg.mem, List.getElem?_append_left (by rw [he]; exact hi'), he] at hx; exact hx
      have := hi.good.env_box (env := c.env) (own := c.own) hx' hbi
      have hcl := hi.ecl x (List.mem_of_getElem? hx')
      cases x with
      | cells l os =>
        obtain ⟨cs, e, h1, h2, h3⟩ := this
        exact ⟨cs, e, h1, RepL.takeL l _ (clL_mono (Nat.zero_le _) l hcl) h2, fun j hj => by
          obtain ⟨k, l', y, q1, q2, q3⟩ := h3 j hj
          exact ⟨k, l', y, q1, q2, q3.mono fun b hb => ⟨hb, rfl, rfl⟩⟩⟩
      | map l => exact this
    · have hx0 : c0.own[i - c.base]? = some x := by
        rw [Cfg.mem, List.getElem?_append_right (by rw [he]; exact hi'), he] at hx; exact hx
      obtain ⟨y, hy, hle⟩ := OwnLeq.get hw hx0
      have hbi' : g.bs[c.env.length + (i - c.base)]? = some b := by
        have : c.env.length + (i - c.base) = i := by simp only [Cfg.base] at hi' ⊢; omega
        rw [this]; exact hbi
      have := hi.good.own_box (env := c.env) (own := c.own) hy hbi'
      have hidx : c.env.length + (i - c.base) = i := by simp only [Cfg.base] at hi' ⊢; omega
      rw [hidx] at this
      cases x with
      | cells l0 os0 =>
        cases y with
        | map l => simp only [OwnLeq] at hle
        | cells l os =>
          simp only [OwnLeq] at hle
          obtain ⟨cs, e, h1, h2, h3⟩ := this
          refine ⟨cs, e, h1, RepL.cut hle.1 h2, fun j hj => ?_⟩
          obtain ⟨hjo, hjs⟩ := hle.2.1 j hj
          obtain ⟨⟨k0, l0'⟩, hkl⟩ := Option.isSome_iff_exists.1 hjs
          have hkl' : l0[j]? = some (.sl k0 l0') := by
            cases hq : l0[j]? with
            | none => rw [hq] at hkl; cases hkl
            | some q => rw [hq] at hkl; cases q <;> simp [AV.slK] at hkl; obtain ⟨rfl, rfl⟩ := hkl; rfl
          rcases hjo with hjo | hjo
          · obtain ⟨k, l', v, q1, q2, q3⟩ := h3 j hjo
            have hLL : ∀ (l l0 : List AV) (j : Nat) (x y : AV), LeqL c.base c0.own.length l l0 → l[j]? = some x → l0[j]? = some y → Leq x y := by
              intro l
              induction l with
              | nil => intro l0 j x y _ h; simp at h
              | cons a l ih =>
                intro l0 j x y h e1 e2
                cases l0 with
                | nil => simp at e2
                | cons b l0 =>
                  simp only [LeqL] at h
                  cases j with
                  | zero => simp at e1 e2; subst e1 e2; exact h.1
                  | succ j => exact ih l0 j x y h.2.2 (by simpa using e1) (by simpa using e2)
            have hlq := hLL l l0 j _ _ hle.1 q1 hkl'
            rcases hlq with h | h | ⟨h, _⟩
            · cases h
            · cases h
              exact ⟨_, _, v, hkl', q2, q3.mono fun b hb => ⟨hb, rfl, rfl⟩⟩
            · cases h
          · obtain ⟨v, hv, hrv, _⟩ := h2.get hjo
            simp only [RepV, List.cons.injEq, and_true] at hrv
            subst hrv
            exact ⟨k0, l0', _, hkl', by simpa using hv, nil_slot⟩
      | map l0 =>
        cases y with
        | cells l os => simp only [OwnLeq] at hle
        | map l => simp only [OwnLeq] at hle; rw [← hle.1]; exact this
  have hE : Ext (· = .ext) W0 G0 w g' := by
    have E := hi.ext
    refine ⟨E.size, E.tape, E.os, E.output, E.hw, E.ext, fun i b h => ?_, fun b hb => E.bsnew b (List.mem_of_mem_take hb), E.orig, E.old⟩
    have := (List.getElem?_eq_some_iff.1 h).1
    rw [hi.b0] at this
    rw [List.getElem?_take, if_pos (by omega)]
    exact E.bs i b h
  refine ⟨g', ⟨hi.size, hi.defers, fun i hn => ?_, fun i hm => ?_, hG, hE, by rw [he, hb]; exact hi.ecl, by rw [hb]; exact hi.b0⟩⟩
  · rw [hb]
    rcases hfr c0.fr i hf with h | ⟨h1, h2⟩
    · rw [h]; exact .inl rfl
    · exact (hi.fr i hn).cut h1 h2
  · have hos : ∀ (l : List Nat), OsLeq n c c0.fr l → ∀ i ∈ l, (i ∈ c.os ∨ (i < n ∧ Fr.get c.fr i = .v (.slice none 0 0))) ∧ (Fr.get c0.fr i).slK.isSome = true := by
      intro l
      induction l with
      | nil => intro _ i h; cases h
      | cons j l ih =>
        intro h i hi
        simp only [OsLeq] at h
        rcases List.mem_cons.1 hi with rfl | hi
        · exact ⟨h.1, h.2.1⟩
        · exact ih h.2.2 i hi
    obtain ⟨h1, h2⟩ := hos c0.os ho i hm
    obtain ⟨⟨k0, l0⟩, hkl⟩ := Option.isSome_iff_exists.1 h2
    have hkl' : Fr.get c0.fr i = .sl k0 l0 := by
      cases hq : Fr.get c0.fr i <;> rw [hq] at hkl <;> simp [AV.slK] at hkl
      obtain ⟨rfl, rfl⟩ := hkl; rfl
    rcases hfr c0.fr i hf with h | ⟨h3, _⟩
    · rw [h] at hkl'; cases hkl'
    · rw [hkl'] at h3
      rcases h1 with h1 | h1
      · obtain ⟨k, l, e1, e2⟩ := hi.os i h1
        rw [e1] at h3
        rcases h3 with h | h | ⟨h, _⟩
        · cases h
        · cases h
          exact ⟨_, _, hkl', e2.mono fun b hb => ⟨hb, rfl, rfl⟩⟩
        · cases h
      · refine ⟨k0, l0, hkl', ?_⟩
        have hr := hi.fr i h1.1
        rw [h1.2] at hr
        obtain ⟨e, _⟩ := rep_v hr
        rw [e]; exact nil_slot
end Go.Ev
end
section
/- Written by this session: a region that draws its order, over trees. Conditions: none beyond those in each statement. -/
namespace Go.Ev
open Go

abbrev FS := Nat → AV
def evF (F : FS) : Operand → AV
  | .tmp t => F t
  | .const v => cst v
  | .func f => .fn (.func f) [] []
  | .global g => globA g
def updO (F : FS) (d : Option Nat) (v : AV) : FS :=
  match d with
  | some d => upd F d v
  | none => F

theorem evF_get (c : Cfg) : evF (Fr.get c.fr) = evA c := by funext x; cases x <;> rfl
theorem get_put (c : Cfg) (d : Option Nat) (v : AV) : Fr.get (c.put d v).fr = updO (Fr.get c.fr) d v := by
  cases d with
  | none => rfl
  | some d =>
    funext i
    simp only [Cfg.put, Fr.get_cons, updO, upd]
    by_cases h : d = i
    · subst h; simp
    · rw [if_neg h, if_neg (Ne.symm h)]

/-- What an operation gives, whatever else memory is, boxes being as they are. -/
def Yield (P : Program) (env own : List Bx) (ρA : Operand → AV) (o : Oper) (v : AV) : Prop :=
  ∀ (a : Act) (w : World) (g : Gh), Good w g (env ++ own) env.length → (∀ x ∈ env, Bx.cl env.length 0 x) → (∀ x, x ∈ o.op.operands → Rep w g.hw g.bs env.length (ρA x) (a.eval x)) →
    ∀ (next : Act → World → Prop) (Q : Exit → Act → World → Prop), (∀ u w' g', Good w' g' (env ++ own) env.length → Ext KeepS w g w' g' → Rep w' g'.hw g'.bs env.length v u → next (a.put o.dst u) w') → o.wp P a w next Q

theorem Yield.congr {P : Program} {env own : List Bx} {ρA ρA' : Operand → AV} {o : Oper} {v : AV} (h : Yield P env own ρA o v) (he : ∀ x, x ∈ o.op.operands → ρA' x = ρA x) : Yield P env own ρA' o v :=
  fun a w g G E hr => h a w g G E fun x hx => by rw [← he x hx]; exact hr x hx

theorem Yield.pure {P : Program} {env own : List Bx} {ρA : Operand → AV} {o : Oper} {v : AV} (h : PureAt P env own ρA o v) : Yield P env own ρA o v := by
  intro a w g G _ hr next Q hn
  obtain ⟨u, hu, hrep⟩ := h a.eval w g G hr
  unfold Oper.wp
  rw [hu]
  exact hn u w g G (Ext.refl _ _ _) hrep

/-- Is the operation wanted? -/
def wantF (ops : List Oper) (F : FS) (o : Oper) : Option Bool :=
  match o.guard with
  | none => some true
  | some (j, want) => match (ops[j]?).bind (·.dst) with
    | none => some false
    | some t => match F t with
      | .v (.bool b) => some (b == want)
      | .v (.tuple _) => some false
      | _ => none

def okF (n : Nat) (ops : List Oper) (o : Oper) : Bool :=
  opsOk n o && (match o.guard with
    | none => true
    | some (j, _) => ((ops[j]?).bind (·.dst)).all (Nat.blt · n))

def Seq (P : Program) (n : Nat) (env own : List Bx) (ops : List Oper) : List Nat → FS → (FS → Prop) → Prop
  | [], F, K => K F
  | i :: r, F, K => ∃ o v, ops[i]? = some o ∧ okF n ops o = true ∧ ((wantF ops F o = some true ∧ Yield P env own (evF F) o v) ∨ (wantF ops F o = some false ∧ v = .v undef)) ∧ Seq P n env own ops r (updO F o.dst v) K

section
variable {P : Program} {n : Nat} {env own : List Bx} {ops : Array Oper}

theorem evF_upd {F : FS} {d : Option Nat} {v : AV} {x : Operand} (h : ∀ t, d = some t → x ≠ .tmp t) : evF (updO F d v) x = evF F x := by
  cases d with
  | none => rfl
  | some d =>
    cases x with
    | tmp t =>
      have : t ≠ d := fun e => h d rfl (by rw [e])
      simp only [evF, updO, upd, if_neg this]
    | _ => rfl

theorem wantF_upd {F : FS} {d : Option Nat} {v : AV} {o : Oper} (h : ∀ t, d = some t → t ∉ o.looksAt ops) : wantF ops.toList (updO F d v) o = wantF ops.toList F o := by
  cases d with
  | none => rfl
  | some d =>
    unfold wantF
    cases hg : o.guard with
    | none => rfl
    | some gw =>
      obtain ⟨j, want⟩ := gw
      simp only
      cases ht : (ops.toList[j]?).bind (·.dst) with
      | none => rfl
      | some t =>
        have hne : t ≠ d := fun e => h d rfl (by
          subst e
          have : (ops[j]?).bind (·.dst) = some t := by simpa using ht
          simp [Oper.looksAt, hg, this])
        simp only [updO, upd, if_neg hne]

theorem updO_comm {F : FS} {d e : Option Nat} {v u : AV} (h : ∀ t, d = some t → e ≠ some t) : updO (updO F d v) e u = updO (updO F e u) d v := by
  cases d with
  | none => rfl
  | some d =>
    cases e with
    | none => rfl
    | some e =>
      have hne : e ≠ d := fun he => h d rfl (by rw [he])
      funext i
      simp only [updO, upd]
      by_cases h1 : i = e
      · subst h1; simp [hne]
      · by_cases h2 : i = d
        · subst h2; simp [h1]
        · simp [h1, h2]

theorem looks_mem {o : Oper} {t : Nat} (h : (Operand.tmp t) ∈ o.op.operands) : t ∈ o.looksAt ops := by
  unfold Oper.looksAt
  exact List.mem_append_left _ (List.mem_filterMap.2 ⟨.tmp t, by simpa using h, rfl⟩)

/-- An operation that hangs on none of those ahead of it may go first. -/
theorem Seq.first {j : Nat} {oj : Oper} (hj : ops[j]? = some oj) : ∀ (r1 r2 : List Nat) (F : FS) (K : FS → Prop), (∀ i ∈ r1, ∀ oi, ops[i]? = some oi → oi.apart ops oj = true) → Seq P n env own ops.toList (r1 ++ j :: r2) F K →
    ∃ v, okF n ops.toList oj = true ∧ ((wantF ops.toList F oj = some true ∧ Yield P env own (evF F) oj v) ∨ (wantF ops.toList F oj = some false ∧ v = .v undef)) ∧ Seq P n env own ops.toList (r1 ++ r2) (updO F oj.dst v) K
  | [], r2, F, K, _, h => by
    simp only [List.nil_append, Seq] at h
    obtain ⟨o, v, h1, h2, h3, h4⟩ := h
    have : o = oj := by
      have : ops.toList[j]? = some oj := by simpa using hj
      rw [this] at h1; cases h1; rfl
    subst this
    exact ⟨v, h2, h3, h4⟩
  | i :: r1, r2, F, K, hap, h => by
    simp only [List.cons_append, Seq] at h
    obtain ⟨oi, vi, h1, h2, h3, h4⟩ := h
    have hoi : ops[i]? = some oi := by simpa using h1
    obtain ⟨p1, p2, p3⟩ := Oper.apart_spec (hap i (by simp) oi hoi)
    obtain ⟨v, k1, k2, k3⟩ := Seq.first hj r1 r2 _ K (fun i hi => hap i (by simp [hi])) h4
    refine ⟨v, k1, ?_, ?_⟩
    · rw [wantF_upd p1] at k2
      refine k2.imp (fun ⟨q1, q2⟩ => ⟨q1, q2.congr fun x hx => ?_⟩) id
      refine (evF_upd fun t ht e => ?_).symm
      subst e
      exact p1 t ht (looks_mem hx)
    · simp only [List.cons_append, Seq]
      refine ⟨oi, vi, h1, h2, ?_, ?_⟩
      · rw [wantF_upd p3]
        refine h3.imp (fun ⟨q1, q2⟩ => ⟨q1, q2.congr fun x hx => ?_⟩) id
        refine evF_upd fun t ht e => ?_
        subst e
        exact p3 t ht (looks_mem hx)
      · rw [← updO_comm p2]; exact k3
end
end Go.Ev
end
section
/- Written by this session: a region that draws its order: in whatever order its operations go, it comes to what the order of its text comes to. Conditions: none beyond those in each statement. -/
namespace Go.Ev
open Go

section
variable {P : Program} {n : Nat}

theorem argsRepF {w : World} {g : Gh} {base : Nat} {a : Act} {ρA : Operand → AV} : ∀ (l : List Operand), (∀ x ∈ l, Rep w g.hw g.bs base (ρA x) (a.eval x)) → (l.all fun x => !(ρA x).isTup) = true → RepT w g.hw g.bs base (l.map ρA) (l.map a.eval)
  | [], _, _ => rfl
  | x :: l, h, ht => by
    simp only [List.all_cons, Bool.and_eq_true, Bool.not_eq_true'] at ht
    simp only [List.map_cons, RepT]
    exact ⟨_, _, rfl, rep1_of ht.1 (h x (by simp)), argsRepF l (fun y hy => h y (by simp [hy])) ht.2⟩

/-- A call of a function that leaves memory as it is. -/
theorem Yield.call {env own : List Bx} {ρA : Operand → AV} {f : FuncId} {args : Array Operand} {ts : Array TypeId} {dst : Option Tmp} {type : TypeId} {pos : String} {after : Array Edge} {guard : Option (Nat × Bool)} {r : AV} {ow : Bool}
    (htup : (args.toList.all fun x => !(ρA x).isTup) = true) (hpf : pfL (args.toList.map ρA) = true) (hx : XPure P f (args.toList.map ρA) r ow) : Yield P env own ρA ⟨dst, .call ⟨.value (.func f), args, ts⟩, type, pos, after, guard⟩ r := by
  intro a w g G E hr next Q hn
  have hA := argsRepF (ρA := ρA) (a := a) args.toList (fun x hx => hr x (by simp [Op.operands, Call.operands]; exact .inr (by simpa using hx))) htup
  have hrun : (execOp a.eval ⟨dst, .call ⟨.value (.func f), args, ts⟩, type, pos, after, guard⟩).run P w = .ok (.enter f (args.toList.map a.eval).toArray) w := by
    have hq : a.eval (.func f) = .func (.func f) #[] #[] := rfl
    simp only [execOp, Sem.run_bind, resolve, hq, Deferred.ofValue, Sem.run_pure, Result.andThen_ok, invoke]
    rw [run_callFunc hx.1]
    congr 2
    apply Array.toList_inj.1; simp
  unfold Oper.wp
  rw [hrun]
  have hup : (args.toList.map ρA).map (AV.up env.length) = args.toList.map ρA := by rw [← upL_eq]; exact upL_pf _ _ hpf
  have hcl : ∀ x ∈ env ++ own, Bx.cl env.length ((env ++ own).length - env.length) x := by
    intro x hx
    obtain ⟨i, hi', rfl⟩ := List.mem_iff_getElem.1 hx
    have hib : i < g.bs.length := by rw [G.len]; exact hi'
    have := G.box i (env ++ own)[i] g.bs[i] (List.getElem?_eq_getElem hi') (List.getElem?_eq_getElem hib)
    cases hx : (env ++ own)[i] with
    | map l => trivial
    | cells l os =>
      rw [hx] at this
      obtain ⟨cs, e, _, h2, _⟩ := this
      have := RepL.toCl _ _ h2
      rw [G.len] at this
      exact this
  refine (Good.call (c := ⟨[], [], own, env⟩) (g := g) G hA (R := fun r' ow' env' => r' = r ∧ ow' = ow ∧ env' = (env ++ own).map (Bx.up env.length)) (by
    have := hx.2.2 ((env ++ own).map (Bx.up env.length))
    show XCalls P f ((args.toList.map ρA).map (AV.up env.length)) _ _
    rw [hup]; exact this) 0).mono ?_
  rintro e w' ⟨u, r', ow', env', rfl, ⟨rfl, rfl, rfl⟩, hcont⟩
  obtain ⟨g', h1, h2, h3, _⟩ := hcont r' (env ++ own) (up_pf _ _ hx.2.1).symm rfl (cl_pf _ hx.2.1) hcl
  exact hn u w' g' h1 h2 h3

/-- A slice that is built of values that hang on no box. -/
theorem Yield.buildSlice {env own : List Bx} {ρA : Operand → AV} {t e : TypeId} {len k : Nat} {parts : Array (Nat × Operand)} {xs : List Operand} {i : TypeInfo} {z : Value} {dst : Option Tmp} {type : TypeId} {pos : String} {after : Array Edge} {guard : Option (Nat × Bool)}
    (ht : P.underlying t = some (.slice e)) (hin : P.info? e = some i) (hz : i.zero = some z) (hk : i.size = k) (hk0 : 0 < k)
    (hlen : len = xs.length) (hparts : parts.toList = xs.zipIdx.map fun (x, j) => (j, x)) (hsm : len * k ≤ 16777216)
    (hxs : ∀ x ∈ xs, leavesOk (ρA x) = true ∧ (ρA x).pf = true ∧ (ρA x).isTup = false ∧ (ρA x).leaves.length = k) :
    Yield P env own ρA ⟨dst, .buildSlice t len parts, type, pos, after, guard⟩ (.sl k (xs.map ρA)) := by
  intro a w g G E hr next Q hn
  have hmem : ∀ x ∈ xs, x ∈ (Op.buildSlice t len parts).operands := fun x hx => by
    obtain ⟨j, hj, rfl⟩ := List.mem_iff_getElem.1 hx
    simp only [Op.operands, List.mem_toArray, List.mem_map, hparts]
    exact ⟨(j, xs[j]), ⟨(xs[j], j), by simp [List.mem_zipIdx_iff_getElem?, List.getElem?_eq_getElem hj], rfl⟩, rfl⟩
  have hT := argsRepF (ρA := ρA) (a := a) xs (fun x hx => hr x (hmem x hx)) (by
    rw [List.all_eq_true]; intro x hx; rw [(hxs x hx).2.2.1]; rfl)
  obtain ⟨hE, hcs, hl⟩ := repE_flat (k := k) _ _ hT (by
    intro y hy
    obtain ⟨x, hx, rfl⟩ := List.mem_map.1 hy
    exact ⟨(hxs x hx).1, (hxs x hx).2.1, (hxs x hx).2.2.2⟩)
  simp only [List.length_map] at hl
  subst hlen
  let cells0 : Array Value := (Array.range (xs.length * k)).map fun j => (if xs.length * k = 0 then (#[] : Array Value) else z.cells)[j % (if xs.length * k = 0 then (#[] : Array Value) else z.cells).size]!
  obtain ⟨cells', hfill, hcl⟩ := fill_row hk0 (xs.map a.eval) 0 cells0 [] hcs (by simp) (by simp [cells0])
  have hcells : cells' = ((xs.map a.eval).flatMap fun v => v.cells.toList).toArray := by apply Array.toList_inj.1; rw [hcl]; simp
  have hps : (parts.map fun (p : Nat × Operand) => (p.1, a.eval p.2)).toList = ((xs.map a.eval).zipIdx 0).map fun (v, j) => (j, v) := by
    rw [Array.toList_map, hparts]
    simp [List.zipIdx_map]
  have hlenE := RepE.len hE
  obtain ⟨G1, E1⟩ := G.push (.cells cells' e) (some cells'.size) none (by intro h e; simp at e; subst e; exact ⟨_, _, _, rfl, by simp⟩) (by simp)
  unfold Oper.wp
  have hsz : (sizeOf e).run P w = .ok k w := by simp [sizeOf, typeInfo, hin, hk]
  have hrun : (execOp a.eval ⟨dst, .buildSlice t xs.length parts, type, pos, after, guard⟩).run P w = .ok (.value (.slice (some ⟨w.heap.size, 0, none⟩) xs.length xs.length)) (push w (.cells cells' e)) := by
    have hc0 : ∀ zz : Array Value, zz = (if xs.length * k = 0 then (#[] : Array Value) else z.cells) → (Array.range (xs.length * k)).map (fun x => zz[x % zz.size]!) = cells0 := by rintro _ rfl; rfl
    simp only [execOp, Instr.buildSlice, Sem.run_bind, run_und ht, Result.andThen_ok, hsz]
    rw [if_neg (by omega : ¬ xs.length * k > 2 ^ 24)]
    simp only [hps]
    by_cases h0 : xs.length * k = 0
    · rw [if_pos h0]
      simp only [Sem.run_bind, Sem.run_pure, Result.andThen_ok]
      rw [hc0 #[] (by rw [if_pos h0]), hfill]
      simp [newRow, push]
    · rw [if_neg h0]
      have hzv : (zeroValue e).run P w = .ok z w := by simp [zeroValue, typeInfo, hin, hz]
      simp only [Sem.run_bind, Sem.run_pure, Result.andThen_ok, hzv]
      rw [hc0 z.cells (by rw [if_neg h0]), hfill]
      simp [newRow, push]
  rw [hrun]
  refine hn _ _ _ G1 E1 ?_
  have hfit : xs.length ≤ 140737488355328 := Nat.le_trans (Nat.le_mul_of_pos_right _ hk0) (Nat.le_trans hsm (by decide))
  refine rep_sl_mk (by simp) (by simp) ⟨hk0, by simpa using hfit⟩ (.inr ⟨w.heap.size, 0, _, rfl, ⟨cells'.size, upd_same _ _ _, by rw [hcells]; simp, fun j v hj => ?_⟩, RepE.mono E1.hw _ _ hE⟩)
  simp only [World.cell?, heap_push_new, Option.isSome_none, Bool.false_eq_true, if_false, Nat.zero_add]
  rw [hcells, List.getElem?_toArray]; exact hj

def steadySl (P : Program) (ρA : Operand → AV) (t : TypeId) (len : Nat) (parts : Array (Nat × Operand)) (K : AV → Prop) : Prop :=
  match P.underlying t, sliceParts 0 parts.toList with
  | some (.slice e), some xs => match P.info? e with
    | some i => match i.zero with
      | some _ => bif Nat.blt 0 i.size && Nat.beq len xs.length && Nat.ble (len * i.size) 16777216 && xs.all (fun x => leavesOk (ρA x) && !(ρA x).isTup && Nat.beq (ρA x).leaves.length i.size) && xs.all (fun x => pf1 (ρA x)) then K (.sl i.size (xs.map ρA)) else False
      | none => False
    | none => False
  | _, _ => False
theorem steadySl_sound {env own : List Bx} {ρA : Operand → AV} {t : TypeId} {len : Nat} {parts : Array (Nat × Operand)} {dst : Option Tmp} {type : TypeId} {pos : String} {after : Array Edge} {guard : Option (Nat × Bool)} {K : AV → Prop} (h : steadySl P ρA t len parts K) :
    ∃ v, Yield P env own ρA ⟨dst, .buildSlice t len parts, type, pos, after, guard⟩ v ∧ K v := by
  unfold steadySl at h
  split at h
  · rename_i e xs hu hp
    split at h
    · rename_i i hi
      split at h
      · rename_i z hz
        cases hc : (Nat.blt 0 i.size && Nat.beq len xs.length && Nat.ble (len * i.size) 16777216 && xs.all (fun x => leavesOk (ρA x) && !(ρA x).isTup && Nat.beq (ρA x).leaves.length i.size) && xs.all (fun x => pf1 (ρA x))) with
        | false => rw [hc] at h; exact h.elim
        | true =>
          rw [hc] at h
          simp only [Bool.and_eq_true] at hc
          obtain ⟨⟨⟨⟨c1, c2⟩, c3⟩, c4⟩, c5⟩ := hc
          refine ⟨_, Yield.buildSlice hu hi hz rfl (by rw [← Nat.blt_eq]; exact c1) (Nat.eq_of_beq_eq_true c2) (sliceParts_eq _ _ _ hp) (Nat.le_of_ble_eq_true c3) (fun x hx => ?_), h⟩
          have := List.all_eq_true.1 c4 x hx
          simp only [Bool.and_eq_true, Bool.not_eq_true'] at this
          exact ⟨this.1.1, pf_of1 (List.all_eq_true.1 c5 x hx), this.1.2, Nat.eq_of_beq_eq_true this.2⟩
      · exact h.elim
    · exact h.elim
  · exact h.elim

def steadyA (P : Program) (c : Cfg) (o : Oper) (K : AV → Prop) : Prop :=
  match o.op with
  | .call cl => (match cl.callee with
    | .value (.func f) => bif (cl.args.toList.all fun x => !(evA c x).isTup) && pf1L (cl.args.toList.map (evA c)) then ∃ r ow, XPure P f (cl.args.toList.map (evA c)) r ow ∧ K r else False
    | _ => pureA P c.env c.own (evA c) o K)
  | .buildSlice t len parts => steadySl P (evA c) t len parts K
  | _ => pureA P c.env c.own (evA c) o K

theorem steadyA_sound {c : Cfg} {o : Oper} {K : AV → Prop} (h : steadyA P c o K) : ∃ v, Yield P c.env c.own (evA c) o v ∧ K v := by
  have pure : pureA P c.env c.own (evA c) o K → ∃ v, Yield P c.env c.own (evA c) o v ∧ K v := fun h => by
    obtain ⟨v, h1, h2⟩ := pureA_sound h
    exact ⟨v, Yield.pure h2, h1⟩
  obtain ⟨dst, op, type, pos, after, guard⟩ := o
  unfold steadyA at h
  split at h
  · rename_i cl hop
    simp only at hop
    subst hop
    split at h
    · rename_i f hc
      obtain ⟨callee, args, ts⟩ := cl
      simp only at hc
      subst hc
      cases hb : ((args.toList.all fun x => !(evA c x).isTup) && pf1L (args.toList.map (evA c))) with
      | false => rw [hb] at h; exact h.elim
      | true =>
        rw [hb] at h
        simp only [Bool.and_eq_true] at hb
        obtain ⟨r, ow, h1, h2⟩ := h
        exact ⟨r, Yield.call hb.1 (pfL_of1 hb.2) h1, h2⟩
    · exact pure h
  · rename_i hop
    simp only at hop
    subst hop
    exact steadySl_sound h
  · exact pure h

def preA (P : Program) (n : Nat) (ops : List Oper) : List Oper → Cfg → (Cfg → Prop) → Prop
  | [], c, K => K c
  | o :: r, c, K => bif okF n ops o then guardA n ops c o (steadyA P c o fun v => normA (c.put o.dst v) fun c' => preA P n ops r c' K) (normA (c.put o.dst (.v undef)) fun c' => preA P n ops r c' K) else False

theorem guard_wantF {ops : List Oper} {c : Cfg} {o : Oper} {yes no : Prop} (h : guardA n ops c o yes no) : (wantF ops (Fr.get c.fr) o = some true ∧ yes) ∨ (wantF ops (Fr.get c.fr) o = some false ∧ no) := by
  unfold guardA at h
  unfold wantF
  split at h
  · rename_i hg; (try rw [hg]); exact .inl ⟨rfl, h⟩
  · rename_i j want hg
    (try rw [hg])
    (try simp only)
    split at h
    · rename_i hd; (try rw [hd]); exact .inr ⟨rfl, h⟩
    · rename_i t ht
      (try rw [ht])
      (try simp only)
      cases hb : Nat.blt t n with
      | false => rw [hb] at h; exact h.elim
      | true =>
        rw [hb] at h
        simp only [cond_true] at h
        split at h
        · rename_i b hx
          (try rw [hx])
          (try simp only)
          by_cases hw : b = want
          · subst hw; exact .inl ⟨by simp, h.1 rfl⟩
          · exact .inr ⟨by simp [hw], h.2 hw⟩
        · rename_i vs hx; (try rw [hx]); exact .inr ⟨rfl, h⟩
        · exact h.elim

theorem put_own (c : Cfg) (d : Option Nat) (v : AV) : (c.put d v).own = c.own ∧ (c.put d v).env = c.env := by cases d <;> exact ⟨rfl, rfl⟩

theorem preA_seq {ops : List Oper} {K : Cfg → Prop} : ∀ (l : List Oper) (i : Nat) (c : Cfg), (∀ j : Nat, j < l.length → l[j]? = ops[i + j]?) → preA P n ops l c K →
    Seq P n c.env c.own ops (List.range' i l.length) (Fr.get c.fr) fun F => ∃ c', Fr.get c'.fr = F ∧ c'.own = c.own ∧ c'.env = c.env ∧ K c'
  | [], _, c, _, h => ⟨c, rfl, rfl, rfl, h⟩
  | o :: l, i, c, hl, h => by
    simp only [preA, normA_iff] at h
    cases ho : okF n ops o with
    | false => rw [ho] at h; exact h.elim
    | true =>
      rw [ho] at h
      simp only [cond_true] at h
      have h0 : ops[i]? = some o := by simpa using (hl 0 (by simp)).symm
      have hl' : ∀ j : Nat, j < l.length → l[j]? = ops[i + 1 + j]? := fun j hj => by
        have := hl (j + 1) (by simp; omega)
        simpa [Nat.add_assoc, Nat.add_comm 1 j] using this
      simp only [List.length_cons, List.range'_succ, Seq]
      rcases guard_wantF h with ⟨hw, h⟩ | ⟨hw, h⟩
      · obtain ⟨v, hv, h⟩ := steadyA_sound h
        have ih := preA_seq l (i + 1) _ hl' h
        rw [(put_own c o.dst v).1, (put_own c o.dst v).2, get_put] at ih
        exact ⟨o, v, h0, ho, .inl ⟨hw, by rw [evF_get]; exact hv⟩, ih⟩
      · have ih := preA_seq l (i + 1) _ hl' h
        rw [(put_own c o.dst _).1, (put_own c o.dst _).2, get_put] at ih
        exact ⟨o, _, h0, ho, .inr ⟨hw, rfl⟩, ih⟩

/-- What an operation waits for, and what that waits for. -/
def befN (ops : List Oper) : Nat → Nat → List Nat
  | 0, _ => []
  | f + 1, j => match ops[j]? with
    | some o => ((o.after.toList.filter (Region.binds .any)).flatMap fun e => e.on :: befN ops f e.on).eraseDups
    | none => []

def drawB (ops : List Oper) (m : Nat) : Bool :=
  (List.range ops.length).all fun j => match ops[j]? with
    | some o => (o.after.toList.all fun e => !Region.binds .any e || Nat.blt e.on j) &&
        (List.range j).all fun i => (befN ops ops.length j).contains i || (Nat.blt j m && (match ops[i]? with
          | some oi => oi.apart ops.toArray o
          | none => false))
    | none => true
end

structure InvF (n : Nat) (W0 : World) (G0 : Gh) (F : FS) (os : List Nat) (own env : List Bx) (a : Act) (w : World) (g : Gh) : Prop where
  size : a.tmps.size = n
  defers : a.defers = []
  fr : ∀ i, i < n → Rep w g.hw g.bs env.length (F i) (a.tmps.getD i undef)
  os : ∀ i ∈ os, ∃ k l, F i = .sl k l ∧ OwnAt w g (.slot i) k (a.tmps.getD i undef)
  good : Good w g (env ++ own) env.length
  ext : Ext (· = .ext) W0 G0 w g
  ecl : ∀ x ∈ env, Bx.cl env.length 0 x
  b0 : G0.bs.length = env.length

section
variable {P : Program} {n : Nat} {W0 : World} {G0 : Gh} {F : FS} {os : List Nat} {own env : List Bx} {a : Act} {w : World} {g : Gh} {ops : Array Oper}

theorem InvF.step (hi : InvF n W0 G0 F os own env a w g) {d : Option Nat} (hd : ∀ t, d = some t → t < n ∧ t ∉ os) {v : AV} {u : Value} {w' : World} {g' : Gh} (G : Good w' g' (env ++ own) env.length) (E : Ext KeepS w g w' g') (hr : Rep w' g'.hw g'.bs env.length v u) :
    InvF n W0 G0 (updO F d v) os own env (a.put d u) w' g' := by
  have hE := hi.ext.trans (E.weaken (by rintro L rfl; intro i j; simp))
  have hos : ∀ i ∈ os, ∃ k l, F i = .sl k l ∧ OwnAt w' g' (.slot i) k (a.tmps.getD i undef) := fun i hm => by
    obtain ⟨k, l, h1, h2⟩ := hi.os i hm
    exact ⟨k, l, h1, h2.mono fun b hb => E.ext b _ hb (by intro i j; simp)⟩
  cases d with
  | none => exact ⟨hi.size, hi.defers, fun i h => (hi.fr i h).mono E.hw E.bs, hos, G, hE, hi.ecl, hi.b0⟩
  | some d =>
    obtain ⟨hd1, hd2⟩ := hd d rfl
    refine ⟨by simpa [Act.put] using hi.size, hi.defers, fun i h => ?_, fun i hm => ?_, G, hE, hi.ecl, hi.b0⟩
    · rw [getD_put (by rw [hi.size]; exact hd1)]
      simp only [updO, upd]
      by_cases e : i = d
      · subst e; simpa using hr
      · rw [if_neg e, if_neg (Ne.symm e)]; exact (hi.fr i h).mono E.hw E.bs
    · have hne : i ≠ d := fun e => hd2 (e ▸ hm)
      rw [getD_put (by rw [hi.size]; exact hd1), if_neg (Ne.symm hne)]
      simp only [updO, upd, if_neg hne]
      exact hos i hm

theorem InvF.eval (hi : InvF n W0 G0 F os own env a w g) {x : Operand} (hx : okTmp n x = true) : Rep w g.hw g.bs env.length (evF F x) (a.eval x) := by
  cases x with
  | tmp t => exact hi.fr t (by rw [← Nat.blt_eq]; exact hx)
  | const v => exact cst_rep v hx
  | func f =>
    have : Rep w g.hw g.bs env.length (.fn (.func f) [] []) (.func (.func f) #[] #[]) := rep_mk_leaf rfl rfl (by simp only [RepV]; exact ⟨#[], #[], rfl, by simp only [RepL], by simp only [RepL]⟩)
    exact this
  | global g => exact hi.good.glob.rep g

theorem InvF.wanted (hi : InvF n W0 G0 F os own env a w g) {o : Oper} {b : Bool} (ho : okF n ops.toList o = true) (h : wantF ops.toList F o = some b) : Region.wanted o (yielded ops a.tmps) = b := by
  unfold wantF at h
  unfold Region.wanted
  simp only [okF, Bool.and_eq_true] at ho
  split at h
  · rename_i hg; rw [hg]; simpa using h
  · rename_i j want hg
    rw [hg] at ho ⊢
    simp only at ho ⊢
    unfold yielded
    have hj : (ops[j]?).bind (·.dst) = (ops.toList[j]?).bind (·.dst) := by simp
    rw [hj]
    split at h
    · rename_i hd; rw [hd]; simp at h; subst h; rfl
    · rename_i t ht
      rw [ht] at ho ⊢
      have htn : t < n := by rw [← Nat.blt_eq]; simpa using ho.2
      have hr := hi.fr t htn
      have hget : a.tmps[t]? = some (a.tmps.getD t undef) := by
        rw [Array.getD_eq_getD_getElem?, Array.getElem?_eq_getElem (by rw [hi.size]; exact htn)]; rfl
      simp only [Option.bind_some]
      rw [hget]
      split at h
      · rename_i b' hx
        rw [hx] at hr
        obtain ⟨e, _⟩ := rep_v hr
        rw [e]
        simp only [Option.some.injEq] at h
        rw [← h]
        simp only
        cases b' <;> cases want <;> rfl
      · rename_i vs hx
        rw [hx] at hr
        obtain ⟨e, _⟩ := rep_v hr
        rw [e]
        simp only [Option.some.injEq] at h
        rw [← h]; rfl
      · cases h

/-- One operation that goes when it is ready. -/
theorem InvF.op (hi : InvF n W0 G0 F os own env a w g) {j : Nat} {o : Oper} {v : AV} {Q : Exit → Act → World → Prop} {K : Act → World → Prop} (hj : ops[j]? = some o) (ho : okF n ops.toList o = true) (hd : ∀ t, o.dst = some t → t ∉ os)
    (h : (wantF ops.toList F o = some true ∧ Yield P env own (evF F) o v) ∨ (wantF ops.toList F o = some false ∧ v = .v undef))
    (hK : ∀ a' w' g', InvF n W0 G0 (updO F o.dst v) os own env a' w' g' → K a' w') : wpOp P ops Q j K a w := by
  have hok : opsOk n o = true := by simp only [okF, Bool.and_eq_true] at ho; exact ho.1
  have hdd : ∀ t, o.dst = some t → t < n ∧ t ∉ os := fun t e => ⟨opsOk_dst hok t e, hd t e⟩
  unfold wpOp
  simp only [hj]
  rcases h with ⟨hw, hy⟩ | ⟨hw, rfl⟩
  · rw [if_pos (hi.wanted ho hw)]
    exact .inl (hy a w g hi.good hi.ecl (fun x hx => hi.eval (opsOk_mem hok hx)) K Q fun u w' g' h1 h2 h3 => hK _ _ g' (hi.step hdd h1 h2 h3))
  · rw [if_neg (by rw [hi.wanted ho hw]; simp)]
    exact hK _ _ g (hi.step hdd hi.good (Ext.refl _ _ _) (rep_v_mk rfl))

def Closed (ops : Array Oper) (listed : Array Bool) : Prop := ∀ j, j < ops.size → listed.getD j true = true → ∀ f k, k ∈ befN ops.toList f j → listed.getD k false = true

theorem bef_ready {listed : Array Bool} (hc : Closed ops listed) (hsz : listed.size = ops.size) {j : Nat} (hj : j ∈ Region.ready .any ops listed) (hlt : ∀ o, ops[j]? = some o → ∀ e ∈ o.after, Region.binds .any e = true → e.on < ops.size) :
    ∀ f k, k ∈ befN ops.toList f j → listed.getD k false = true := by
  obtain ⟨hun, o, ho, hall⟩ := mem_ready.1 hj
  intro f k hk
  cases f with
  | zero => cases hk
  | succ f =>
    have ho' : ops.toList[j]? = some o := by simpa using ho
    simp only [befN, ho', List.mem_eraseDups, List.mem_flatMap, List.mem_filter] at hk
    obtain ⟨e, ⟨he, hb⟩, hk⟩ := hk
    have he' : e ∈ o.after := by simpa using he
    have hl := hall e he' hb
    rcases List.mem_cons.1 hk with rfl | hk
    · exact hl
    · refine hc e.on (hlt o ho e he' hb) ?_ f k hk
      have := hlt o ho e he' hb
      simp only [Array.getD_eq_getD_getElem?, Array.getElem?_eq_getElem (show e.on < listed.size by omega), Option.getD_some] at hl ⊢
      exact hl

theorem drawB_spec {m : Nat} (h : drawB ops.toList m = true) {j : Nat} {o : Oper} (ho : ops[j]? = some o) :
    (∀ e ∈ o.after, Region.binds .any e = true → e.on < j) ∧ ∀ i, i < j → i ∈ befN ops.toList ops.size j ∨ (j < m ∧ ∀ oi, ops[i]? = some oi → oi.apart ops o = true) := by
  have hj : j < ops.size := (Array.getElem?_eq_some_iff.1 ho).1
  have ho' : ops.toList[j]? = some o := by simpa using ho
  unfold drawB at h
  have := List.all_eq_true.1 h j (by simpa using hj)
  simp only [ho', Bool.and_eq_true, List.all_eq_true, Bool.or_eq_true, Bool.not_eq_true'] at this
  refine ⟨fun e he hb => ?_, fun i hij => ?_⟩
  · rcases this.1 e (by simpa using he) with h | h
    · rw [hb] at h; cases h
    · rw [← Nat.blt_eq]; exact h
  · rcases this.2 i (by simpa using hij) with h | h
    · exact .inl (by simpa using h)
    · refine .inr ⟨by rw [← Nat.blt_eq]; exact h.1, fun oi hoi => ?_⟩
      have hoi' : ops.toList[i]? = some oi := by simpa using hoi
      rw [hoi'] at h
      simpa using h.2

theorem closed_set {m : Nat} (hB : drawB ops.toList m = true) {listed : Array Bool} (hc : Closed ops listed) (hsz : listed.size = ops.size) {j : Nat} (hj : j ∈ Region.ready .any ops listed) : Closed ops (listed.setIfInBounds j true) := by
  have hbr := bef_ready hc hsz hj (fun o ho e he hb => Nat.lt_trans ((drawB_spec hB ho).1 e he hb) (Array.getElem?_eq_some_iff.1 ho).1)
  intro i hi hl f k hk
  by_cases hij : i = j
  · subst hij; exact getD_set_true (hbr f k hk)
  · rw [getD_set_ne true (Ne.symm hij)] at hl
    exact getD_set_true (hc i hi hl f k hk)
end
end Go.Ev
end
section
/- Written by this session: a region that draws its order, whole. Conditions: none beyond those in each statement. -/
namespace Go.Ev
open Go

section
variable {P : Program} {n : Nat} {W0 : World} {G0 : Gh} {ops : Array Oper} {Q : Exit → Act → World → Prop}

def upTo (N k : Nat) : Array Bool := ((List.range N).map fun i => decide (i < k)).toArray
theorem upTo_size (N k : Nat) : (upTo N k).size = N := by simp [upTo]
theorem upTo_get {N k i : Nat} (h : i < N) (d : Bool) : (upTo N k).getD i d = decide (i < k) := by
  rw [Array.getD_eq_getD_getElem?]; simp [upTo, h]
theorem upTo_succ {N k : Nat} : (upTo N k).setIfInBounds k true = upTo N (k + 1) := by
  apply Array.ext
  · simp [upTo]
  · intro i h1 h2
    have hi : i < N := by simpa [upTo] using h2
    rw [Array.getElem_setIfInBounds (by simpa [upTo] using hi)]
    simp only [upTo, List.getElem_toArray, List.getElem_map, List.getElem_range]
    by_cases e : k = i
    · subst e; simp
    · simp only [if_neg e]
      exact decide_eq_decide.2 (by omega)

/-- Behind the part that may go in any order, each operation waits for all ahead of it. -/
theorem any_of_ops {m : Nat} (hB : drawB ops.toList m = true) : ∀ (r k : Nat) (a : Act) (w : World), m ≤ k → k + r = ops.size → wpOps P ops Q (List.range' k r) a w → wpAny P .any ops Q r (upTo ops.size k) a w
  | 0, k, a, w, hm, hk, h => by
    simp only [wpAny, wpOps, List.range'_zero] at h ⊢
    refine ⟨?_, h⟩
    apply List.eq_nil_iff_forall_not_mem.2
    intro i hi
    obtain ⟨h1, o, ho, _⟩ := mem_ready.1 hi
    have := (Array.getElem?_eq_some_iff.1 ho).1
    rw [upTo_get this] at h1
    simp at h1; omega
  | r + 1, k, a, w, hm, hk, h => by
    have hkl : k < ops.size := by omega
    have hko : ops[k]? = some ops[k] := Array.getElem?_eq_getElem hkl
    have hclosed : Closed ops (upTo ops.size k) := by
      intro j hj hl f
      rw [upTo_get hj] at hl
      have hjk : j < k := by simpa using hl
      have : ∀ f j, j < k → ∀ q, q ∈ befN ops.toList f j → q < k := by
        intro f
        induction f with
        | zero => intro j _ q hq; cases hq
        | succ f ih =>
          intro j hj q hq
          have hjl : j < ops.size := by omega
          have hjo : ops.toList[j]? = some ops[j] := by simp
          simp only [befN, hjo, List.mem_eraseDups, List.mem_flatMap, List.mem_filter] at hq
          obtain ⟨e, ⟨he, hb⟩, hq⟩ := hq
          have := (drawB_spec hB (Array.getElem?_eq_getElem hjl)).1 e (by simpa using he) hb
          rcases List.mem_cons.1 hq with rfl | hq
          · omega
          · exact ih e.on (by omega) q hq
      intro q hq
      have := this f j hjk q hq
      rw [upTo_get (by omega)]; simpa using this
    have hready : k ∈ Region.ready .any ops (upTo ops.size k) := by
      refine mem_ready.2 ⟨by rw [upTo_get hkl]; simp, _, hko, fun e he hb => ?_⟩
      have := (drawB_spec hB hko).1 e he hb
      rw [upTo_get (by omega)]; simpa using this
    have honly : ∀ i ∈ Region.ready .any ops (upTo ops.size k), i = k := by
      intro i hi
      obtain ⟨h1, o, ho, _⟩ := mem_ready.1 hi
      have hil := (Array.getElem?_eq_some_iff.1 ho).1
      rw [upTo_get hil] at h1
      simp at h1
      rcases Nat.lt_or_ge k i with hlt | hge
      · have hbr := bef_ready hclosed (upTo_size _ _) hi (fun o ho e he hb => Nat.lt_trans ((drawB_spec hB ho).1 e he hb) (Array.getElem?_eq_some_iff.1 ho).1)
        rcases (drawB_spec hB ho).2 k hlt with h | ⟨h, _⟩
        · have := hbr _ _ h
          rw [upTo_get hkl] at this
          simp at this
        · omega
      · omega
    refine ⟨(fun h0 => by rw [h0] at hready; cases hready), fun i hi => ?_⟩
    have := honly i hi
    subst this
    rw [upTo_succ]
    rw [List.range'_succ, wpOps_cons] at h
    exact wpOp_mono (fun a w => any_of_ops hB r (i + 1) a w (by omega) (by omega)) h

theorem filter_out {p : Nat → Bool} {l r1 r2 : List Nat} {j : Nat} (hnd : l.Nodup) (h : l.filter p = r1 ++ j :: r2) : l.filter (fun i => p i && decide (i ≠ j)) = r1 ++ r2 := by
  have h1 : l.filter (fun i => p i && decide (i ≠ j)) = (l.filter p).filter fun i => decide (i ≠ j) := by
    rw [List.filter_filter]
    congr 1
    funext i
    rw [Bool.and_comm]
  have hnd' : (r1 ++ j :: r2).Nodup := h ▸ hnd.sublist List.filter_sublist
  rw [h1, h, List.filter_append, List.filter_cons]
  rw [List.nodup_append] at hnd'
  obtain ⟨q1, q2, q3⟩ := hnd'
  rw [List.nodup_cons] at q2
  simp only [ne_eq, not_true_eq_false, decide_false, Bool.false_eq_true, if_false]
  rw [List.filter_eq_self.2, List.filter_eq_self.2]
  · intro a ha; simp; rintro rfl; exact q2.1 ha
  · intro a ha; simp; rintro rfl; exact q3 a ha a (by simp) rfl

theorem any_of_seq {m : Nat} (hB : drawB ops.toList m = true) (hm : m ≤ ops.size) {os : List Nat} {own env : List Bx} {K : FS → Prop} (hdst : ∀ j o, j < m → ops[j]? = some o → ∀ t, o.dst = some t → t ∉ os)
    (hsuf : ∀ F a w g, K F → InvF n W0 G0 F os own env a w g → wpOps P ops Q (List.range' m (ops.size - m)) a w) :
    ∀ (N : Nat) (R : List Nat) (listed : Array Bool) (F : FS) (a : Act) (w : World) (g : Gh), R.length = N → listed.size = ops.size → Closed ops listed → (List.range m).filter (fun i => !listed.getD i true) = R →
      (∀ j, m ≤ j → j < ops.size → listed.getD j true = false) → Seq P n env own ops.toList R F K → InvF n W0 G0 F os own env a w g → wpAny P .any ops Q (N + (ops.size - m)) listed a w
  | 0, R, listed, F, a, w, g, hN, hsz, hc, hR, hs, hseq, hi => by
    have hRn : R = [] := List.eq_nil_of_length_eq_zero hN
    subst hRn
    simp only [Seq] at hseq
    have : listed = upTo ops.size m := by
      apply Array.ext
      · rw [hsz, upTo_size]
      · intro i h1 h2
        have hi' : i < ops.size := by rw [← hsz]; exact h1
        have e1 : listed.getD i true = listed[i] := by rw [Array.getD_eq_getD_getElem?, Array.getElem?_eq_getElem h1]; rfl
        have e2 : (upTo ops.size m).getD i true = (upTo ops.size m)[i] := by rw [Array.getD_eq_getD_getElem?, Array.getElem?_eq_getElem h2]; rfl
        rw [← e1, ← e2, upTo_get hi']
        rcases Nat.lt_or_ge i m with h | h
        · have hn : i ∉ (List.range m).filter fun i => !listed.getD i true := by rw [hR]; simp
          simp only [List.mem_filter, List.mem_range, h, true_and, Bool.not_eq_true'] at hn
          simp [h]; simpa using hn
        · rw [hs i h hi']; simp; omega
    subst this
    rw [Nat.zero_add]
    exact any_of_ops hB _ m a w (Nat.le_refl _) (by omega) (hsuf F a w g hseq hi)
  | N + 1, R, listed, F, a, w, g, hN, hsz, hc, hR, hs, hseq, hi => by
    have hsort : R.Pairwise (· < ·) := by rw [← hR]; exact List.pairwise_lt_range.sublist List.filter_sublist
    have hmemR : ∀ i, i ∈ R ↔ i < m ∧ listed.getD i true = false := fun i => by rw [← hR]; simp
    have edge : ∀ (o : Oper) (j : Nat), ops[j]? = some o → ∀ e ∈ o.after, Region.binds .any e = true → e.on < ops.size := fun o j ho e he hb => Nat.lt_trans ((drawB_spec hB ho).1 e he hb) (Array.getElem?_eq_some_iff.1 ho).1
    rw [show N + 1 + (ops.size - m) = (N + (ops.size - m)) + 1 from by omega]
    -- the least of them is ready
    cases hRc : R with
    | nil => rw [hRc] at hN; cases hN
    | cons i0 R0 =>
      have hi0 : i0 < m ∧ listed.getD i0 true = false := (hmemR i0).1 (by rw [hRc]; simp)
      have hi0l : i0 < ops.size := by omega
      have hleast : ∀ i, i < i0 → listed.getD i false = true := by
        intro i hii
        have hin : i ∉ R := by
          intro h
          rw [hRc] at h hsort
          rcases List.mem_cons.1 h with rfl | h
          · omega
          · have := (List.pairwise_cons.1 hsort).1 i h; omega
        rw [hmemR] at hin
        have : listed.getD i true = true := by
          cases h : listed.getD i true with
          | true => rfl
          | false => exact absurd ⟨by omega, h⟩ hin
        have hil : i < listed.size := by omega
        rw [Array.getD_eq_getD_getElem?, Array.getElem?_eq_getElem hil] at this ⊢
        exact this
      have hready0 : i0 ∈ Region.ready .any ops listed := mem_ready.2 ⟨hi0.2, _, Array.getElem?_eq_getElem hi0l, fun e he hb => hleast _ ((drawB_spec hB (Array.getElem?_eq_getElem hi0l)).1 e he hb)⟩
      refine ⟨(fun h0 => by rw [h0] at hready0; cases hready0), fun j hj => ?_⟩
      obtain ⟨hjun, o, ho, hall⟩ := mem_ready.1 hj
      have hjl := (Array.getElem?_eq_some_iff.1 ho).1
      have hbr := bef_ready hc hsz hj (fun o ho => edge o j ho)
      have hjm : j < m := by
        rcases Nat.lt_or_ge j m with h | h
        · exact h
        · rcases (drawB_spec hB ho).2 i0 (by omega) with h' | ⟨h', _⟩
          · have := hbr _ _ h'
            have hil : i0 < listed.size := by omega
            have e := hi0.2
            rw [Array.getD_eq_getD_getElem?, Array.getElem?_eq_getElem hil] at this e
            simp at this e; rw [this] at e; cases e
          · omega
      have hjR : j ∈ R := (hmemR j).2 ⟨hjm, hjun⟩
      obtain ⟨r1, r2, hsplit⟩ := List.append_of_mem hjR
      have hap : ∀ i ∈ r1, ∀ oi, ops[i]? = some oi → oi.apart ops o = true := by
        intro i hi1 oi hoi
        have hiR : i ∈ R := by rw [hsplit]; simp [hi1]
        have hlt : i < j := by
          rw [hsplit, List.pairwise_append] at hsort
          exact hsort.2.2 i hi1 j (by simp)
        rcases (drawB_spec hB ho).2 i hlt with h | ⟨_, h⟩
        · have := hbr _ _ h
          have e := ((hmemR i).1 hiR).2
          have hil : i < listed.size := by omega
          rw [Array.getD_eq_getD_getElem?, Array.getElem?_eq_getElem hil] at this e
          simp at this e; rw [this] at e; cases e
        · exact h oi hoi
      have hseq' := hseq
      rw [hsplit] at hseq'
      obtain ⟨v, k1, k2, k3⟩ := Seq.first ho r1 r2 F K hap hseq'
      refine hi.op ho k1 (fun t ht => hdst j o hjm ho t ht) k2 fun a' w' g' hi' => ?_
      refine any_of_seq hB hm hdst hsuf N (r1 ++ r2) (listed.setIfInBounds j true) _ a' w' g' ?_ (by simpa using hsz) (closed_set hB hc hsz hj) ?_ (fun q hq hql => ?_) k3 hi'
      · rw [hsplit] at hN; simp at hN ⊢; omega
      · rw [← filter_out List.nodup_range (hR.trans hsplit)]
        apply List.filter_congr
        intro i hi1
        have him : i < m := by simpa using hi1
        by_cases hij : i = j
        · subst hij
          have hil : i < listed.size := by omega
          rw [Array.getD_eq_getD_getElem?]
          simp [hil]
        · rw [getD_set_ne true (Ne.symm hij)]
          simp [hij]
      · rw [getD_set_ne true (by omega)]; exact hs q hq hql

/-- Where the first m operations may go in any order. -/
def drawA (P : Program) (n : Nat) (ops : List Oper) (m : Nat) (c : Cfg) (K : Cfg → Prop) : Prop :=
  preA P n ops (ops.take m) { c with os := [] } fun c' =>
    opsA P n ops (ops.drop m) { c' with os := c.os.filter fun i => (ops.take m).all fun o => match o.dst with
      | some d => !Nat.beq i d
      | none => true } K

theorem XW.draw {id m : Nat} {c : Cfg} {Q : Exit → Cfg → Prop} (hmix : P.follows .mixedOrders = true) (hB : drawB ops.toList m = true) (hm : Nat.ble m ops.toList.length = true) (h : drawA P n ops.toList m c fun c' => Q .normal c') : XW P n (.region id ops true) Q c := ⟨fun W0 G0 a w g hi => by
  have hml : m ≤ ops.size := by simpa using Nat.le_of_ble_eq_true hm
  refine wp_region_any hmix ?_
  have hi1 := hi.drew
  let os' := c.os.filter fun i => (ops.toList.take m).all fun o => match o.dst with
      | some d => !Nat.beq i d
      | none => true
  have hF : InvF n W0 G0 (Fr.get c.fr) os' c.own c.env a w.drew g := ⟨hi1.size, hi1.defers, hi1.fr, fun i hm => hi1.os i (List.mem_filter.1 hm).1, hi1.good, hi1.ext, hi1.ecl, hi1.b0⟩
  have hseq := preA_seq (P := P) (n := n) (ops := ops.toList) (ops.toList.take m) 0 { c with os := [] } (fun j hj => by
    rw [List.getElem?_take, if_pos (by simp at hj; omega), Nat.zero_add]) h
  have hlen : (ops.toList.take m).length = m := by simp; omega
  rw [hlen, ← List.range_eq_range'] at hseq
  have := any_of_seq (P := P) (n := n) (W0 := W0) (G0 := G0) (ops := ops) (os := os') (own := c.own) (env := c.env) (Q := fun e a' w' => ∃ c' g', Q e c' ∧ Inv n W0 G0 c' a' w' g') hB hml ?_ ?_ m (List.range m) (upTo ops.size 0) (Fr.get c.fr) a w.drew g (by simp) (upTo_size _ _) ?_ ?_ ?_ hseq hF
  · rw [show m + (ops.size - m) = ops.size from by omega] at this
    have e : upTo ops.size 0 = Array.replicate ops.size false := by
      apply Array.ext
      · simp [upTo]
      · intro i h1 h2; simp [upTo]
    rw [e] at this
    exact this
  · intro j o hj ho t ht hmem
    have := (List.mem_filter.1 hmem).2
    have hjo : o ∈ ops.toList.take m := by
      have hjl := (Array.getElem?_eq_some_iff.1 ho).1
      refine List.mem_of_getElem? (i := j) ?_
      rw [List.getElem?_take, if_pos hj]; simpa using ho
    have := List.all_eq_true.1 this o hjo
    rw [ht] at this
    simp at this
  · rintro F a' w' g' ⟨c', rfl, e1, e2, hk⟩ hf
    have hI : Inv n W0 G0 { c' with os := os' } a' w' g' := by
      have e1' : c'.own = c.own := e1
      have e2' : c'.env = c.env := e2
      refine ⟨hf.size, hf.defers, ?_, hf.os, ?_, hf.ext, ?_, ?_⟩
      · simpa only [Cfg.base, e2'] using hf.fr
      · simpa only [Cfg.mem, Cfg.base, e1', e2'] using hf.good
      · simpa only [Cfg.base, e2'] using hf.ecl
      · simpa only [Cfg.base, e2'] using hf.b0
    have hd := opsA_sound (P := P) (n := n) (ops := ops) (W0 := W0) (G0 := G0) (Q := fun e a' w' => ∃ c' g', Q e c' ∧ Inv n W0 G0 c' a' w' g') (fun c' a' w' g' hk hi' => ⟨c', g', hk, hi'⟩) (ops.toList.drop m) m _ a' w' g' (fun j => by rw [List.getElem?_drop]; simp) hk hI
    rwa [List.length_drop, Array.length_toList] at hd
  · intro j hj hl
    rw [upTo_get hj] at hl; simp at hl
  · rw [List.filter_eq_self.2]
    intro i hi'
    rw [upTo_get (by simp at hi'; omega)]; simp
  · intro j hj hjl
    rw [upTo_get hjl]; simp⟩
end
end Go.Ev
end
section
/- Written by this session: a box that came back from a call is shut: its slice is one that never changes. Conditions: none beyond those in each statement. -/
namespace Go.Ev
open Go

mutual
theorem RepV.rebase {w : World} {hw : Hw} {bs : List Nat} {base b0 : Nat} : ∀ (a : AV) (vs : List Value), a.cl b0 0 → RepV w hw bs base a vs → RepV w hw (bs.take b0) b0 a vs
  | .top, _, _, h => by simpa only [RepV] using h
  | .v x, _, _, h => by simpa only [RepV] using h
  | .sl k l, _, _, h => by simpa only [RepV] using h
  | .agg l, vs, c, h => by simp only [RepV, AV.cl] at h c ⊢; exact RepL.rebase l vs c h
  | .tup _, _, _, h => by simp only [RepV] at h
  | .bp i off, _, c, h => by simp only [AV.cl] at c; omega
  | .mo i, _, c, h => by simp only [AV.cl] at c; omega
  | .bs .., _, c, h => by simp only [AV.cl] at c; omega
  | .xp i off, _, c, h => by simp only [RepV, AV.cl] at h c ⊢; obtain ⟨h1, b, e, r⟩ := h; exact ⟨c, b, by rw [List.getElem?_take, if_pos c]; exact e, r⟩
  | .mx i, _, c, h => by simp only [RepV, AV.cl] at h c ⊢; obtain ⟨h1, b, e, r⟩ := h; exact ⟨c, b, by rw [List.getElem?_take, if_pos c]; exact e, r⟩
  | .xs .., _, c, h => by simp only [RepV, AV.cl] at h c ⊢; obtain ⟨h1, b, e, r⟩ := h; exact ⟨c, b, by rw [List.getElem?_take, if_pos c]; exact e, r⟩
  | .ep l, _, _, h => by simpa only [RepV] using h
  | .fn f first cap, _, c, h => by
    simp only [RepV, AV.cl] at h c ⊢
    obtain ⟨fs, cs, e, q1, q2⟩ := h
    exact ⟨fs, cs, e, RepL.rebase first _ c.1 q1, RepL.rebase cap _ c.2 q2⟩
  | .ifc t x, _, _, h => by simpa only [RepV] using h
  | .gv .., _, _, h => by simpa only [RepV] using h
theorem RepL.rebase {w : World} {hw : Hw} {bs : List Nat} {base b0 : Nat} : ∀ (l : List AV) (vs : List Value), clL b0 0 l → RepL w hw bs base l vs → RepL w hw (bs.take b0) b0 l vs
  | [], _, _, h => by simpa only [RepL] using h
  | x :: xs, _, c, h => by
    simp only [RepL, clL] at h c ⊢
    obtain ⟨v, vs', e, q1, q2⟩ := h
    exact ⟨v, vs', e, ⟨RepV.rebase x _ c.1 q1.1, q1.2⟩, RepL.rebase xs _ c.2 q2⟩
end

theorem RepL.cut2 {w : World} {hw : Hw} {bs : List Nat} {base : Nat} : ∀ (l1 l2 : List AV) (vs : List Value), RepL w hw bs base (l1 ++ l2) vs → RepL w hw bs base l1 (vs.take l1.length) ∧ RepL w hw bs base l2 (vs.drop l1.length)
  | [], _, _, h => by simpa [RepL] using h
  | x :: l1, l2, _, h => by
    simp only [List.cons_append, RepL] at h
    obtain ⟨v, vs', rfl, h1, h2⟩ := h
    obtain ⟨q1, q2⟩ := RepL.cut2 l1 l2 vs' h2
    simp only [List.length_cons, List.take_succ_cons, List.drop_succ_cons, RepL]
    exact ⟨⟨v, _, rfl, h1, q1⟩, q2⟩

/-- Elements out of a row of leaves. -/
theorem repE_of_flat {w : World} {hw : Hw} {bs : List Nat} {base k : Nat} : ∀ (els : List AV) (vs : List Value), RepL w hw bs base (els.flatMap AV.leaves) vs → (∀ x ∈ els, x.leaves.length = k ∧ pfL x.leaves = true) → RepE w hw k els vs
  | [], _, h, _ => by simpa [RepL, RepE] using h
  | x :: els, vs, h, hx => by
    simp only [List.flatMap_cons] at h
    obtain ⟨h1, h2⟩ := RepL.cut2 _ _ _ h
    obtain ⟨q1, q2⟩ := hx x (by simp)
    rw [q1] at h1 h2
    have hl := RepL.length h1
    simp only [RepE]
    refine ⟨by rw [q1] at hl; rw [List.length_take] at hl; omega, ⟨?_, fun _ => RepL.one h1⟩, repE_of_flat els _ h2 fun y hy => hx y (by simp [hy])⟩
    have h1' := RepL.pfL' _ _ q2 h1
    cases x with
    | agg l => simpa only [RepV, AV.leaves] using h1'
    | _ =>
      simp only [AV.leaves, RepL] at h1'
      obtain ⟨v, vs', e, ⟨r1, _⟩, rfl⟩ := h1'
      rw [e]; exact r1

mutual
/-- x, its boxes from m on shut, is y. -/
def Shut (mem : List Bx) (m : Nat) : AV → AV → Prop
  | .xs i off k n _, y => m ≤ i ∧ ∃ l os els, mem[i]? = some (.cells l os) ∧ y = .sl k els ∧ els.length = n ∧ off + n * k ≤ l.length ∧ n ≤ 140737488355328 ∧ (l.drop off).take (n * k) = els.flatMap AV.leaves ∧ ∀ x ∈ els, x.leaves.length = k ∧ pfL x.leaves = true
  | .v x, y => y = .v x ∨ ∃ k c, 0 < k ∧ x = .slice none 0 c ∧ y = .sl k []
  | .agg l, y => ∃ l', y = .agg l' ∧ ShutL mem m l l'
  | .tup l, y => ∃ l', y = .tup l' ∧ ShutL mem m l l'
  | x, y => y = x ∧ x.pf = true
def ShutL (mem : List Bx) (m : Nat) : List AV → List AV → Prop
  | [], l => l = []
  | x :: xs, l => ∃ y ys, l = y :: ys ∧ Shut mem m x y ∧ ShutL mem m xs ys
end

/-- What is known of array cells when the boxes from m on are shut. -/
def shutHw (w : World) (g : Gh) (m : Nat) : Hw := fun b => if b ∈ g.bs.drop m then (match w.heap[b]? with
  | some (.cells cs _ _) => some cs.size
  | _ => none) else g.hw b

section
variable {w : World} {g : Gh} {mem : List Bx}

theorem shutHw_le (G : Good w g mem mem.length) (m : Nat) : HwLe w g.hw w (shutHw w g m) := fun b h e => by
  refine ⟨h, ?_, Nat.le_refl _, fun _ _ => rfl⟩
  unfold shutHw
  rw [if_neg]
  · exact e
  · intro hb
    have := G.nohw b (List.mem_of_mem_drop hb)
    rw [this] at e; cases e

theorem Shut.isAgg {m : Nat} {x y : AV} (h : Shut mem m x y) : y.isAgg = x.isAgg := by
  cases x <;> simp only [Shut] at h
  case xs => obtain ⟨_, l, os, els, _, rfl, _⟩ := h; rfl
  case v => rcases h with rfl | ⟨k, c, _, _, rfl⟩ <;> rfl
  case agg => obtain ⟨l', rfl, _⟩ := h; rfl
  case tup => obtain ⟨l', rfl, _⟩ := h; rfl
  all_goals obtain ⟨rfl, _⟩ := h; rfl

mutual
theorem Shut.rep (G : Good w g mem mem.length) {m : Nat} (hm : m ≤ mem.length) : ∀ (x y : AV) (vs : List Value), Shut mem m x y → RepV w g.hw g.bs mem.length x vs → RepV w (shutHw w g m) [] 0 y vs
  | .xs i off k n cp, y, vs, h, hr => by
    simp only [Shut] at h
    obtain ⟨hmi, l, os, els, hbox, rfl, hn, hfit, h47, hflat, hels⟩ := h
    simp only [RepV] at hr ⊢
    obtain ⟨_, b, hb, hk0, hnc, hcp, rfl⟩ := hr
    obtain ⟨cs, e, hheap, hrl, _⟩ := G.box i _ b hbox hb
    have hlen := RepL.length hrl
    simp only [Array.length_toList] at hlen
    subst hn
    have hrow := (hrl.drop off).take (els.length * k)
    rw [hflat] at hrow
    have hE := repE_of_flat els _ hrow hels
    refine ⟨_, cp, rfl, hnc, ⟨hk0, h47⟩, .inr ⟨b, off, (cs.toList.drop off).take (els.length * k), rfl, ⟨cs.size, ?_, ?_, ?_⟩, RepE.mono (shutHw_le G m) _ _ hE⟩⟩
    · unfold shutHw
      rw [if_pos]
      · rw [hheap]
      · have : (g.bs.drop m)[i - m]? = some b := by rw [List.getElem?_drop, show m + (i - m) = i from by omega]; exact hb
        exact List.mem_of_getElem? this
    · simp only [List.length_take, List.length_drop, Array.length_toList, hlen]; omega
    · have := (cells_of_block hheap).sub off (els.length * k)
      simpa [CellsAt] using this
  | .agg l, y, vs, h, hr => by
    simp only [Shut] at h
    obtain ⟨l', rfl, h⟩ := h
    simp only [RepV] at hr ⊢
    exact ShutL.rep G hm l l' vs h hr
  | .tup l, _, _, _, hr => by simp only [RepV] at hr
  | .top, _, _, h, hr => by simp only [Shut] at h; obtain ⟨rfl, hp⟩ := h; exact RepV.mono (shutHw_le G m) (fun _ _ h => h) _ _ (RepV.pfV _ _ hp hr)
  | .v _, _, _, h, hr => by
    simp only [Shut] at h
    rcases h with rfl | ⟨k, c, hk, rfl, rfl⟩
    · exact RepV.mono (shutHw_le G m) (fun _ _ h => h) _ _ (RepV.pfV _ _ rfl hr)
    · simp only [RepV] at hr ⊢
      exact ⟨none, c, hr, Nat.zero_le _, ⟨hk, by simp⟩, .inl trivial⟩
  | .sl _ _, _, _, h, hr => by simp only [Shut] at h; obtain ⟨rfl, hp⟩ := h; exact RepV.mono (shutHw_le G m) (fun _ _ h => h) _ _ (RepV.pfV _ _ hp hr)
  | .bp _ _, _, _, h, _ => by simp only [Shut] at h; simp [AV.pf] at h
  | .xp _ _, _, _, h, _ => by simp only [Shut] at h; simp [AV.pf] at h
  | .mo _, _, _, h, _ => by simp only [Shut] at h; simp [AV.pf] at h
  | .mx _, _, _, h, _ => by simp only [Shut] at h; simp [AV.pf] at h
  | .bs .., _, _, h, _ => by simp only [Shut] at h; simp [AV.pf] at h
  | .ep _, _, _, h, hr => by simp only [Shut] at h; obtain ⟨rfl, hp⟩ := h; exact RepV.mono (shutHw_le G m) (fun _ _ h => h) _ _ (RepV.pfV _ _ hp hr)
  | .fn _ _ _, _, _, h, hr => by simp only [Shut] at h; obtain ⟨rfl, hp⟩ := h; exact RepV.mono (shutHw_le G m) (fun _ _ h => h) _ _ (RepV.pfV _ _ hp hr)
  | .gv _ _, _, _, h, hr => by simp only [Shut] at h; obtain ⟨rfl, hp⟩ := h; exact RepV.mono (shutHw_le G m) (fun _ _ h => h) _ _ (RepV.pfV _ _ hp hr)
  | .ifc _ _, _, _, h, hr => by simp only [Shut] at h; obtain ⟨rfl, hp⟩ := h; exact RepV.mono (shutHw_le G m) (fun _ _ h => h) _ _ (RepV.pfV _ _ hp hr)
theorem ShutL.rep (G : Good w g mem mem.length) {m : Nat} (hm : m ≤ mem.length) : ∀ (x y : List AV) (vs : List Value), ShutL mem m x y → RepL w g.hw g.bs mem.length x vs → RepL w (shutHw w g m) [] 0 y vs
  | [], _, _, h, hr => by simp only [ShutL] at h; subst h; simpa only [RepL] using hr
  | x :: xs, _, _, h, hr => by
    simp only [ShutL] at h
    obtain ⟨y, ys, rfl, h1, h2⟩ := h
    simp only [RepL] at hr ⊢
    obtain ⟨v, vs', rfl, q1, q2⟩ := hr
    exact ⟨v, vs', rfl, ⟨Shut.rep G hm x y _ h1 q1.1, by rw [h1.isAgg]; exact q1.2.1, q1.2.2⟩, ShutL.rep G hm xs ys _ h2 q2⟩
end

theorem Shut.rep1 (G : Good w g mem mem.length) {m : Nat} (hm : m ≤ mem.length) {x y : AV} {u : Value} (h : Shut mem m x y) (hr : Rep1 w g.hw g.bs mem.length x u) : Rep1 w (shutHw w g m) [] 0 y u := by
  rcases hr with rfl | ⟨h1, h2⟩
  · simp only [Shut] at h; exact .inl h.1
  · exact .inr ⟨Shut.rep G hm x y _ h h1, by rw [h.isAgg]; exact h2⟩
theorem ShutL.repT (G : Good w g mem mem.length) {m : Nat} (hm : m ≤ mem.length) : ∀ (x y : List AV) (vs : List Value), ShutL mem m x y → RepT w g.hw g.bs mem.length x vs → RepT w (shutHw w g m) [] 0 y vs
  | [], _, _, h, hr => by simp only [ShutL] at h; subst h; exact hr
  | x :: xs, _, _, h, hr => by
    simp only [ShutL] at h
    obtain ⟨y, ys, rfl, h1, h2⟩ := h
    simp only [RepT] at hr ⊢
    obtain ⟨v, vs', rfl, q1, q2⟩ := hr
    exact ⟨v, vs', rfl, h1.rep1 G hm q1, ShutL.repT G hm xs ys _ h2 q2⟩
theorem Shut.repA (G : Good w g mem mem.length) {m : Nat} (hm : m ≤ mem.length) {x y : AV} {u : Value} (h : Shut mem m x y) (hr : Rep w g.hw g.bs mem.length x u) : Rep w (shutHw w g m) [] 0 y u := by
  cases x with
  | tup l =>
    obtain ⟨vs, e, hr⟩ := hr
    simp only [Shut] at h
    obtain ⟨l', rfl, h⟩ := h
    exact ⟨vs, e, ShutL.repT G hm _ _ _ h hr⟩
  | _ => exact rep_of (h.rep1 G hm hr)
end

theorem env_cl {w : World} {g : Gh} {env : List Bx} (G : Good w g env env.length) : ∀ x ∈ env, Bx.cl env.length 0 x := by
  intro x hx
  obtain ⟨i, hi, rfl⟩ := List.mem_iff_getElem.1 hx
  have hib : i < g.bs.length := by rw [G.len]; exact hi
  have := G.box i env[i] g.bs[i] (List.getElem?_eq_getElem hi) (List.getElem?_eq_getElem hib)
  cases hx : env[i] with
  | map l => trivial
  | cells l os =>
    rw [hx] at this
    obtain ⟨cs, e, _, h2, _⟩ := this
    have := RepL.toCl _ _ h2
    rw [G.len, Nat.sub_self] at this
    exact this

/-- Boxes that came back are shut. -/
theorem XCalls.shut {P : Program} {f : FuncId} {args : List AV} {env : List Bx} {R R' : AV → Bool → List Bx → Prop} (h : XCalls P f args env R)
    (hs : ∀ r ow env', R r ow env' → ∃ r' new, R' r' false env ∧ env' = env ++ new ∧ Shut env' env.length r r') : XCalls P f args env R' := by
  intro w g vs G hs0 hv
  refine (h w g vs G hs0 hv).mono ?_
  rintro e w' ⟨u, g', r, ow, env', rfl, hR, _, G', E, hr, _⟩
  obtain ⟨r', new, hR', rfl, hsh⟩ := hs r ow env' hR
  have hm : env.length ≤ (env ++ new).length := by simp
  have hbl : g'.bs.length = (env ++ new).length := G'.len
  let own' : Nat → Option Loc := fun b => match g'.own b with
    | some (.cell i j) => if i < env.length then some (.cell i j) else none
    | some (.slot _) => none
    | x => x
  let g'' : Gh := { bs := g'.bs.take env.length, hw := shutHw w' g' env.length, own := own' }
  have ownEq : ∀ b L, own' b = some L → g'.own b = some L := fun b L e => by
    simp only [own'] at e
    cases hb : g'.own b with
    | none => rw [hb] at e; cases e
    | some L' =>
      rw [hb] at e
      cases L' with
      | slot i => cases e
      | ext => exact e
      | cell i j =>
        simp only at e
        split at e
        · exact e
        · cases e
  have hwEq : ∀ b L, g'.own b = some L → shutHw w' g' env.length b = g'.hw b := fun b L e => by
    obtain ⟨h, eh⟩ := G'.own b L e
    unfold shutHw
    rw [if_neg]
    intro hb
    have := G'.nohw b (List.mem_of_mem_drop hb)
    rw [this] at eh; cases eh
  have hH := shutHw_le G' env.length
  have hG : Good w' g'' env env.length := by
    refine ⟨by simp [g'', hbl], G'.nd.sublist (List.take_sublist _ _), fun b hb => ?_, fun i x b hx hb => ?_, fun b h e => ?_, fun b L e => ?_, G'.glob.mono hH⟩
    · show shutHw w' g' env.length b = none
      unfold shutHw
      rw [if_neg]
      · exact G'.nohw b (List.mem_of_mem_take hb)
      · intro hd
        have nd := G'.nd
        rw [← List.take_append_drop env.length g'.bs] at nd
        exact (List.nodup_append.1 nd).2.2 b hb b hd rfl
    · have hil : i < env.length := (List.getElem?_eq_some_iff.1 hx).1
      have hb' : g'.bs[i]? = some b := by
        have hb : (g'.bs.take env.length)[i]? = some b := hb
        rw [List.getElem?_take, if_pos hil] at hb; exact hb
      have := G'.box i x b (by rw [List.getElem?_append_left hil]; exact hx) hb'
      have hcl := env_cl G x (List.mem_of_getElem? hx)
      cases x with
      | cells l os =>
        obtain ⟨cs, e, h1, h2, h3⟩ := this
        refine ⟨cs, e, h1, RepL.mono hH (fun _ _ h => h) _ _ (RepL.rebase l _ hcl h2), fun j hj => ?_⟩
        obtain ⟨k, l', y, f1, f2, f3⟩ := h3 j hj
        exact ⟨k, l', y, f1, f2, f3.mono fun b hb => ⟨by simp [g'', own', hb, hil], hwEq b _ hb, rfl⟩⟩
      | map l =>
        obtain ⟨es, n, h1, h2⟩ := this
        exact ⟨es, n, h1, RepM.mono hH _ _ h2⟩
    · have e' : shutHw w' g' env.length b = some h := e
      unfold shutHw at e'
      split at e'
      · split at e'
        · rename_i cs et f hheap
          cases e'
          exact ⟨cs, et, f, hheap, Nat.le_refl _⟩
        · cases e'
      · exact G'.hw b h e'
    · have := ownEq b L e
      show ∃ h, shutHw w' g' env.length b = some h
      rw [hwEq b L this]
      exact G'.own b L this
  have hE : Ext (· = .ext) w g w' g'' := by
    refine ⟨E.size, E.tape, E.os, E.output, E.hw.trans hH, fun b L hb hL => ?_, fun i b hb => ?_, fun b hb => E.bsnew b (List.mem_of_mem_take hb), fun b hb L e => E.orig b hb L (ownEq b L e), E.old⟩
    · obtain ⟨q1, q2, q3⟩ := E.ext b L hb hL
      subst hL
      exact ⟨by simp [g'', own', q1], (hwEq b _ q1).trans q2, q3⟩
    · have := (List.getElem?_eq_some_iff.1 hb).1
      show (g'.bs.take env.length)[i]? = some b
      rw [List.getElem?_take, if_pos (by rw [← G.len]; exact this)]
      exact E.bs i b hb
  exact ⟨u, g'', r', false, env, rfl, hR', Nat.le_refl _, hG, hE, (hsh.repA G' hm hr).lift, fun h => by cases h⟩

/-- A function that hands on a new box is one that changes nothing, when the box is shut. -/
theorem XPure.shut {P : Program} {f : FuncId} {args : List AV} {r' : AV} {R : List Bx → AV → Bool → List Bx → Prop} (hc : Callable P f) (hp : r'.pf = true) (h : ∀ env, XCalls P f args env (R env))
    (hs : ∀ env r ow env', R env r ow env' → ∃ new, env' = env ++ new ∧ Shut env' env.length r r') : XPure P f args r' false :=
  ⟨hc, hp, fun env => (h env).shut fun r ow env' hR => by
    obtain ⟨new, h1, h2⟩ := hs env r ow env' hR
    exact ⟨r', new, ⟨rfl, rfl, rfl⟩, h1, h2⟩⟩
end Go.Ev
end
section
/- Written by this session: helpers for proofs of functions over trees. Conditions: none beyond those in each statement. -/
namespace Go.Ev
open Go

theorem cTrue {b : Bool} {A B : Prop} (hb : b = true) (h : A) : (b = true → A) ∧ (b = false → B) := ⟨fun _ => h, fun e => by rw [hb] at e; cases e⟩
theorem cFalse {b : Bool} {A B : Prop} (hb : b = false) (h : B) : (b = true → A) ∧ (b = false → B) := ⟨fun e => by (rw [hb] at e; cases e), fun _ => h⟩

theorem pfL_append : ∀ {a b : List AV}, pfL a = true → pfL b = true → pfL (a ++ b) = true
  | [], _, _, h => h
  | x :: a, b, h1, h2 => by simp only [pfL, List.cons_append, Bool.and_eq_true] at h1 ⊢; exact ⟨h1.1, pfL_append h1.2 h2⟩
theorem pfL_rep {a : List AV} (h : pfL a = true) : ∀ n : Nat, pfL (List.replicate n a).flatten = true
  | 0 => rfl
  | n + 1 => by rw [List.replicate_succ, List.flatten_cons]; exact pfL_append h (pfL_rep h n)
theorem repLen {α : Type} {a : List α} (n : Nat) : (List.replicate n a).flatten.length = n * a.length := by
  simp

/-- Elements of k leaves each, without pointers to boxes. -/
def Els (k : Nat) (l : List AV) : Prop := ∀ x ∈ l, x.leaves.length = k ∧ pfL x.leaves = true
theorem Els.len {k : Nat} : ∀ {l : List AV}, Els k l → (l.flatMap AV.leaves).length = l.length * k
  | [], _ => by simp
  | x :: l, h => by
    have h1 := (h x (List.mem_cons_self ..)).1
    have h2 := Els.len (l := l) fun y hy => h y (List.mem_cons_of_mem _ hy)
    simp only [List.flatMap_cons, List.length_append, h1, h2, List.length_cons, Nat.add_mul]; omega
theorem Els.pf {k : Nat} : ∀ {l : List AV}, Els k l → pfL (l.flatMap AV.leaves) = true
  | [], _ => rfl
  | x :: l, h => by
    simp only [List.flatMap_cons]
    exact pfL_append (h x (List.mem_cons_self ..)).2 (Els.pf fun y hy => h y (List.mem_cons_of_mem _ hy))

/-- A slice of its own, in a new box. -/
def NewSl (env : List Bx) (k : Nat) (l : List AV) (r : AV) (env' : List Bx) : Prop :=
  (r = .v (.slice none 0 0) ∧ l = [] ∧ env' = env) ∨
  ∃ new i c zs, env' = env ++ new ∧ r = .xs (env.length + i) 0 k l.length c ∧ l.length ≤ c ∧ c ≤ 9223372036854775807 ∧ new[i]? = some (.cells (l.flatMap AV.leaves ++ zs) []) ∧ (l.flatMap AV.leaves ++ zs).length = c * k ∧ pfL zs = true

theorem newSl_of {env own : List Bx} {k : Nat} {l zs : List AV} {i n c : Nat} (he : Els k l) (hz : pfL zs = true) (hn : n = l.length) (hc : n ≤ c) (hc' : c ≤ 9223372036854775807) (h : own[i]? = some (.cells (l.flatMap AV.leaves ++ zs) [])) (hl : zs.length = (c - n) * k) :
    NewSl env k l (.xs (env.length + i) 0 k n c) (env ++ own.map (Bx.up env.length)) := by
  subst hn
  refine .inr ⟨_, i, c, zs, rfl, rfl, hc, hc', ?_, ?_, hz⟩
  · rw [List.getElem?_map, h]
    simp only [Option.map_some, Bx.up, upL_pf _ _ (pfL_append he.pf hz)]
  · rw [List.length_append, he.len, hl, ← Nat.add_mul]; congr 1; omega

/-- Shut, it is that slice. -/
theorem NewSl.shut {env env' : List Bx} {k : Nat} {l : List AV} {r : AV} (hk : 0 < k) (he : Els k l) (h47 : l.length ≤ 140737488355328) (h : NewSl env k l r env') : ∃ new, env' = env ++ new ∧ Shut env' env.length r (.sl k l) := by
  rcases h with ⟨rfl, rfl, rfl⟩ | ⟨new, i, c, zs, rfl, rfl, hc, _, hi, hl, _⟩
  · refine ⟨[], by simp, ?_⟩
    simp only [Shut]
    exact .inr ⟨k, 0, hk, rfl, rfl⟩
  · refine ⟨new, rfl, ?_⟩
    simp only [Shut]
    refine ⟨by omega, _, _, l, by rw [List.getElem?_append_right (by omega), Nat.add_sub_cancel_left]; exact hi, rfl, rfl, ?_, h47, ?_, he⟩
    · rw [hl, Nat.zero_add]; exact Nat.mul_le_mul_right _ hc
    · rw [List.drop_zero, ← he.len, List.take_left']; rfl

/-- A loop that counts. -/
theorem XW.upto {P : Program} {n : Nat} {x : Code} {Q : Exit → Cfg → Prop} {c c0 : Cfg} (N : Nat) (J : Nat → Cfg → Prop) (hw : Weak n c c0) (h0 : J 0 c0)
    (round : ∀ i c, i ≤ N → J i c → XW P n x (Then (fun c' => i < N ∧ ∃ c'', Weak n c' c'' ∧ J (i + 1) c'') Q) c) : XW P n (.loop x) Q c := by
  refine XW.loop (fun m c => ∃ i, i ≤ N ∧ m = N - i ∧ J i c) (m := N) hw ⟨0, Nat.zero_le _, rfl, h0⟩ ?_
  rintro m c ⟨i, hi, rfl, hJ⟩
  refine (round i c hi hJ).mono fun e c' q => ?_
  cases e with
  | normal =>
    obtain ⟨hlt, c'', h1, h2⟩ := q
    exact ⟨N - (i + 1), c'', by omega, h1, i + 1, by omega, rfl, h2⟩
  | _ => exact q

theorem wrapId {x : Int} (h0 : -9223372036854775808 ≤ x) (h1 : x < 9223372036854775808) : IntKind.i64.wrap x = x := by rw [IntKind.wrap_i64]; omega
theorem getD_map {α : Type} {f : α → AV} {l : List α} {n : Nat} (d : α) (h : n < l.length) : (l.map f).getD n .top = f (l.getD n d) := by
  simp [List.getD_eq_getElem?_getD, h]
theorem drop_getD {α : Type} (d : α) {l : List α} {i : Nat} (h : i < l.length) : l.drop i = l.getD i d :: l.drop (i + 1) := by
  rw [List.drop_eq_getElem_cons h]; simp [List.getD_eq_getElem?_getD, h]
end Go.Ev
end
section
/- Written by this session: loops over a state, where only the slots that change are named. Conditions: none beyond those in each statement. -/
namespace Go.Ev
open Go

def inKeys (ks : List Nat) (i : Nat) : Bool := match ks with
  | [] => false
  | k :: r => bif Nat.beq k i then true else inKeys r i
def cleanFr (ks : List Nat) : Fr → Fr
  | [] => []
  | (i, x) :: r => bif inKeys ks i then cleanFr ks r else (i, x) :: cleanFr (i :: ks) r
def keysOf : Fr → List Nat
  | [] => []
  | (i, _) :: r => i :: keysOf r
def appFr : Fr → Fr → Fr
  | [], g => g
  | x :: r, g => x :: appFr r g
/-- A configuration in which some slots hold other trees. -/
def Cfg.upd (c : Cfg) (vs : Fr) : Cfg := { c with fr := appFr vs (cleanFr (keysOf vs) c.fr) }
theorem andL {a b : Bool} (h : (a && b) = true) : a = true := by cases a <;> simp_all
theorem andR {a b : Bool} (h : (a && b) = true) : b = true := by cases a <;> simp_all
theorem bTF {b : Bool} (h : b = true) (k : b = false) : False := by rw [h] at k; cases k
theorem gY {b w : Bool} {A B : Prop} (h : b = w) (k : A) : (b = w → A) ∧ (b ≠ w → B) := ⟨fun _ => k, fun n => absurd h n⟩
theorem gTF {b : Bool} {A B : Prop} (h : b = true) (k : B) : (b = false → A) ∧ (b ≠ false → B) := ⟨fun e => (bTF h e).elim, fun _ => k⟩
theorem gFT {b : Bool} {A B : Prop} (h : b = false) (k : B) : (b = true → A) ∧ (b ≠ true → B) := ⟨fun e => (bTF e h).elim, fun _ => k⟩
theorem gsT {b : Bool} {A B : Prop} (h : b = true → A) (k : b = false → B) : (b = true → A) ∧ (b ≠ true → B) := ⟨h, fun n => k (by cases b <;> simp_all)⟩
theorem gsF {b : Bool} {A B : Prop} (h : b = false → A) (k : b = true → B) : (b = false → A) ∧ (b ≠ false → B) := ⟨h, fun n => k (by cases b <;> simp_all)⟩
theorem notF {a : Bool} (h : a = false) : (!a) = true := by rw [h]; rfl
theorem andI {a b : Bool} (h : a = true) (k : b = true) : (a && b) = true := by rw [h, k]; rfl
theorem andN {a b : Bool} (h : a = true) (k : b = false) : (a && !b) = true := by rw [h, k]; rfl

theorem wrapTo {x y : Int} (h : x = y) (h0 : -9223372036854775808 ≤ x) (h1 : x < 9223372036854775808) : IntKind.i64.wrap x = y := by rw [wrapId h0 h1, h]
theorem drop_byte {s : ByteArray} {i : Nat} (h : i < s.size) : s.data.toList.drop i = byteAt s i :: s.data.toList.drop (i + 1) := by
  have h' : i < s.data.toList.length := by rw [Array.length_toList]; exact h
  rw [List.drop_eq_getElem_cons h']
  unfold byteAt
  rw [List.getD_eq_getElem?_getD, List.getElem?_eq_getElem h']; rfl
theorem drop_end {s : ByteArray} {i : Nat} (h : ¬ i < s.size) : s.data.toList.drop i = [] := by
  apply List.drop_eq_nil_of_le
  rw [Array.length_toList]
  exact Nat.le_of_not_lt h
theorem memB {i : Nat} : ∀ {l : List Nat}, inKeys l i = true → i ∈ l
  | [], h => by cases h
  | k :: r, h => by
    simp only [inKeys] at h
    cases hb : Nat.beq k i with
    | true => rw [Nat.eq_of_beq_eq_true hb]; exact List.mem_cons_self
    | false => rw [hb] at h; exact List.mem_cons_of_mem _ (memB h)
def cl1 (base m : Nat) (x : AV) : Prop :=
  match x with
  | .bp i _ | .mo i | .bs i _ _ _ _ => i < m
  | .xp i _ | .mx i | .xs i _ _ _ _ => i < base
  | .agg l => clL base m l
  | .fn _ a b => clL base m a ∧ clL base m b
  | .tup l => clL base m l
  | _ => True
theorem cl_of1 {base m : Nat} {x : AV} (h : cl1 base m x) : x.cl base m := by cases x <;> simp only [AV.cl, cl1] at * <;> exact h
def LeqL1 (base m : Nat) : List AV → List AV → Prop
  | [], [] => True
  | x :: xs, y :: ys => Leq x y ∧ cl1 base m y ∧ LeqL1 base m xs ys
  | _, _ => False
theorem LeqL_of1 {base m : Nat} : ∀ {l l0 : List AV}, LeqL1 base m l l0 → LeqL base m l l0
  | [], [], _ => trivial
  | _ :: _, _ :: _, h => ⟨h.1, cl_of1 h.2.1, LeqL_of1 h.2.2⟩
  | [], _ :: _, h => h.elim
  | _ :: _, [], h => h.elim
def FrLeq1 (base m : Nat) (f : Fr) : Fr → Prop
  | [] => True
  | (i, y) :: r => Leq (Fr.get f i) y ∧ cl1 base m y ∧ FrLeq1 base m f r
theorem FrLeq_of1 {base m : Nat} {f : Fr} : ∀ {g : Fr}, FrLeq1 base m f g → FrLeq base m f g
  | [], _ => trivial
  | (_, _) :: _, h => ⟨h.1, cl_of1 h.2.1, FrLeq_of1 h.2.2⟩
def OwnLeq1 (base m : Nat) : List Bx → List Bx → Prop
  | _, [] => True
  | .cells l os :: r, .cells l0 os0 :: r0 => LeqL1 base m l l0 ∧ (∀ j ∈ os0, (j ∈ os ∨ l[j]? = some (.v (.slice none 0 0))) ∧ (l0[j]?.bind AV.slK).isSome = true) ∧ OwnLeq1 base m r r0
  | .map l :: r, .map l0 :: r0 => l = l0 ∧ OwnLeq1 base m r r0
  | _, _ => False
theorem OwnLeq_of1 {base m : Nat} : ∀ {l l0 : List Bx}, OwnLeq1 base m l l0 → OwnLeq base m l l0
  | _, [], _ => by unfold OwnLeq; trivial
  | .cells _ _ :: _, .cells _ _ :: _, h => ⟨LeqL_of1 h.1, h.2.1, OwnLeq_of1 h.2.2⟩
  | .map _ :: _, .map _ :: _, h => ⟨h.1, OwnLeq_of1 h.2⟩
  | [], .cells _ _ :: _, h => h.elim
  | [], .map _ :: _, h => h.elim
  | .map _ :: _, .cells _ _ :: _, h => h.elim
  | .cells _ _ :: _, .map _ :: _, h => h.elim

/-- What may be forgotten, tried out (counters too). -/
theorem Weak.go {n : Nat} {c c0 : Cfg} (he : c0.env = c.env := by rfl)
    (hf : FrLeq1 c.base c0.own.length c.fr c0.fr := by repeat' (first | ((with_reducible show Leq _ _); first | exact Or.inr (Or.inl rfl) | exact Or.inr (Or.inl (congrArg (fun z => AV.v (Value.int IntKind.i64 z)) (wrapTo (by omega) (by omega) (by omega)))) | exact Or.inr (Or.inl (congrArg (fun z => AV.v (Value.int IntKind.i64 z)) (by simp only [List.length_map]))) | exact Or.inr (Or.inl (congrArg (AV.sl _) (by assumption))) | exact Or.inr (Or.inr ⟨rfl, _, by decide, rfl⟩) | exact Or.inl rfl | fail) | ((with_reducible show cl1 _ _ _); first | exact trivial | exact Nat.le_of_ble_eq_true rfl | (refine ⟨?_, ?_⟩)) | ((with_reducible show clL _ _ _); first | exact trivial | (refine ⟨?_, ?_⟩)) | ((with_reducible show FrLeq1 _ _ _ _); first | exact trivial | (refine ⟨?_, ?_, ?_⟩)) | assumption))
    (ho : OsLeq n c c0.fr c0.os := by repeat' (first | ((with_reducible show OsLeq _ _ _ _); first | exact trivial | refine ⟨?_, ?_, ?_⟩) | ((with_reducible show _ ∨ _); first | exact Or.inl (memB rfl) | exact Or.inr ⟨Nat.le_of_ble_eq_true rfl, rfl⟩ | fail) | exact rfl))
    (hw : OwnLeq1 c.base c0.own.length c.own c0.own := by repeat' (first | ((with_reducible show Leq _ _); first | exact Or.inr (Or.inl rfl) | exact Or.inr (Or.inl (congrArg (fun z => AV.v (Value.int IntKind.i64 z)) (wrapTo (by omega) (by omega) (by omega)))) | exact Or.inr (Or.inl (congrArg (fun z => AV.v (Value.int IntKind.i64 z)) (by simp only [List.length_map]))) | exact Or.inr (Or.inl (congrArg (AV.sl _) (by assumption))) | exact Or.inr (Or.inr ⟨rfl, _, by decide, rfl⟩) | exact Or.inl rfl | fail) | ((with_reducible show cl1 _ _ _); first | exact trivial | exact Nat.le_of_ble_eq_true rfl | (refine ⟨?_, ?_⟩)) | ((with_reducible show clL _ _ _); first | exact trivial | (refine ⟨?_, ?_⟩)) | ((with_reducible show LeqL1 _ _ _ _); first | exact trivial | (refine ⟨?_, ?_, ?_⟩)) | ((with_reducible show OwnLeq1 _ _ _ _); first | exact trivial | (refine ⟨?_, ?_, ?_⟩) | (refine ⟨rfl, ?_⟩) | (refine ⟨(by assumption), ?_⟩)) | exact (fun j hj => absurd hj List.not_mem_nil) | exact (fun j hj => by obtain rfl := List.mem_singleton.1 hj; exact ⟨by first | exact Or.inl (memB rfl) | exact Or.inr rfl, rfl⟩) | assumption)) : Weak n c c0 := Weak.of he (FrLeq_of1 hf) ho (OwnLeq_of1 hw)

theorem sizeOk {n b : Nat} (hb : Nat.ble b 4096 = true) (h : n ≤ 34359738368) : n * b ≤ 140737488355328 :=
  Nat.le_trans (Nat.mul_le_mul_left n (Nat.le_of_ble_eq_true hb)) (by omega)
theorem app_next {α : Type} (f : α → AV) {l : List α} {i : Nat} (d : α) (h : i < l.length) : (l.take i).map f ++ [f (l.getD i d)] = (l.take (i + 1)).map f := by
  rw [List.take_succ_eq_append_getElem h, List.map_append]; simp [List.getD_eq_getElem?_getD, h]
def keepFr (live : List Nat) (f : Fr) : Fr := match live with
  | [] => []
  | i :: r => (i, Fr.get f i) :: keepFr r f
/-- A configuration of which these slots are kept, with some more. -/
def Cfg.cut (c : Cfg) (live : List Nat) (vs : Fr) (os : List Nat) (own : List Bx) : Cfg := ⟨appFr vs (keepFr live c.fr), os, own, c.env⟩
def forceF (f : Fr) (K : Fr → Prop) : Prop :=
  match f with
  | [] => K []
  | (i, x) :: r => forceV x fun x' => forceF r fun r' => K ((i, x') :: r')
theorem forceF_iff : ∀ (f : Fr) (K : Fr → Prop), forceF f K ↔ K f
  | [], _ => Iff.rfl
  | (i, x) :: r, K => by simp only [forceF]; rw [forceV_iff]; exact forceF_iff r _
/-- Code from a configuration that is seen first. -/
theorem codeS {P : Program} {n : Nat} {cd : Code} {Q : Exit → Cfg → Prop} {c : Cfg} (h : forceF c.fr fun f => forceO c.own fun o => codeA P n cd Q ⟨f, c.os, o, c.env⟩) : XW P n cd Q c := by
  rw [forceF_iff, forceO_iff] at h
  exact codeA_sound _ _ _ h

/-- A loop over a state. -/
theorem XW.over {P : Program} {n : Nat} {x : Code} {Q : Exit → Cfg → Prop} {c : Cfg} {σ : Type} (F : σ → Cfg) (S : σ → Prop) (m : σ → Nat) (s0 : σ) (hw : Weak n c (F s0)) (h0 : S s0)
    (round : ∀ s, S s → XW P n x (Then (fun c' => ∃ s', m s' < m s ∧ S s' ∧ Weak n c' (F s')) Q) (F s)) : XW P n (.loop x) Q c := by
  refine XW.loop (fun k c => ∃ s, k = m s ∧ S s ∧ c = F s) (m := m s0) hw ⟨s0, rfl, h0, rfl⟩ ?_
  rintro k c ⟨s, rfl, hS, rfl⟩
  refine (round s hS).mono fun e c' q => ?_
  cases e with
  | normal =>
    obtain ⟨s', h1, h2, h3⟩ := q
    exact ⟨m s', F s', h1, h3, s', rfl, h2, rfl⟩
  | _ => exact q

/-- A loop that counts, where vs names the slots that change. -/
theorem XW.count {P : Program} {n : Nat} {x : Code} {Q : Exit → Cfg → Prop} {c : Cfg} (N : Nat) (vs : Nat → Fr) (A : Nat → Prop) (hw : Weak n c (c.upd (vs 0))) (h0 : A 0)
    (round : ∀ i, i ≤ N → A i → XW P n x (Then (fun c' => i < N ∧ A (i + 1) ∧ Weak n c' (c.upd (vs (i + 1)))) Q) (c.upd (vs i))) : XW P n (.loop x) Q c := by
  refine XW.over (fun i => c.upd (vs i)) (fun i => i ≤ N ∧ A i) (fun i => N - i) 0 hw ⟨Nat.zero_le _, h0⟩ ?_
  rintro i ⟨hi, hA⟩
  refine (round i hi hA).mono fun e c' q => ?_
  cases e with
  | normal =>
    obtain ⟨h1, h2, h3⟩ := q
    exact ⟨i + 1, by omega, ⟨by omega, h2⟩, h3⟩
  | _ => exact q

/-- A loop over a state: the slots that are kept, the slots and the boxes that change. -/
theorem XW.overL {P : Program} {n : Nat} {x : Code} {Q : Exit → Cfg → Prop} {c : Cfg} {σ : Type} (live : List Nat) (vs : σ → Fr) (os : σ → List Nat) (own : σ → List Bx) (S : σ → Prop) (m : σ → Nat) (s0 : σ) (hw : Weak n c (c.cut live (vs s0) (os s0) (own s0))) (h0 : S s0)
    (round : ∀ s, S s → XW P n x (Then (fun c' => ∃ s', m s' < m s ∧ S s' ∧ Weak n c' (c.cut live (vs s') (os s') (own s'))) Q) (c.cut live (vs s) (os s) (own s))) : XW P n (.loop x) Q c :=
  XW.over (fun s => c.cut live (vs s) (os s) (own s)) S m s0 hw h0 round

/-- As count: the slots that are kept, the slots and the boxes that change. -/
theorem XW.countL {P : Program} {n : Nat} {x : Code} {Q : Exit → Cfg → Prop} {c : Cfg} (N : Nat) (live : List Nat) (vs : Nat → Fr) (os : Nat → List Nat) (own : Nat → List Bx) (A : Nat → Prop) (hw : Weak n c (c.cut live (vs 0) (os 0) (own 0))) (h0 : A 0)
    (round : ∀ i, i ≤ N → A i → XW P n x (Then (fun c' => i < N ∧ A (i + 1) ∧ Weak n c' (c.cut live (vs (i + 1)) (os (i + 1)) (own (i + 1)))) Q) (c.cut live (vs i) (os i) (own i))) : XW P n (.loop x) Q c := by
  refine XW.over (fun i => c.cut live (vs i) (os i) (own i)) (fun i => i ≤ N ∧ A i) (fun i => N - i) 0 hw ⟨Nat.zero_le _, h0⟩ ?_
  rintro i ⟨hi, hA⟩
  refine (round i hi hA).mono fun e c' q => ?_
  cases e with
  | normal =>
    obtain ⟨h1, h2, h3⟩ := q
    exact ⟨i + 1, by omega, ⟨by omega, h2⟩, h3⟩
  | _ => exact q
end Go.Ev
end
section
/- Written by this session: contracts over memory that leave all of it as it is, as contracts over trees. Conditions: none beyond those in each statement. -/
namespace Go.Ev
open Go Go.RowKit

section
variable {w w' : World} {g : Gh} {mem : List Bx} {base : Nat}

theorem cell?_block {b : Nat} {o : Nat} (h : w'.heap[b]? = w.heap[b]?) : w'.cell? ⟨b, o, none⟩ = w.cell? ⟨b, o, none⟩ := by
  unfold World.cell?
  rw [h]

theorem HwLe.below (G : Good w g mem base) (B : Below w.heap.size w w') : HwLe w g.hw w' g.hw := fun b h e => by
  obtain ⟨cs, et, f, hh, _⟩ := G.hw b h e
  exact ⟨h, e, Nat.le_refl _, fun o _ => cell?_block (B.block b (Array.getElem?_eq_some_iff.1 hh).1)⟩

theorem Good.below (G : Good w g mem base) (B : Below w.heap.size w w') : Good w' g mem base where
  len := G.len
  nd := G.nd
  nohw := G.nohw
  box i x b hx hb := by
    have h := G.box i x b hx hb
    have H := HwLe.below G B
    cases x with
    | cells l os =>
      obtain ⟨cs, e, hh, hr, ho⟩ := h
      refine ⟨cs, e, (B.block b (Array.getElem?_eq_some_iff.1 hh).1).trans hh, hr.mono H (fun _ _ h => h), fun j hj => ?_⟩
      obtain ⟨k, l', y, h1, h2, h3⟩ := ho j hj
      refine ⟨k, l', y, h1, h2, h3.mono fun b' hb' => ⟨hb', rfl, ?_⟩⟩
      obtain ⟨h, e'⟩ := G.own b' _ hb'
      obtain ⟨cs', et, f, hh', _⟩ := G.hw b' h e'
      exact B.block b' (Array.getElem?_eq_some_iff.1 hh').1
    | map l =>
      obtain ⟨es, n, hh, hr⟩ := h
      exact ⟨es, n, (B.block b (Array.getElem?_eq_some_iff.1 hh).1).trans hh, hr.mono H⟩
  hw b h e := by
    obtain ⟨cs, et, f, hh, hle⟩ := G.hw b h e
    exact ⟨cs, et, f, (B.block b (Array.getElem?_eq_some_iff.1 hh).1).trans hh, hle⟩
  own := G.own
  glob := G.glob.mono (HwLe.below G B)

theorem Ext.below (keep : Loc → Prop) (G : Good w g mem base) (B : Below w.heap.size w w') : Ext keep w g w' g where
  size := B.size
  tape := B.tape
  os := B.os
  output := B.output
  hw := HwLe.below G B
  ext b L h _ := by
    refine ⟨h, rfl, ?_⟩
    obtain ⟨k, e⟩ := G.own b L h
    obtain ⟨cs, et, f, hh, _⟩ := G.hw b k e
    exact B.block b (Array.getElem?_eq_some_iff.1 hh).1
  bs _ _ h := h
  bsnew _ h := .inl h
  orig _ _ L h := ⟨L, h, fun _ => rfl⟩
  old b hb _ _ := B.block b hb
end

theorem repT_v {w : World} {hw : Hw} {bs : List Nat} {base : Nat} : ∀ (l : List Value) (vs : List Value), RepT w hw bs base (l.map .v) vs → vs = l
  | [], _, h => h
  | x :: l, _, h => by
    simp only [List.map_cons, RepT] at h
    obtain ⟨v, vs', rfl, h1, h2⟩ := h
    rw [(rep_v (x := x) (rep_of h1)).1, repT_v l _ h2]

/-- A contract over plain values. -/
theorem XPure.ofCalls {P : Program} {f : FuncId} {l : List Value} {r : AV} {u : Value} (hc : Callable P f) (hp : r.pf = true)
    (h : ∀ w : World, Calls P f l.toArray w fun e w' => e = .returned u ∧ Below w.heap.size w w')
    (hr : ∀ (w : World) (hw : Hw) (bs : List Nat) (base : Nat), Rep w hw bs base r u) : XPure P f (l.map .v) r false := by
  refine ⟨hc, hp, fun env w g vs G hs hv => ?_⟩
  obtain rfl := repT_v l vs hv
  refine (h w).mono ?_
  rintro e w' ⟨rfl, B⟩
  exact ⟨u, g, r, false, env, rfl, ⟨rfl, rfl, rfl⟩, Nat.le_refl _, G.below B, Ext.below _ G B, hr _ _ _ _, fun h => by cases h⟩
end Go.Ev
end
section
/- Written by this session: an empty slice that is nil is an empty slice. Conditions: none beyond those in each statement. -/
namespace Go.Ev
open Go

mutual
/-- y is x, where nil slices may be said to be empty ones. -/
def LeqD : AV → AV → Prop
  | .v (.slice none 0 0), y => y = .v (.slice none 0 0) ∨ ∃ k, 0 < k ∧ y = .sl k []
  | .agg l, y => ∃ l', y = .agg l' ∧ LeqDL l l'
  | .sl k l, y => ∃ l', y = .sl k l' ∧ LeqDL l l'
  | .tup l, y => ∃ l', y = .tup l' ∧ LeqDL l l'
  | x, y => x = y
def LeqDL : List AV → List AV → Prop
  | [], l => l = []
  | x :: xs, l => ∃ y ys, l = y :: ys ∧ LeqD x y ∧ LeqDL xs ys
end

theorem LeqDL.length : ∀ {l l' : List AV}, LeqDL l l' → l'.length = l.length
  | [], _, h => by simp only [LeqDL] at h; subst h; rfl
  | x :: xs, _, h => by
    simp only [LeqDL] at h
    obtain ⟨y, ys, rfl, _, h2⟩ := h
    simp only [List.length_cons, h2.length]
theorem LeqD.isAgg {x y : AV} (h : LeqD x y) : y.isAgg = x.isAgg := by
  cases x with
  | agg l => simp only [LeqD] at h; obtain ⟨l', rfl, _⟩ := h; rfl
  | sl k l => simp only [LeqD] at h; obtain ⟨l', rfl, _⟩ := h; rfl
  | tup l => simp only [LeqD] at h; obtain ⟨l', rfl, _⟩ := h; rfl
  | v z =>
    unfold LeqD at h
    split at h
    · rcases h with rfl | ⟨_, _, rfl⟩ <;> rfl
    · rename_i e; cases e
    · rename_i e; cases e
    · rename_i e; cases e
    · subst h; rfl
  | _ => simp only [LeqD] at h; subst h; rfl

mutual
theorem RepV.nils {w : World} {hw : Hw} {bs : List Nat} {base : Nat} : ∀ (x y : AV) (vs : List Value), LeqD x y → RepV w hw bs base x vs → RepV w hw bs base y vs
  | .v z, y, vs, h, hr => by
    unfold LeqD at h
    split at h
    · rename_i e
      cases e
      rcases h with rfl | ⟨k, hk, rfl⟩
      · exact hr
      · simp only [RepV] at hr ⊢
        subst hr
        exact ⟨none, 0, rfl, Nat.le_refl _, ⟨hk, by simp⟩, by simp⟩
    · rename_i e; cases e
    · rename_i e; cases e
    · rename_i e; cases e
    · subst h; exact hr
  | .sl k l, y, vs, h, hr => by
    simp only [LeqD] at h
    obtain ⟨l', rfl, h⟩ := h
    simp only [RepV] at hr ⊢
    obtain ⟨a, c, e, hc, hk, hr⟩ := hr
    have hl := LeqDL.length h
    refine ⟨a, c, by rw [hl]; exact e, by rw [hl]; exact hc, ⟨hk.1, by rw [hl]; exact hk.2⟩, ?_⟩
    rcases hr with rfl | ⟨b, o, cs, ea, hcs, hr⟩
    · simp only [LeqDL] at h; exact .inl h
    · exact .inr ⟨b, o, cs, ea, hcs, RepE.nils l l' cs h hr⟩
  | .agg l, y, vs, h, hr => by
    simp only [LeqD] at h
    obtain ⟨l', rfl, h⟩ := h
    simp only [RepV] at hr ⊢
    exact RepL.nils l l' vs h hr
  | .tup l, y, vs, h, hr => by simp only [RepV] at hr
  | .top, y, vs, h, hr | .bp _ _, y, vs, h, hr | .xp _ _, y, vs, h, hr | .mo _, y, vs, h, hr | .mx _, y, vs, h, hr | .bs .., y, vs, h, hr | .xs .., y, vs, h, hr | .gv _ _, y, vs, h, hr | .ep _, y, vs, h, hr | .fn .., y, vs, h, hr | .ifc _ _, y, vs, h, hr => by
    simp only [LeqD] at h; subst h; exact hr
theorem RepL.nils {w : World} {hw : Hw} {bs : List Nat} {base : Nat} : ∀ (l l' : List AV) (vs : List Value), LeqDL l l' → RepL w hw bs base l vs → RepL w hw bs base l' vs
  | [], _, _, h, hr => by simp only [LeqDL] at h; subst h; exact hr
  | x :: xs, _, _, h, hr => by
    simp only [LeqDL] at h
    obtain ⟨y, ys, rfl, h1, h2⟩ := h
    simp only [RepL] at hr ⊢
    obtain ⟨v, vs', rfl, ⟨r1, r2, r3⟩, r4⟩ := hr
    exact ⟨v, vs', rfl, ⟨RepV.nils x y _ h1 r1, h1.isAgg.trans r2, r3⟩, RepL.nils xs ys _ h2 r4⟩
theorem RepE.nils {w : World} {hw : Hw} {k : Nat} : ∀ (l l' : List AV) (vs : List Value), LeqDL l l' → RepE w hw k l vs → RepE w hw k l' vs
  | [], _, _, h, hr => by simp only [LeqDL] at h; subst h; exact hr
  | x :: xs, _, _, h, hr => by
    simp only [LeqDL] at h
    obtain ⟨y, ys, rfl, h1, h2⟩ := h
    simp only [RepE] at hr ⊢
    obtain ⟨r0, ⟨r1, r2⟩, r3⟩ := hr
    exact ⟨r0, ⟨RepV.nils x y _ h1 r1, by rw [h1.isAgg]; exact r2⟩, RepE.nils xs ys _ h2 r3⟩
end

theorem RepT.nils {w : World} {hw : Hw} {bs : List Nat} {base : Nat} : ∀ (l l' : List AV) (vs : List Value), LeqDL l l' → RepT w hw bs base l vs → RepT w hw bs base l' vs
  | [], _, _, h, hr => by simp only [LeqDL] at h; subst h; exact hr
  | x :: xs, _, _, h, hr => by
    simp only [LeqDL] at h
    obtain ⟨y, ys, rfl, h1, h2⟩ := h
    simp only [RepT] at hr ⊢
    obtain ⟨v, vs', rfl, r1, r2⟩ := hr
    refine ⟨v, vs', rfl, ?_, RepT.nils xs ys _ h2 r2⟩
    rcases r1 with rfl | ⟨r1, r3⟩
    · simp only [LeqD] at h1; exact .inl h1.symm
    · exact .inr ⟨RepV.nils x y _ h1 r1, by rw [r3, h1.isAgg]⟩

mutual
theorem LeqD.refl : ∀ x : AV, LeqD x x
  | .v z => by
    unfold LeqD
    split
    · rename_i e; cases e; exact .inl rfl
    · rename_i e; cases e
    · rename_i e; cases e
    · rename_i e; cases e
    · rfl
  | .agg l => by simp only [LeqD]; exact ⟨l, rfl, LeqDL.refl l⟩
  | .sl k l => by simp only [LeqD]; exact ⟨l, rfl, LeqDL.refl l⟩
  | .tup l => by simp only [LeqD]; exact ⟨l, rfl, LeqDL.refl l⟩
  | .top | .bp _ _ | .xp _ _ | .mo _ | .mx _ | .bs .. | .xs .. | .gv _ _ | .ep _ | .fn .. | .ifc _ _ => by simp only [LeqD]
theorem LeqDL.refl : ∀ l : List AV, LeqDL l l
  | [] => by simp only [LeqDL]
  | x :: xs => by simp only [LeqDL]; exact ⟨x, xs, rfl, LeqD.refl x, LeqDL.refl xs⟩
end
theorem LeqDL.append : ∀ {a a' b b' : List AV}, LeqDL a a' → LeqDL b b' → LeqDL (a ++ b) (a' ++ b')
  | [], _, _, _, h, k => by simp only [LeqDL] at h; subst h; exact k
  | x :: xs, _, _, _, h, k => by
    simp only [LeqDL] at h
    obtain ⟨y, ys, rfl, h1, h2⟩ := h
    simp only [List.cons_append, LeqDL]
    exact ⟨y, _, rfl, h1, h2.append k⟩
theorem LeqDL.map {α : Type} {f g : α → AV} (h : ∀ x, LeqD (f x) (g x)) : ∀ l : List α, LeqDL (l.map f) (l.map g)
  | [] => by simp only [List.map_nil, LeqDL]
  | x :: l => by simp only [List.map_cons, LeqDL]; exact ⟨_, _, rfl, h x, LeqDL.map h l⟩
theorem LeqD.nil {k : Nat} (h : 0 < k) : LeqD (.v (.slice none 0 0)) (.sl k []) := by
  unfold LeqD; exact .inr ⟨k, h, rfl⟩
theorem LeqD.agg {l l' : List AV} (h : LeqDL l l') : LeqD (.agg l) (.agg l') := by unfold LeqD; exact ⟨l', rfl, h⟩
theorem LeqD.tup {l l' : List AV} (h : LeqDL l l') : LeqD (.tup l) (.tup l') := by unfold LeqD; exact ⟨l', rfl, h⟩
theorem LeqD.sl {k : Nat} {l l' : List AV} (h : LeqDL l l') : LeqD (.sl k l) (.sl k l') := by unfold LeqD; exact ⟨l', rfl, h⟩
theorem LeqDL.cons {x y : AV} {l l' : List AV} (h : LeqD x y) (k : LeqDL l l') : LeqDL (x :: l) (y :: l') := by unfold LeqDL; exact ⟨y, l', rfl, h, k⟩
theorem Rep.nils {w : World} {hw : Hw} {bs : List Nat} {base : Nat} {x y : AV} {v : Value} (h : LeqD x y) (hr : Rep w hw bs base x v) : Rep w hw bs base y v := by
  cases x with
  | tup l =>
    unfold LeqD at h
    obtain ⟨l', rfl, h⟩ := h
    obtain ⟨vs, e, hr⟩ := hr
    exact ⟨vs, e, RepT.nils _ _ _ h hr⟩
  | _ =>
    rcases hr with hr | ⟨r1, r2⟩
    · first
        | cases hr; done
        | (unfold LeqD at h; subst h; exact .inl rfl)
    · refine rep_of (.inr ⟨RepV.nils _ _ _ h r1, by rw [r2, h.isAgg]⟩)
attribute [irreducible] LeqD LeqDL

/-- A contract of a function at an empty slice holds at nil. -/
theorem XPure.nils {P : Program} {f : FuncId} {args args' : List AV} {r : AV} {ow : Bool} (h : XPure P f args' r ow)
    (hn : LeqDL args args' := by repeat' (first | exact LeqD.refl _ | exact LeqDL.refl _ | assumption | exact LeqD.nil (by decide) | refine LeqDL.cons ?_ ?_ | refine LeqD.agg ?_ | refine LeqD.tup ?_ | refine LeqD.sl ?_)) : XPure P f args r ow :=
  ⟨h.1, h.2.1, fun env w g vs G hs hv => h.2.2 env w g vs G hs (RepT.nils _ _ _ hn hv)⟩

/-- At the end: what comes back, where nil may be said to be empty. -/
def OutN (P : Program) (n : Nat) (rs : List ResultVar) (env : List Bx) (r : AV) (e : Exit) (c : Cfg) : Prop :=
  (e = .normal ∨ e = .ret) ∧ c.env = env ∧ retA P n rs c fun r' _ => LeqD r' r

theorem XPure.bodyN {P : Program} {f : FuncId} {fn : Func} {cd : Code} {args : List AV} {r : AV} (hc : Callable P f) (hf : P.funcs[f]? = some fn) (hb : fn.body = some cd) (ha : args.length ≤ fn.ntmps) (hp : r.pf = true)
    (h : ∀ env, codeA P fn.ntmps cd (OutN P fn.ntmps fn.results.toList env r) ⟨frOf 0 args, [], [], env⟩) : XPure P f args r false := by
  refine ⟨hc, hp, fun env => ?_⟩
  have h1 := XCalls.intro (R := fun r' ow' env' => LeqD r' r ∧ env' = env) hf hb ha ((codeA_sound _ _ _ (h env)).mono fun e c' q => by
    obtain ⟨q1, q2, q3⟩ := q
    refine ⟨q1, by rw [q2], ?_⟩
    have e : (fun (r' : AV) (ow' : Bool) => (LeqD r' r ∧ c'.env = env)) = (fun r' _ => LeqD r' r) := by
      funext r' ow'; simp [q2]
    rw [e]; exact q3)
  intro w g vs G hs hv
  refine (h1 w g vs G hs hv).mono ?_
  rintro e w' ⟨u, g', r', ow', env', k1, ⟨k2, rfl⟩, k3, k4, k5, k6, k7⟩
  exact ⟨u, g', r, false, env', k1, ⟨rfl, rfl, rfl⟩, k3, k4, k5, Rep.nils k2 k6, fun h => by cases h⟩
theorem getD_mapI {α : Type} {f : α → AV} {l : List α} {n : Nat} (d : α) (h : n < l.length) : (l.map f).getD (Int.toNat (n : Int)) .top = f (l.getD n d) := getD_map d h
end Go.Ev
end
section
/- Written by this session: short words for the steps of a proof. Conditions: none beyond those in each statement. -/
namespace Go.Ev
open Go

theorem okG {P : Prop} (h : P := by first | exact fun h => h | exact fun _ => rfl | exact notF | exact andL | exact andR | exact fun h' => andI (by assumption) h' | exact fun h' => andN (by assumption) h') : P := h
theorem okS {P : Prop} (h : P := by first | (refine sizeOk rfl ?_; simp only [List.length_map, List.length_append, List.length_take, List.length_drop, List.length_cons, List.length_nil]; omega) | omega | (simp only [List.length_map, List.length_append, List.length_take, List.length_drop, List.length_cons, List.length_nil]; omega)) : P := h
theorem okN {P : Prop} (h : P := by (repeat' (first | exact LeqD.refl _ | exact LeqDL.refl _ | assumption | exact LeqD.nil (by decide) | refine LeqDL.cons ?_ ?_ | refine LeqD.agg ?_ | refine LeqD.tup ?_ | refine LeqD.sl ?_)); first | done | fail) : P := h
theorem cY {b : Bool} {A B : Prop} (k : A) (h : b = true := by with_reducible first | rfl | assumption) : (b = true → A) ∧ (b = false → B) := cTrue h k
theorem cN {b : Bool} {A B : Prop} (k : B) (h : b = false := by with_reducible first | rfl | assumption) : (b = true → A) ∧ (b = false → B) := cFalse h k
theorem gA {b w : Bool} {A B : Prop} (k : A) (h : b = w := by with_reducible first | rfl | assumption) : (b = w → A) ∧ (b ≠ w → B) := gY h k
theorem gB {b : Bool} {A B : Prop} (k : B) (h : b = true := by with_reducible first | rfl | assumption) : (b = false → A) ∧ (b ≠ false → B) := gTF h k
theorem gC {b : Bool} {A B : Prop} (k : B) (h : b = false := by with_reducible first | rfl | assumption) : (b = true → A) ∧ (b ≠ true → B) := gFT h k
theorem pfA {x : AV} {B : Prop} (k : B) (h : pf1 x = true := by exact rfl) : AV.pf x = true ∧ B := ⟨pf_of1 h, k⟩
theorem XW.dr {P : Program} {n : Nat} {ops : Array Oper} {id m : Nat} {c : Cfg} {Q : Exit → Cfg → Prop} (h : drawA P n ops.toList m c fun c' => Q .normal c') (hmix : P.follows .mixedOrders = true := by kernel_rfl) (hB : drawB ops.toList m = true := by kernel_rfl) (hm : Nat.ble m ops.toList.length = true := by rfl) : XW P n (.region id ops true) Q c := XW.draw hmix hB hm h
end Go.Ev
end
section
/- Written by this session: a region that draws its order, in which one call may make boxes; which of these are kept. Conditions: none beyond those in each statement. -/
namespace Go.Ev
open Go

theorem Rep1.take {w : World} {hw : Hw} {bs : List Nat} {base m : Nat} {a : AV} {y : Value} (c : a.cl base m) (h : Rep1 w hw bs base a y) : Rep1 w hw (bs.take (base + m)) base a y := h.imp id fun ⟨h, e⟩ => ⟨RepV.takeV _ _ c h, e⟩
theorem RepT.take {w : World} {hw : Hw} {bs : List Nat} {base m : Nat} : ∀ (l : List AV) (vs : List Value), clL base m l → RepT w hw bs base l vs → RepT w hw (bs.take (base + m)) base l vs
  | [], _, _, h => h
  | x :: xs, _, c, h => by
    simp only [RepT] at h ⊢
    simp only [clL] at c
    obtain ⟨v, vs', e, h1, h2⟩ := h
    exact ⟨v, vs', e, h1.take c.1, RepT.take xs _ c.2 h2⟩
theorem Rep.take {w : World} {hw : Hw} {bs : List Nat} {base m : Nat} {a : AV} {y : Value} (c : a.cl base m) (h : Rep w hw bs base a y) : Rep w hw (bs.take (base + m)) base a y := by
  cases a with
  | tup l => obtain ⟨vs, e, h⟩ := h; simp only [AV.cl] at c; exact ⟨vs, e, RepT.take l _ c h⟩
  | _ => exact Rep1.take c h

def Gh.down (g : Gh) (k : Nat) : Gh := { g with bs := g.bs.take k, own := fun b => match g.own b with
  | some (.cell i j) => if i < k then some (.cell i j) else none
  | x => x }

theorem down_own {g : Gh} {k : Nat} {b : Nat} {L : Loc} (h : (g.down k).own b = some L) : g.own b = some L := by
  unfold Gh.down at h
  simp only at h
  cases hb : g.own b with
  | none => rw [hb] at h; cases h
  | some L' =>
    rw [hb] at h
    cases L' with
    | slot i => exact h
    | ext => exact h
    | cell i j =>
      simp only at h
      split at h
      · exact h
      · cases h

/-- Without the last boxes. -/
theorem Good.down {w : World} {g : Gh} {env own new : List Bx} (G : Good w g (env ++ (own ++ new)) env.length) (hcl : ∀ x ∈ env ++ own, Bx.cl env.length own.length x) : Good w (g.down (env.length + own.length)) (env ++ own) env.length where
  len := by
    have := G.len
    simp only [Gh.down, List.length_take, List.length_append] at this ⊢; omega
  nd := G.nd.sublist (List.take_sublist _ _)
  nohw b hb := G.nohw b (List.mem_of_mem_take hb)
  box i x b hx hb := by
    have hil : i < env.length + own.length := by have := (List.getElem?_eq_some_iff.1 hx).1; simpa using this
    have hx' : (env ++ (own ++ new))[i]? = some x := by rw [← List.append_assoc, List.getElem?_append_left (by simpa using hil)]; exact hx
    have hb' : g.bs[i]? = some b := by
      have hb : (g.bs.take (env.length + own.length))[i]? = some b := hb
      rw [List.getElem?_take, if_pos hil] at hb; exact hb
    have := G.box i x b hx' hb'
    have hc := hcl x (List.mem_of_getElem? hx)
    cases x with
    | cells l os =>
      obtain ⟨cs, e, h1, h2, h3⟩ := this
      refine ⟨cs, e, h1, RepL.takeL l _ hc h2, fun j hj => ?_⟩
      obtain ⟨k, l', y, f1, f2, f3⟩ := h3 j hj
      exact ⟨k, l', y, f1, f2, f3.mono fun b hb => ⟨by simp [Gh.down, hb, hil], rfl, rfl⟩⟩
    | map l => exact this
  hw := G.hw
  own b L h := G.own b L (down_own h)
  glob := G.glob

theorem PureAt.more {P : Program} {env own : List Bx} {ρA : Operand → AV} {o : Oper} {v : AV} (hcl : ∀ x ∈ env ++ own, Bx.cl env.length own.length x) (hop : ∀ x ∈ o.op.operands, (ρA x).cl env.length own.length) (h : PureAt P env own ρA o v) (new : List Bx) :
    PureAt P env (own ++ new) ρA o v := by
  intro ρ w g G hr
  obtain ⟨u, h1, h2⟩ := h ρ w _ (G.down hcl) fun x hx => (hr x hx).take (hop x hx)
  exact ⟨u, h1, h2.mono (HwLe.refl _ _) fun i b hb => by
    have hb : (g.bs.take (env.length + own.length))[i]? = some b := hb
    rw [List.getElem?_take] at hb
    split at hb
    · exact hb
    · cases hb⟩

section
variable {P : Program} {n : Nat} {env own : List Bx}

def YieldM (P : Program) (env own : List Bx) (ρA : Operand → AV) (o : Oper) (v : AV) : Prop := ∀ new, Yield P env (own ++ new) ρA o v
def WildAt (P : Program) (env own : List Bx) (ρA : Operand → AV) (o : Oper) (Out : AV → List Bx → Prop) : Prop :=
  ∀ (a : Act) (w : World) (g : Gh), Good w g (env ++ own) env.length → (∀ x ∈ env, Bx.cl env.length 0 x) → (∀ x, x ∈ o.op.operands → Rep w g.hw g.bs env.length (ρA x) (a.eval x)) →
    ∀ (next : Act → World → Prop) (Q : Exit → Act → World → Prop), (∀ u w' g' v own', Out v own' → Good w' g' (env ++ own') env.length → Ext KeepS w g w' g' → Rep w' g'.hw g'.bs env.length v u → next (a.put o.dst u) w') → o.wp P a w next Q
theorem WildAt.congr {ρA ρA' : Operand → AV} {o : Oper} {Out : AV → List Bx → Prop} (h : WildAt P env own ρA o Out) (he : ∀ x, x ∈ o.op.operands → ρA' x = ρA x) : WildAt P env own ρA' o Out :=
  fun a w g G E hr => h a w g G E fun x hx => by rw [← he x hx]; exact hr x hx

theorem WildAt.call {ρA : Operand → AV} {f : FuncId} {args : Array Operand} {ts : Array TypeId} {dst : Option Tmp} {type : TypeId} {pos : String} {after : Array Edge} {guard : Option (Nat × Bool)} {R : AV → Bool → List Bx → Prop} {Out : AV → List Bx → Prop}
    (hc : Callable P f) (htup : (args.toList.all fun x => !(ρA x).isTup) = true) (hx : XCalls P f ((args.toList.map ρA).map (AV.up env.length)) ((env ++ own).map (Bx.up env.length)) R)
    (hR : (∀ x ∈ env, Bx.cl env.length 0 x) → (∀ x ∈ env ++ own, Bx.cl env.length own.length x) → ∀ r ow env', R r ow env' → ∃ v new, r = AV.up env.length v ∧ env' = (env ++ (own ++ new)).map (Bx.up env.length) ∧ v.cl env.length (own ++ new).length ∧ (∀ x ∈ env ++ (own ++ new), Bx.cl env.length (own ++ new).length x) ∧ Out v (own ++ new)) :
    WildAt P env own ρA ⟨dst, .call ⟨.value (.func f), args, ts⟩, type, pos, after, guard⟩ Out := by
  intro a w g G E hr next Q hn
  have hA := argsRepF (ρA := ρA) (a := a) args.toList (fun x hx => hr x (by simp [Op.operands, Call.operands]; exact .inr (by simpa using hx))) htup
  have hrun : (execOp a.eval ⟨dst, .call ⟨.value (.func f), args, ts⟩, type, pos, after, guard⟩).run P w = .ok (.enter f (args.toList.map a.eval).toArray) w := by
    have hq : a.eval (.func f) = .func (.func f) #[] #[] := rfl
    simp only [execOp, Sem.run_bind, resolve, hq, Deferred.ofValue, Sem.run_pure, Result.andThen_ok, invoke]
    rw [run_callFunc hc]
    congr 2
    apply Array.toList_inj.1; simp
  unfold Oper.wp
  rw [hrun]
  have hcl : ∀ x ∈ env ++ own, Bx.cl env.length own.length x := by
    intro x hx
    obtain ⟨i, hi', rfl⟩ := List.mem_iff_getElem.1 hx
    have hib : i < g.bs.length := by rw [G.len]; exact hi'
    have := G.box i (env ++ own)[i] g.bs[i] (List.getElem?_eq_getElem hi') (List.getElem?_eq_getElem hib)
    cases hx : (env ++ own)[i] with
    | map l => trivial
    | cells l os =>
      rw [hx] at this
      obtain ⟨cs, e, _, h2, _⟩ := this
      have := RepL.toCl _ _ h2
      rw [G.len] at this
      have e : (env ++ own).length - env.length = own.length := by simp
      rw [e] at this
      exact this
  refine (Good.call (c := ⟨[], [], own, env⟩) (g := g) G hA (R := R) hx 0).mono ?_
  rintro e w' ⟨u, r', ow', env', rfl, hR', hcont⟩
  obtain ⟨v, new, h1, h2, h3, h4, h5⟩ := hR E hcl r' ow' env' hR'
  have hlen : (env ++ (own ++ new)).length - env.length = (own ++ new).length := by simp
  obtain ⟨g', k1, k2, k3, _⟩ := hcont v (env ++ (own ++ new)) h1 h2 (by rw [show (Cfg.base ⟨[], [], own, env⟩) = env.length from rfl, hlen]; exact h3) (by rw [show (Cfg.base ⟨[], [], own, env⟩) = env.length from rfl, hlen]; exact h4)
  exact hn u w' g' v (own ++ new) h5 k1 k2 k3

def SeqM (P : Program) (n : Nat) (env own : List Bx) (ops : List Oper) : List Nat → FS → (FS → Prop) → Prop
  | [], F, K => K F
  | i :: r, F, K => ∃ o v, ops[i]? = some o ∧ okF n ops o = true ∧ ((wantF ops F o = some true ∧ YieldM P env own (evF F) o v) ∨ (wantF ops F o = some false ∧ v = .v undef)) ∧ SeqM P n env own ops r (updO F o.dst v) K

variable {ops : Array Oper}

theorem YieldM.congr {ρA ρA' : Operand → AV} {o : Oper} {v : AV} (h : YieldM P env own ρA o v) (he : ∀ x, x ∈ o.op.operands → ρA' x = ρA x) : YieldM P env own ρA' o v := fun new => (h new).congr he

theorem SeqM.first {j : Nat} {oj : Oper} (hj : ops[j]? = some oj) : ∀ (r1 r2 : List Nat) (F : FS) (K : FS → Prop), (∀ i ∈ r1, ∀ oi, ops[i]? = some oi → oi.apart ops oj = true) → SeqM P n env own ops.toList (r1 ++ j :: r2) F K →
    ∃ v, okF n ops.toList oj = true ∧ ((wantF ops.toList F oj = some true ∧ YieldM P env own (evF F) oj v) ∨ (wantF ops.toList F oj = some false ∧ v = .v undef)) ∧ SeqM P n env own ops.toList (r1 ++ r2) (updO F oj.dst v) K
  | [], r2, F, K, _, h => by
    simp only [List.nil_append, SeqM] at h
    obtain ⟨o, v, h1, h2, h3, h4⟩ := h
    have : o = oj := by
      have : ops.toList[j]? = some oj := by simpa using hj
      rw [this] at h1; cases h1; rfl
    subst this
    exact ⟨v, h2, h3, h4⟩
  | i :: r1, r2, F, K, hap, h => by
    simp only [List.cons_append, SeqM] at h
    obtain ⟨oi, vi, h1, h2, h3, h4⟩ := h
    have hoi : ops[i]? = some oi := by simpa using h1
    obtain ⟨p1, p2, p3⟩ := Oper.apart_spec (hap i (by simp) oi hoi)
    obtain ⟨v, k1, k2, k3⟩ := SeqM.first hj r1 r2 _ K (fun i hi => hap i (by simp [hi])) h4
    refine ⟨v, k1, ?_, ?_⟩
    · rw [wantF_upd p1] at k2
      refine k2.imp (fun ⟨q1, q2⟩ => ⟨q1, q2.congr fun x hx => ?_⟩) id
      refine (evF_upd fun t ht e => ?_).symm
      subst e
      exact p1 t ht (looks_mem hx)
    · simp only [List.cons_append, SeqM]
      refine ⟨oi, vi, h1, h2, ?_, ?_⟩
      · rw [wantF_upd p3]
        refine h3.imp (fun ⟨q1, q2⟩ => ⟨q1, q2.congr fun x hx => ?_⟩) id
        refine evF_upd fun t ht e => ?_
        subst e
        exact p3 t ht (looks_mem hx)
      · rw [← updO_comm p2]; exact k3

def Apart3 (ops : Array Oper) (x y : Oper) : Prop :=
  (∀ d, x.dst = some d → d ∉ y.looksAt ops) ∧ (∀ d, x.dst = some d → y.dst ≠ some d) ∧ (∀ d, y.dst = some d → d ∉ x.looksAt ops)
theorem Apart3.symm {ops : Array Oper} {x y : Oper} (h : Apart3 ops x y) : Apart3 ops y x := ⟨h.2.2, fun d e e' => h.2.1 d e' e, h.1⟩

/-- What makes boxes, in whatever order it goes. -/
def HA (P : Program) (n : Nat) (env : List Bx) (ops : Array Oper) (pre : List Bx) (K : List Bx → FS → Prop) : Nat → List Nat → List Bx → FS → Prop
  | 0, _, own, F => K own F
  | k + 1, W, own, F => ∀ w ∈ W, (∀ u ∈ W, u ∉ befN ops.toList ops.size w) → ∃ o Out, ops[w]? = some o ∧ okF n ops.toList o = true ∧ o.guard = none ∧ WildAt P env own (evF F) o Out ∧
      ∀ v own', Out v own' → (∃ rest, own' = pre ++ rest) ∧ HA P n env ops pre K k (W.erase w) own' (updO F o.dst v)

/-- What makes boxes goes ahead of what is left. -/
theorem SeqM.wild {o : Oper} {w k : Nat} {W : List Nat} {pre : List Bx} {K : List Bx → FS → Prop} (ho : ops[w]? = some o) (hw : w ∈ W) (hready : ∀ u ∈ W, u ∉ befN ops.toList ops.size w) : ∀ (R : List Nat) (F : FS), (∀ i ∈ R, ∀ oi, ops[i]? = some oi → Apart3 ops oi o) →
    SeqM P n env pre ops.toList R F (HA P n env ops pre K (k + 1) W own) →
    ∃ Out, okF n ops.toList o = true ∧ o.guard = none ∧ WildAt P env own (evF F) o Out ∧ ∀ v own', Out v own' → (∃ rest, own' = pre ++ rest) ∧ SeqM P n env pre ops.toList R (updO F o.dst v) (HA P n env ops pre K k (W.erase w) own')
  | [], F, _, h => by
    obtain ⟨o', Out, h1, h2, h3, h4, h5⟩ := h w hw hready
    rw [ho] at h1
    cases h1
    exact ⟨Out, h2, h3, h4, h5⟩
  | i :: R, F, hap, h => by
    simp only [SeqM] at h
    obtain ⟨oi, vi, h1, h2, h3, h4⟩ := h
    have hoi : ops[i]? = some oi := by simpa using h1
    obtain ⟨p1, p2, p3⟩ := hap i (by simp) oi hoi
    obtain ⟨Out, g1, g2, k1, k2⟩ := SeqM.wild ho hw hready R _ (fun i hi => hap i (by simp [hi])) h4
    refine ⟨Out, g1, g2, k1.congr fun x hx => (evF_upd fun t ht e => by subst e; exact p1 t ht (looks_mem hx)).symm, fun v own' hO => ⟨(k2 v own' hO).1, ?_⟩⟩
    simp only [SeqM]
    refine ⟨oi, vi, h1, h2, ?_, ?_⟩
    · rw [wantF_upd p3]
      refine h3.imp (fun ⟨q1, q2⟩ => ⟨q1, fun rest => ?_⟩) id
      refine (q2 rest).congr fun x hx => ?_
      refine evF_upd fun t ht e => ?_
      subst e
      exact p3 t ht (looks_mem hx)
    · rw [← updO_comm p2]; exact (k2 v own' hO).2
end

section
variable {P : Program} {n : Nat} {W0 : World} {G0 : Gh} {ops : Array Oper} {Q : Exit → Act → World → Prop}

theorem InvF.stepN {F : FS} {os : List Nat} {own env own' : List Bx} {a : Act} {w : World} {g : Gh} (hi : InvF n W0 G0 F os own env a w g) {d : Option Nat} (hd : ∀ t, d = some t → t < n ∧ t ∉ os) {v : AV} {u : Value} {w' : World} {g' : Gh} (G : Good w' g' (env ++ own') env.length) (E : Ext KeepS w g w' g') (hr : Rep w' g'.hw g'.bs env.length v u) :
    InvF n W0 G0 (updO F d v) os own' env (a.put d u) w' g' := by
  have hE := hi.ext.trans (E.weaken (by rintro L rfl; intro i j; simp))
  have hos : ∀ i ∈ os, ∃ k l, F i = .sl k l ∧ OwnAt w' g' (.slot i) k (a.tmps.getD i undef) := fun i hm => by
    obtain ⟨k, l, h1, h2⟩ := hi.os i hm
    exact ⟨k, l, h1, h2.mono fun b hb => E.ext b _ hb (by intro i j; simp)⟩
  cases d with
  | none => exact ⟨hi.size, hi.defers, fun i h => (hi.fr i h).mono E.hw E.bs, hos, G, hE, hi.ecl, hi.b0⟩
  | some d =>
    obtain ⟨hd1, hd2⟩ := hd d rfl
    refine ⟨by simpa [Act.put] using hi.size, hi.defers, fun i h => ?_, fun i hm => ?_, G, hE, hi.ecl, hi.b0⟩
    · rw [getD_put (by rw [hi.size]; exact hd1)]
      simp only [updO, upd]
      by_cases e : i = d
      · subst e; simpa using hr
      · rw [if_neg e, if_neg (Ne.symm e)]; exact (hi.fr i h).mono E.hw E.bs
    · have hne : i ≠ d := fun e => hd2 (e ▸ hm)
      rw [getD_put (by rw [hi.size]; exact hd1), if_neg (Ne.symm hne)]
      simp only [updO, upd, if_neg hne]
      exact hos i hm


theorem any_of_wilds {M : Nat} (hB : drawB ops.toList M = true) (hM : M ≤ ops.size) {os : List Nat} {env pre : List Bx} {K : List Bx → FS → Prop}
    (hdst : ∀ j o, j < M → ops[j]? = some o → ∀ t, o.dst = some t → t ∉ os)
    (hsuf : ∀ own F a w g, K own F → InvF n W0 G0 F os own env a w g → wpOps P ops Q (List.range' M (ops.size - M)) a w) :
    ∀ (N : Nat) (R W : List Nat) (listed : Array Bool) (own : List Bx) (F : FS) (a : Act) (w : World) (g : Gh), R.length + W.length = N → listed.size = ops.size → Closed ops listed →
      (∀ i, i < M → (listed.getD i true = false ↔ i ∈ R ∨ i ∈ W)) → R.Pairwise (· < ·) → W.Nodup → (∀ i ∈ R, i < M ∧ i ∉ W) → (∀ i ∈ W, i < M) → (∀ i ∈ R, ∀ w ∈ W, w ∉ befN ops.toList ops.size i) →
      (∀ j, M ≤ j → j < ops.size → listed.getD j true = false) → (∃ rest, own = pre ++ rest) → SeqM P n env pre ops.toList R F (HA P n env ops pre K W.length W own) → InvF n W0 G0 F os own env a w g →
      wpAny P .any ops Q (N + (ops.size - M)) listed a w := by
  intro N
  induction N with
  | zero =>
    intro R W listed own F a w g hN hsz hc hRW hsort hnd hR hW hdep hs hpre hseq hi
    have hR0 : R = [] := List.eq_nil_of_length_eq_zero (by omega)
    have hW0 : W = [] := List.eq_nil_of_length_eq_zero (by omega)
    subst hR0 hW0
    simp only [SeqM, List.length_nil, HA] at hseq
    have : listed = upTo ops.size M := by
      apply Array.ext
      · rw [hsz, upTo_size]
      · intro i h1 h2
        have hi' : i < ops.size := by rw [← hsz]; exact h1
        have e1 : listed.getD i true = listed[i] := by rw [Array.getD_eq_getD_getElem?, Array.getElem?_eq_getElem h1]; rfl
        have e2 : (upTo ops.size M).getD i true = (upTo ops.size M)[i] := by rw [Array.getD_eq_getD_getElem?, Array.getElem?_eq_getElem h2]; rfl
        rw [← e1, ← e2, upTo_get hi']
        rcases Nat.lt_or_ge i M with h | h
        · have := hRW i h
          simp only [List.not_mem_nil, or_self, iff_false, Bool.not_eq_false] at this
          simp [h, this]
        · rw [hs i h hi']; simp; omega
    subst this
    rw [Nat.zero_add]
    exact any_of_ops hB _ M a w (Nat.le_refl _) (by omega) (hsuf own F a w g hseq hi)
  | succ N ih =>
    intro R W listed own F a w g hN hsz hc hRW hsort hnd hR hW hdep hs hpre hseq hi
    have edge : ∀ (o : Oper) (j : Nat), ops[j]? = some o → ∀ e ∈ o.after, Region.binds .any e = true → e.on < ops.size := fun o j ho e he hb => Nat.lt_trans ((drawB_spec hB ho).1 e he hb) (Array.getElem?_eq_some_iff.1 ho).1
    have get2 : ∀ i, i < ops.size → listed.getD i true = listed.getD i false := fun i hi => by
      have hil : i < listed.size := by omega
      rw [Array.getD_eq_getD_getElem?, Array.getD_eq_getD_getElem?, Array.getElem?_eq_getElem hil]; rfl
    -- the least that is left is ready
    have hsome : ∃ i0, i0 < M ∧ listed.getD i0 true = false ∧ ∀ i, i < i0 → listed.getD i true = true := by
      have hex : ∃ i, i < M ∧ listed.getD i true = false := by
        cases R with
        | cons i R => exact ⟨i, (hR i (by simp)).1, (hRW i (hR i (by simp)).1).2 (.inl (by simp))⟩
        | nil =>
          cases W with
          | cons i W => exact ⟨i, hW i (by simp), (hRW i (hW i (by simp))).2 (.inr (by simp))⟩
          | nil => simp at hN
      have find : ∀ (m : Nat) (i : Nat), i < m → i < M → listed.getD i true = false → ∃ i0, i0 < M ∧ listed.getD i0 true = false ∧ ∀ q, q < i0 → listed.getD q true = true := by
        intro m
        induction m with
        | zero => intro i h; omega
        | succ m im =>
          intro i him hiM hif
          by_cases hall : ∀ q, q < i → listed.getD q true = true
          · exact ⟨i, hiM, hif, hall⟩
          · have : ∃ q, q < i ∧ listed.getD q true = false := by
              refine Classical.byContradiction fun hno => hall fun q hq => ?_
              cases h : listed.getD q true with
              | true => rfl
              | false => exact absurd ⟨q, hq, h⟩ hno
            obtain ⟨q, hq, hqf⟩ := this
            exact im q (by omega) (by omega) hqf
      obtain ⟨i, h1, h2⟩ := hex
      exact find (i + 1) i (by omega) h1 h2
    obtain ⟨i0, q1, q2, q3⟩ := hsome
    have hready0 : i0 ∈ Region.ready .any ops listed := by
      have hi0l : i0 < ops.size := by omega
      exact mem_ready.2 ⟨q2, _, Array.getElem?_eq_getElem hi0l, fun e he hb => by
        have hlt := (drawB_spec hB (Array.getElem?_eq_getElem hi0l)).1 e he hb
        rw [← get2 _ (by omega)]; exact q3 _ hlt⟩
    rw [show N + 1 + (ops.size - M) = (N + (ops.size - M)) + 1 from by omega]
    refine ⟨(fun h0 => by rw [h0] at hready0; cases hready0), fun j hj => ?_⟩
    obtain ⟨hjun, oj, hoj, hall⟩ := mem_ready.1 hj
    have hjl := (Array.getElem?_eq_some_iff.1 hoj).1
    have hbr := bef_ready hc hsz hj (fun o ho => edge o j ho)
    have hjM : j < M := by
      rcases Nat.lt_or_ge j M with h | h
      · exact h
      · rcases (drawB_spec hB hoj).2 i0 (by omega) with h' | ⟨h', _⟩
        · have := hbr _ _ h'
          rw [← get2 _ (by omega), q2] at this; cases this
        · omega
    have apartBelow : ∀ i, i < j → listed.getD i true = false → ∀ oi, ops[i]? = some oi → oi.apart ops oj = true := by
      intro i hlt hif oi hoi
      rcases (drawB_spec hB hoj).2 i hlt with h | ⟨_, h⟩
      · have := hbr _ _ h
        rw [← get2 _ (by omega), hif] at this; cases this
      · exact h oi hoi
    have unl : ∀ i, i < M → i ≠ j → ((listed.setIfInBounds j true).getD i true = false ↔ listed.getD i true = false) := fun i _ hij => by
      rw [getD_set_ne true (Ne.symm hij)]
    have unlj : (listed.setIfInBounds j true).getD j true = true := by
      have hil : j < listed.size := by omega
      simp [Array.getD_eq_getD_getElem?, hil]
    rcases (hRW j hjM).1 hjun with hjR | hjW
    · obtain ⟨r1, r2, hsplit⟩ := List.append_of_mem hjR
      have hap : ∀ i ∈ r1, ∀ oi, ops[i]? = some oi → oi.apart ops oj = true := by
        intro i hi1 oi hoi
        have hiR : i ∈ R := by rw [hsplit]; simp [hi1]
        have hlt : i < j := by
          rw [hsplit, List.pairwise_append] at hsort
          exact hsort.2.2 i hi1 j (by simp)
        exact apartBelow i hlt ((hRW i (hR i hiR).1).2 (.inl hiR)) oi hoi
      have hseq' := hseq
      rw [hsplit] at hseq'
      obtain ⟨v, k1, k2, k3⟩ := SeqM.first hoj r1 r2 F _ hap hseq'
      have hndR : R.Nodup := hsort.imp (fun h => Nat.ne_of_lt h)
      have hj12 : j ∉ r1 ++ r2 := by
        rw [hsplit, List.nodup_append] at hndR
        obtain ⟨n1, n2, n3⟩ := hndR
        rw [List.nodup_cons] at n2
        intro hm
        rcases List.mem_append.1 hm with h | h
        · exact n3 j h j (by simp) rfl
        · exact n2.1 h
      have hmem : ∀ i, i ∈ R ↔ i = j ∨ i ∈ r1 ++ r2 := fun i => by rw [hsplit]; simp; grind
      refine hi.op hoj k1 (fun t ht => hdst j oj hjM hoj t ht) (k2.imp (fun ⟨q1, q2⟩ => ⟨q1, by obtain ⟨rest, rfl⟩ := hpre; exact q2 rest⟩) id) fun a' w' g' hi' => ?_
      refine ih (r1 ++ r2) W (listed.setIfInBounds j true) own _ a' w' g' ?_ (by simpa using hsz) (closed_set hB hc hsz hj) (fun i him => ?_) ?_ hnd (fun i hi => hR i ((hmem i).2 (.inr hi))) hW (fun i hi => hdep i ((hmem i).2 (.inr hi))) (fun q hq hql => ?_) hpre k3 hi'
      · rw [hsplit] at hN; simp at hN ⊢; omega
      · by_cases hij : i = j
        · subst hij
          rw [unlj]
          simp only [Bool.true_eq_false, false_iff, not_or]
          exact ⟨hj12, (hR i hjR).2⟩
        · rw [unl i him hij, hRW i him, hmem i]; simp [hij]
      · rw [hsplit] at hsort
        exact hsort.sublist (List.Sublist.append (List.Sublist.refl _) (List.sublist_cons_self ..))
      · rw [getD_set_ne true (by omega)]; exact hs q hq hql
    · have hlenW : W.length = (W.length - 1) + 1 := by have := List.length_pos_of_mem hjW; omega
      have hap : ∀ i ∈ R, ∀ oi, ops[i]? = some oi → Apart3 ops oi oj := by
        intro i hiR oi hoi
        have hif := (hRW i (hR i hiR).1).2 (.inl hiR)
        rcases Nat.lt_trichotomy i j with h | rfl | h
        · exact Oper.apart_spec (apartBelow i h hif oi hoi)
        · exact absurd hjW (hR i hiR).2
        · rcases (drawB_spec hB hoi).2 j h with h' | ⟨_, h'⟩
          · exact absurd h' (hdep i hiR j hjW)
          · exact Apart3.symm (Oper.apart_spec (h' oj hoj))
      have hready : ∀ u ∈ W, u ∉ befN ops.toList ops.size j := fun u hu h => by
        have := hbr _ _ h
        rw [← get2 _ (by have := hW u hu; omega), (hRW u (hW u hu)).2 (.inr hu)] at this; cases this
      rw [hlenW] at hseq
      obtain ⟨Out, hok, hg, k1, k2⟩ := SeqM.wild hoj hjW hready R F hap hseq
      unfold wpOp
      simp only [hoj]
      have hopo : opsOk n oj = true := by simp only [okF, Bool.and_eq_true] at hok; exact hok.1
      rw [if_pos (by unfold Region.wanted; rw [hg])]
      refine .inl (k1 a w g hi.good hi.ecl (fun x hx => hi.eval (opsOk_mem hopo hx)) _ _ fun u w' g' v own' hO q1 q2 q3 => ?_)
      have hi' := hi.stepN (d := oj.dst) (fun t e => ⟨opsOk_dst hopo t e, hdst j oj hjM hoj t e⟩) q1 q2 q3
      have hlenE : (W.erase j).length = W.length - 1 := List.length_erase_of_mem hjW
      refine ih R (W.erase j) (listed.setIfInBounds j true) own' _ _ w' g' (by omega) (by simpa using hsz) (closed_set hB hc hsz hj) (fun i him => ?_) hsort (hnd.erase j) (fun i hi => ⟨(hR i hi).1, fun h => (hR i hi).2 (List.mem_of_mem_erase h)⟩) (fun i hi => hW i (List.mem_of_mem_erase hi)) (fun i hi u hu => hdep i hi u (List.mem_of_mem_erase hu)) (fun q hq hql => ?_) (k2 v own' hO).1 (by rw [hlenE]; exact (k2 v own' hO).2) hi'
      · by_cases hij : i = j
        · subst hij
          rw [unlj]
          simp only [Bool.true_eq_false, false_iff, not_or]
          exact ⟨fun h => (hR i h).2 hjW, fun h => by rw [hnd.mem_erase_iff] at h; exact h.1 rfl⟩
        · rw [unl i him hij, hRW i him, List.mem_erase_of_ne hij]
      · rw [getD_set_ne true (by omega)]; exact hs q hq hql

/-- A new box. -/
theorem goodBox {w : World} {g : Gh} {env own : List Bx} (G : Good w g (env ++ own) env.length) {l : List AV} {cs : Array Value} {e : TypeId} (hr : RepL w g.hw g.bs env.length l cs.toList) :
    ∃ g', Good (push w (.cells cs e)) g' (env ++ (own ++ [.cells l []])) env.length ∧ Ext KeepS w g (push w (.cells cs e)) g' ∧ g'.bs[env.length + own.length]? = some w.heap.size := by
  obtain ⟨G1, E1⟩ := G.push (.cells cs e) none none (by simp) (by simp)
  have hlen : g.bs.length = env.length + own.length := by rw [G.len]; simp
  have hnew : w.heap.size ∉ g.bs := fun h => Nat.lt_irrefl _ (G.box_lt h)
  have hB : ∀ (i b : Nat), g.bs[i]? = some b → (g.bs ++ [w.heap.size])[i]? = some b := fun i b h => by
    rw [List.getElem?_append_left (List.getElem?_eq_some_iff.1 h).1]; exact h
  let g1 : Gh := { g with hw := upd g.hw w.heap.size none, own := upd g.own w.heap.size none }
  let g' : Gh := { g1 with bs := g.bs ++ [w.heap.size] }
  have E : Ext KeepS w g (push w (.cells cs e)) g' := ⟨E1.size, rfl, rfl, rfl, E1.hw, E1.ext, hB, fun b hb => by
      rcases List.mem_append.1 hb with h | h
      · exact .inl h
      · simp at h; exact .inr (by omega), E1.orig, E1.old⟩
  refine ⟨g', ?_, E, by simp only [g']; rw [← hlen]; simp⟩
  refine ⟨by simp [g', hlen]; omega, ?_, fun b hb => ?_, fun i x b hx hb => ?_, G1.hw, G1.own, G1.glob⟩
  · refine List.nodup_append.2 ⟨G.nd, by simp, ?_⟩
    intro x hx y hy hxy
    simp at hy; subst hy; subst hxy; exact hnew hx
  · rcases List.mem_append.1 hb with h | h
    · exact G1.nohw b h
    · simp at h; subst h; exact upd_same _ _ _
  · rw [← List.append_assoc] at hx
    rcases Nat.lt_or_ge i (env ++ own).length with h | h
    · rw [List.getElem?_append_left h] at hx
      have hb' : g.bs[i]? = some b := by
        simp only [g'] at hb
        rwa [List.getElem?_append_left (by rw [G.len]; exact h)] at hb
      exact RepB.mono (g := g1) (g' := g') (HwLe.refl _ _) hB rfl (fun j b e => ⟨e, rfl, rfl⟩) (G1.box i x b hx hb')
    · rw [List.getElem?_append_right h] at hx
      have hi0 : i - (env ++ own).length = 0 := by
        rcases Nat.eq_zero_or_pos (i - (env ++ own).length) with h | h
        · exact h
        · rw [List.getElem?_eq_none (by exact h)] at hx; cases hx
      rw [hi0] at hx
      simp at hx; subst hx
      have : i = g.bs.length := by rw [G.len]; exact Nat.le_antisymm (by omega) h
      simp only [g'] at hb
      rw [this] at hb
      simp at hb; subst hb
      exact ⟨cs, e, heap_push_new, RepL.mono E.hw hB l _ hr, fun j hj => by cases hj⟩

theorem WildAt.alloc {env own : List Bx} {ρA : Operand → AV} {d : Nat} {e : TypeId} {i : TypeInfo} {z : Value} {type : TypeId} {pos : String} {after : Array Edge} {guard : Option (Nat × Bool)} (hi0 : P.info? e = some i) (hz : i.zero = some z) (hok : okTmp n (.const z) = true) (hx : leavesOk (cst z) = true) :
    WildAt P env own ρA ⟨some d, .alloc e, type, pos, after, guard⟩ fun v own' => v = .bp own.length 0 ∧ own' = own ++ [.cells (cst z).leaves []] := by
  intro a w g G E hr next Q hn
  obtain ⟨hc, _⟩ := rep_cells (leavesOk_or hx) (cst_rep (hw := g.hw) (bs := g.bs) (base := env.length) (w := w) z hok)
  obtain ⟨g', h1, h2, h3⟩ := goodBox G (e := e) hc
  unfold Oper.wp
  have hrun : (execOp a.eval ⟨some d, .alloc e, type, pos, after, guard⟩).run P w = .ok (.value (.pointer (some ⟨w.heap.size, 0, none⟩))) (push w (.cells z.cells e)) := by
    simp [execOp, Instr.alloc, zeroValue, typeInfo, hi0, hz, newVar, newRow, push]
  rw [hrun]
  exact hn _ _ g' _ _ ⟨rfl, rfl⟩ h1 h2 (rep_bp_mk h3)

theorem WildAt.steady {env own : List Bx} {ρA : Operand → AV} {o : Oper} {v : AV} (h : Yield P env own ρA o v) : WildAt P env own ρA o fun v' own' => v' = v ∧ own' = own := by
  intro a w g G E hr next Q hn
  refine h a w g G E hr next Q fun u w' g' q1 q2 q3 => ?_
  exact hn u w' g' v own ⟨rfl, rfl⟩ q1 q2 q3

theorem WildAt.store {c : Cfg} {t : TypeId} {p x : Operand} {i off : Nat} {l : List AV} {os : List Nat} {dst : Option Tmp} {type : TypeId} {pos : String} {after : Array Edge} {guard : Option (Nat × Bool)}
    (hp : evA c p = .bp i off) (hbox : c.own[i]? = some (.cells l os)) (ht : (P.underlying t).isSome = true) (hx : leavesOk (evA c x) = true) (hsz : (evA c x).leaves.length = P.cellsOf t) (hfit : off + (evA c x).leaves.length ≤ l.length) :
    WildAt P c.env c.own (evA c) ⟨dst, .store t p x, type, pos, after, guard⟩ fun v own' => v = .v undef ∧ own' = c.own.set i (.cells (wrL l off (evA c x).leaves) (os.filter fun j => decide (j < off ∨ off + (evA c x).leaves.length ≤ j))) := by
  intro a w g G E hr next Q hn
  obtain ⟨b, hb, ep⟩ := rep_bp (hp ▸ hr p (by simp [Op.operands]))
  have hbox' : (c.env ++ c.own)[c.env.length + i]? = some (.cells l os) := by rw [List.getElem?_append_right (by omega)]; simpa using hbox
  obtain ⟨cs, e, hheap, hrl, hos⟩ := G.box _ _ b hbox' hb
  obtain ⟨hc, hcs⟩ := rep_cells (leavesOk_or hx) (hr x (by simp [Op.operands]))
  have hlen := RepL.length hrl
  simp only [Array.length_toList] at hlen
  have hrun := run_storeVar (P := P) (w := w) (off := off) ht (by rw [hcs]; exact hsz) hheap (by rw [hcs, hlen]; exact hfit) (oneCells hc)
  have W := oneBlk_setRow (cs' := (wrL cs.toList off (a.eval x).cells.toList).toArray) hheap
  have hL : (a.eval x).cells.toList.length = (evA c x).leaves.length := by simpa using hcs
  obtain ⟨G', E'⟩ := G.write (x' := .cells (wrL l off (evA c x).leaves) (os.filter fun j => decide (j < off ∨ off + (evA c x).leaves.length ≤ j))) hbox' hb W fun hH hO => by
    refine ⟨_, e, W.blk, ?_, fun j hj => ?_⟩
    · have h1 := RepL.mono hH (fun _ _ h => h) _ _ hrl
      have h2 := RepL.mono hH (fun _ _ h => h) _ _ hc
      rw [show (wrL cs.toList off (a.eval x).cells.toList).toArray.toList = cs.toList.take off ++ (a.eval x).cells.toList ++ cs.toList.drop (off + (evA c x).leaves.length) from by simp only [wrL, hL]]
      exact ((h1.take off).append h2).append (h1.drop (off + (evA c x).leaves.length))
    · have hj' := List.mem_filter.1 hj
      have hjr : j < off ∨ off + (evA c x).leaves.length ≤ j := by simpa using hj'.2
      obtain ⟨k, l', v, e1, e2, e3⟩ := hos j hj'.1
      refine ⟨k, l', v, by rw [wrL_get hfit hjr]; exact e1, ?_, e3.mono fun b' e => hO _ b' e⟩
      rw [List.getElem?_toArray, wrL_get (by rw [hL]; simpa [hlen] using hfit) (by rw [hL]; exact hjr)]
      simpa using e2
  rw [List.set_append_right _ _ (by omega), show c.env.length + i - c.env.length = i from by omega] at G'
  unfold Oper.wp
  have hrun' : (execOp a.eval ⟨dst, .store t p x, type, pos, after, guard⟩).run P w = .ok .skip (w.setRow b (wrL cs.toList off (a.eval x).cells.toList).toArray) := by
    simp only [wrL] at *
    simp [execOp, Instr.storeAt, ep, Instr.sureAddr, hrun]
  rw [hrun']
  exact hn _ _ g _ _ ⟨rfl, rfl⟩ G' E' (rep_v_mk rfl)


def cl2 (m : Nat) (x : AV) : Bool :=
  match x with
  | .bp i _ => Nat.blt i m
  | .mo i => Nat.blt i m
  | .bs i _ _ _ _ => Nat.blt i m
  | x => pf1 x
theorem cl_of2 {base m : Nat} {x : AV} (h : cl2 m x = true) : x.cl base m := by
  unfold cl2 at h
  split at h
  · simp only [AV.cl]; rw [← Nat.blt_eq]; exact h
  · simp only [AV.cl]; rw [← Nat.blt_eq]; exact h
  · simp only [AV.cl]; rw [← Nat.blt_eq]; exact h
  · exact cl_pf _ (pf_of1 h)

def steadyM (P : Program) (c : Cfg) (o : Oper) (K : AV → Prop) : Prop :=
  match o.op with
  | .call cl => (match cl.callee with
    | .value (.func f) => bif (cl.args.toList.all fun x => !(evA c x).isTup) && pf1L (cl.args.toList.map (evA c)) then ∃ r ow, XPure P f (cl.args.toList.map (evA c)) r ow ∧ K r else False
    | _ => bif o.op.operands.toList.all fun x => cl2 c.own.length (evA c x) then pureA P c.env c.own (evA c) o K else False)
  | _ => bif o.op.operands.toList.all fun x => cl2 c.own.length (evA c x) then pureA P c.env c.own (evA c) o K else False

theorem steadyM_sound {c : Cfg} {o : Oper} {K : AV → Prop} (hcl : ∀ x ∈ c.env ++ c.own, Bx.cl c.env.length c.own.length x) (h : steadyM P c o K) : ∃ v, YieldM P c.env c.own (evA c) o v ∧ K v := by
  have pure : (bif o.op.operands.toList.all fun x => cl2 c.own.length (evA c x) then pureA P c.env c.own (evA c) o K else False) → ∃ v, YieldM P c.env c.own (evA c) o v ∧ K v := by
    intro h
    cases hb : (o.op.operands.toList.all fun x => cl2 c.own.length (evA c x)) with
    | false => rw [hb] at h; exact h.elim
    | true =>
      rw [hb] at h
      obtain ⟨v, h1, h2⟩ := pureA_sound h
      exact ⟨v, fun new => Yield.pure (h2.more hcl (fun x hx => cl_of2 (List.all_eq_true.1 hb x (by simpa using hx))) new), h1⟩
  obtain ⟨dst, op, type, pos, after, guard⟩ := o
  unfold steadyM at h
  split at h
  · rename_i cl hop
    simp only at hop
    subst hop
    split at h
    · rename_i f hc
      obtain ⟨callee, args, ts⟩ := cl
      simp only at hc
      subst hc
      cases hb : ((args.toList.all fun x => !(evA c x).isTup) && pf1L (args.toList.map (evA c))) with
      | false => rw [hb] at h; exact h.elim
      | true =>
        rw [hb] at h
        simp only [Bool.and_eq_true] at hb
        obtain ⟨r, ow, h1, h2⟩ := h
        exact ⟨r, fun new => Yield.call hb.1 (pfL_of1 hb.2) h1, h2⟩
    · exact pure h
  · exact pure h

def preM (P : Program) (n : Nat) (ops : List Oper) : List Nat → Cfg → (Cfg → Prop) → Prop
  | [], c, K => K c
  | i :: r, c, K => match ops[i]? with
    | some o => bif okF n ops o then guardA n ops c o (steadyM P c o fun v => normA (c.put o.dst v) fun c' => preM P n ops r c' K) (normA (c.put o.dst (.v undef)) fun c' => preM P n ops r c' K) else False
    | none => False

theorem preM_seq {ops : List Oper} {K : Cfg → Prop} : ∀ (l : List Nat) (c : Cfg), (∀ x ∈ c.env ++ c.own, Bx.cl c.env.length c.own.length x) → preM P n ops l c K →
    SeqM P n c.env c.own ops l (Fr.get c.fr) fun F => ∃ c', Fr.get c'.fr = F ∧ c'.own = c.own ∧ c'.env = c.env ∧ K c'
  | [], c, _, h => ⟨c, rfl, rfl, rfl, h⟩
  | i :: l, c, hcl, h => by
    unfold preM at h
    split at h
    · rename_i o h0
      simp only [normA_iff] at h
      cases ho : okF n ops o with
      | false => rw [ho] at h; exact h.elim
      | true =>
        rw [ho] at h
        simp only [cond_true] at h
        simp only [SeqM]
        rcases guard_wantF h with ⟨hw, h⟩ | ⟨hw, h⟩
        · obtain ⟨v, hv, h⟩ := steadyM_sound hcl h
          have ih := preM_seq l (c.put o.dst v) (by rw [(put_own c o.dst v).1, (put_own c o.dst v).2]; exact hcl) h
          rw [(put_own c o.dst v).1, (put_own c o.dst v).2, get_put] at ih
          exact ⟨o, v, h0, ho, .inl ⟨hw, by rw [evF_get]; exact hv⟩, ih⟩
        · have ih := preM_seq l (c.put o.dst (.v undef)) (by rw [(put_own c o.dst _).1, (put_own c o.dst _).2]; exact hcl) h
          rw [(put_own c o.dst _).1, (put_own c o.dst _).2, get_put] at ih
          exact ⟨o, _, h0, ho, .inr ⟨hw, rfl⟩, ih⟩
    · exact h.elim

theorem buildFold_one {c : Cfg} {fs : Array Field} : ∀ (ps : List (Nat × Operand)) (l : List AV) (K : List AV → Prop), buildFold P c fs ps l K → ∃ l', K l' ∧ buildFold P c fs ps l (· = l')
  | [], l, K, h => ⟨l, h, rfl⟩
  | (i, x) :: ps, l, K, h => by
    simp only [buildFold] at h ⊢
    split at h
    · rename_i f hf
      cases hc : (leavesOk (evA c x) && !(evA c x).isTup && Nat.beq (evA c x).leaves.length (P.cellsOf f.type) && Nat.ble (f.offset + P.cellsOf f.type) l.length) with
      | false => rw [hc] at h; exact h.elim
      | true =>
        rw [hc] at h
        exact buildFold_one ps _ K h
    · exact h.elim

theorem buildFold_rep {c : Cfg} {fs : Array Field} {ρ : Operand → Value} {w : World} {g : Gh} : ∀ (ps : List (Nat × Operand)) (l : List AV) (cells : Array Value) (K : List AV → Prop),
    (∀ p ∈ ps, Rep w g.hw g.bs c.env.length (evA c p.2) (ρ p.2)) → RepL w g.hw g.bs c.env.length l cells.toList → buildFold P c fs ps l K →
    ∃ l' cells', K l' ∧ Instr.fill ((fs.map fun f => (f.offset, P.cellsOf f.type))[·]?) cells (ps.map fun p => (p.1, ρ p.2)) = some cells' ∧ RepL w g.hw g.bs c.env.length l' cells'.toList
  | [], l, cells, K, _, hr, h => ⟨l, cells, h, by simp [Instr.fill], hr⟩
  | (i, x) :: ps, l, cells, K, hok, hr, h => by
    simp only [buildFold] at h
    split at h
    · rename_i f hf
      cases hc : (leavesOk (evA c x) && !(evA c x).isTup && Nat.beq (evA c x).leaves.length (P.cellsOf f.type) && Nat.ble (f.offset + P.cellsOf f.type) l.length) with
      | false => rw [hc] at h; exact h.elim
      | true =>
        rw [hc] at h
        simp only [cond_true] at h
        simp only [Bool.and_eq_true] at hc
        obtain ⟨⟨⟨h1, _⟩, h3⟩, h4⟩ := hc
        have h3' := Nat.eq_of_beq_eq_true h3
        have h4' := Nat.le_of_ble_eq_true h4
        obtain ⟨q1, q2⟩ := rep_cells (leavesOk_or h1) (hok (i, x) (by simp))
        have hlen := RepL.length hr
        obtain ⟨c1, e1, e2⟩ := fill_one (place := ((fs.map fun f => (f.offset, P.cellsOf f.type))[·]?)) (cells := cells) (i := i) (off := f.offset) (size := P.cellsOf f.type) (v := ρ x) (rest := ps.map fun p => (p.1, ρ p.2))
          (by simp [hf]) (by rw [q2, h3']) (by rw [q2, h3']; simp only [Array.length_toList] at hlen; omega)
        have hL : (ρ x).cells.toList.length = (evA c x).leaves.length := by simpa using q2
        obtain ⟨l', cells', k1, k2, k3⟩ := buildFold_rep ps _ c1 K (fun p hp => hok p (by simp [hp])) (by
          rw [e1]
          simp only [wrL]
          rw [hL]
          exact ((hr.take f.offset).append q1).append (hr.drop _)) h
        refine ⟨l', cells', k1, ?_, k3⟩
        simp only [List.map_cons]
        rw [e2]; exact k2
    · exact h.elim

theorem build_pure {c : Cfg} {t : TypeId} {fs : Array Field} {parts : Array (Nat × Operand)} {i : TypeInfo} {z : Value} {dst : Option Tmp} {type : TypeId} {pos : String} {after : Array Edge} {guard : Option (Nat × Bool)} {K : List AV → Prop}
    (ht : P.underlying t = some (.struct fs)) (hfs : (fs.toList.all fun f => (P.underlying f.type).isSome) = true) (hin : P.info? t = some i) (hz : i.zero = some z) (hok : okTmp n (.const z) = true) (hx : leavesOk (cst z) = true)
    (h : buildFold P c fs parts.toList (cst z).leaves K) : ∃ l, K l ∧ PureAt P c.env c.own (evA c) ⟨dst, .build t parts, type, pos, after, guard⟩ (.agg l) := by
  obtain ⟨l', hk, h⟩ := buildFold_one _ _ _ h
  refine ⟨l', hk, fun ρ w g G hρ => ?_⟩
  obtain ⟨hc, _⟩ := rep_cells (leavesOk_or hx) (cst_rep (hw := g.hw) (bs := g.bs) (base := c.env.length) (w := w) z hok)
  obtain ⟨l2, cells', k1, k2, k3⟩ := buildFold_rep parts.toList _ z.cells _ (fun p hp => hρ _ (by
    simp only [Op.operands, List.mem_toArray, List.mem_map]
    exact ⟨p, by simpa using hp, rfl⟩)) hc h
  subst k1
  refine ⟨.agg cells', ?_, rep_agg_mk k3⟩
  have hp := run_places (P := P) fs.toList w hfs
  have hps : (parts.map fun (p : Nat × Operand) => (p.1, ρ p.2)).toList = parts.toList.map fun p => (p.1, ρ p.2) := by simp
  simp only [execOp, Instr.build, Sem.run_bind, zeroValue, typeInfo, run_program, hin, Result.andThen_ok, Sem.run_pure, hz, run_und ht, Array.mapM_eq_mapM_toList, Sem.run_map, hp, hps]
  have hpl : (fs.toList.map fun f => (f.offset, P.cellsOf f.type)).toArray = fs.map fun f => (f.offset, P.cellsOf f.type) := by apply Array.toList_inj.1; simp
  rw [hpl, k2]
  simp

/-- What makes boxes: a call, a new variable; or what hangs on these. -/
def wildS (P : Program) (n : Nat) (ops : List Oper) (o : Option Oper) (p : Nat) (c : Cfg) (K : Option Nat → AV → List Bx → Prop) : Prop :=
  match o with
  | some o => bif okF n ops o && o.guard.isNone then
      (match o.op with
        | .call cl => (match cl.callee with
          | .value (.func f) => bif cl.args.toList.all fun x => !(evA c x).isTup then
              Callable P f ∧ ∃ R, XCalls P f ((cl.args.toList.map (evA c)).map (AV.up c.env.length)) ((c.env ++ c.own).map (Bx.up c.env.length)) R ∧
                ((∀ x ∈ c.env, Bx.cl c.env.length 0 x) → (∀ x ∈ c.env ++ c.own, Bx.cl c.env.length c.own.length x) → ∀ r ow env', R r ow env' → ∃ v new, r = AV.up c.env.length v ∧ env' = (c.env ++ (c.own ++ new)).map (Bx.up c.env.length) ∧ v.cl c.env.length (c.own ++ new).length ∧ (∀ x ∈ c.env ++ (c.own ++ new), Bx.cl c.env.length (c.own ++ new).length x) ∧ K o.dst v (c.own ++ new))
            else False
          | _ => False)
        | .alloc e => (match o.dst, P.info? e with
          | some d, some i => (match i.zero with
            | some z => bif okTmp n (.const z) && leavesOk (cst z) then K (some d) (.bp c.own.length 0) (c.own ++ [.cells (cst z).leaves []]) else False
            | none => False)
          | _, _ => False)
        | .build t parts => (match P.underlying t, P.info? t with
          | some (.struct fs), some i => (match i.zero with
            | some z => bif (fs.toList.all fun f => (P.underlying f.type).isSome) && okTmp n (.const z) && leavesOk (cst z) then buildFold P c fs parts.toList (cst z).leaves fun l => K o.dst (.agg l) c.own else False
            | none => False)
          | _, _ => False)
        | .store t q x => (match evA c q with
          | .bp i off => (match c.own[i]? with
            | some (.cells l os) => bif Nat.ble p i && (P.underlying t).isSome && leavesOk (evA c x) && Nat.beq (evA c x).leaves.length (P.cellsOf t) && Nat.ble (off + (evA c x).leaves.length) l.length then
                K o.dst (.v undef) (c.own.set i (.cells (wrL l off (evA c x).leaves) (os.filter fun j => decide (j < off ∨ off + (evA c x).leaves.length ≤ j)))) else False
            | _ => False)
          | _ => False)
        | _ => steadyA P c o fun v => K o.dst v c.own) else False
  | none => False

theorem wildS_sound {p : Nat} {c : Cfg} {o : Option Oper} {K : Option Nat → AV → List Bx → Prop} (h : wildS P n ops.toList o p c K) : ∃ o' Out, o = some o' ∧ okF n ops.toList o' = true ∧ o'.guard = none ∧ WildAt P c.env c.own (evA c) o' Out ∧ ∀ v own', Out v own' → K o'.dst v own' ∧ ((∃ new, own' = c.own ++ new) ∨ ∃ i x, p ≤ i ∧ own' = c.own.set i x) := by
  unfold wildS at h
  split at h
  · rename_i o
    cases hb : (okF n ops.toList o && o.guard.isNone) with
    | false => rw [hb] at h; exact h.elim
    | true =>
      rw [hb] at h
      simp only [cond_true] at h
      simp only [Bool.and_eq_true] at hb
      have hg : o.guard = none := by
        cases hg : o.guard with
        | none => rfl
        | some _ => rw [hg] at hb; simp at hb
      obtain ⟨dst, op, type, pos, after, guard⟩ := o
      simp only at h
      split at h
      · rename_i cl
        split at h
        · rename_i f hc
          obtain ⟨callee, args, ts⟩ := cl
          simp only at hc
          subst hc
          cases ht : (args.toList.all fun x => !(evA c x).isTup) with
          | false => rw [ht] at h; exact h.elim
          | true =>
            rw [ht] at h
            simp only [cond_true] at h
            obtain ⟨h1, R, h2, h3⟩ := h
            exact ⟨_, _, rfl, hb.1, hg, WildAt.call (Out := fun v own' => K dst v own' ∧ ∃ new, own' = c.own ++ new) h1 ht h2 (fun p q r ow env' hr => by obtain ⟨v, new, k1, k2, k3, k4, k5⟩ := h3 p q r ow env' hr; exact ⟨v, new, k1, k2, k3, k4, k5, new, rfl⟩), fun v own' h => ⟨h.1, .inl h.2⟩⟩
        · exact h.elim
      · rename_i e
        split at h
        · rename_i d i hi
          split at h
          · rename_i z hz
            cases hc : (okTmp n (.const z) && leavesOk (cst z)) with
            | false => rw [hc] at h; exact h.elim
            | true =>
              rw [hc] at h
              simp only [Bool.and_eq_true] at hc
              exact ⟨_, _, rfl, hb.1, hg, WildAt.alloc hi hz hc.1 hc.2, by rintro v own' ⟨rfl, rfl⟩; exact ⟨h, .inl ⟨_, rfl⟩⟩⟩
          · exact h.elim
        · exact h.elim
      · rename_i t parts
        split at h
        · rename_i fs i hu hi
          split at h
          · rename_i z hz
            cases hc : ((fs.toList.all fun f => (P.underlying f.type).isSome) && okTmp n (.const z) && leavesOk (cst z)) with
            | false => rw [hc] at h; exact h.elim
            | true =>
              rw [hc] at h
              simp only [Bool.and_eq_true] at hc
              obtain ⟨l, h1, h2⟩ := build_pure (n := n) (dst := dst) (type := type) (pos := pos) (after := after) (guard := guard) hu hc.1.1 hi hz hc.1.2 hc.2 h
              exact ⟨_, _, rfl, hb.1, hg, WildAt.steady (Yield.pure h2), by rintro v' own' ⟨rfl, rfl⟩; exact ⟨h1, .inl ⟨[], by simp⟩⟩⟩
          · exact h.elim
        · exact h.elim
      · rename_i t q x
        split at h
        · rename_i i off hq
          split at h
          · rename_i l os hbox
            cases hc : (Nat.ble p i && (P.underlying t).isSome && leavesOk (evA c x) && Nat.beq (evA c x).leaves.length (P.cellsOf t) && Nat.ble (off + (evA c x).leaves.length) l.length) with
            | false => rw [hc] at h; exact h.elim
            | true =>
              rw [hc] at h
              simp only [Bool.and_eq_true] at hc
              exact ⟨_, _, rfl, hb.1, hg, WildAt.store hq hbox hc.1.1.1.2 hc.1.1.2 (Nat.eq_of_beq_eq_true hc.1.2) (Nat.le_of_ble_eq_true hc.2), by rintro v own' ⟨rfl, rfl⟩; exact ⟨h, .inr ⟨i, _, Nat.le_of_ble_eq_true hc.1.1.1.1, rfl⟩⟩⟩
          · exact h.elim
        · exact h.elim
      · obtain ⟨v, h1, h2⟩ := steadyA_sound h
        exact ⟨_, _, rfl, hb.1, hg, WildAt.steady h1, by rintro v' own' ⟨rfl, rfl⟩; exact ⟨h2, .inl ⟨[], by simp⟩⟩⟩
  · exact h.elim

def allW (K : Nat → Prop) : List Nat → Prop
  | [] => True
  | w :: r => K w ∧ allW K r
theorem allW_iff {K : Nat → Prop} : ∀ {l : List Nat}, allW K l ↔ ∀ w ∈ l, K w
  | [] => by simp [allW]
  | w :: r => by simp [allW, allW_iff (l := r)]

def wildsA (P : Program) (n : Nat) (ops : List Oper) (p : Nat) (K : Cfg → Prop) : Nat → List Nat → Cfg → Prop
  | 0, _, c => K c
  | k + 1, W, c => allW (fun w => bif W.all fun u => !(befN ops ops.length w).contains u then wildS P n ops ops[w]? p c fun d v own' => normA (({ c with own := own' } : Cfg).put d v) fun c' => wildsA P n ops p K k (W.erase w) c' else True) W

theorem wildsA_sound {pre : List Bx} {K : Cfg → Prop} {env : List Bx} : ∀ (k : Nat) (W : List Nat) (c : Cfg), c.env = env → (∃ rest, c.own = pre ++ rest) → wildsA P n ops.toList pre.length K k W c → HA P n env ops pre (fun own F => ∃ c' : Cfg, Fr.get c'.fr = F ∧ c'.own = own ∧ c'.env = env ∧ K c') k W c.own (Fr.get c.fr)
  | 0, W, c, he, _, h => ⟨c, rfl, rfl, he, h⟩
  | k + 1, W, c, he, hpre, h => by
    intro w hw hready
    have := allW_iff.1 h w hw
    have hb : (W.all fun u => !(befN ops.toList ops.toList.length w).contains u) = true := by
      rw [List.all_eq_true]
      intro u hu
      have := hready u hu
      simpa using this
    rw [hb, cond_true] at this
    obtain ⟨o, Out, h1, h2, h3, h4, h5⟩ := wildS_sound this
    refine ⟨o, Out, by simpa using h1, h2, h3, by rw [← he, evF_get]; exact h4, fun v own' hO => ?_⟩
    obtain ⟨h6, h7⟩ := h5 v own' hO
    have hpre' : ∃ rest, own' = pre ++ rest := by
      obtain ⟨rest, hrest⟩ := hpre
      rcases h7 with ⟨new, rfl⟩ | ⟨i, x, hi, rfl⟩
      · exact ⟨rest ++ new, by rw [hrest, List.append_assoc]⟩
      · exact ⟨rest.set (i - pre.length) x, by rw [hrest, List.set_append_right _ _ hi]⟩
    refine ⟨hpre', ?_⟩
    have h6 := (normA_iff _ _).1 h6
    have ih := wildsA_sound (K := K) (env := env) (pre := pre) k (W.erase w) (({ c with own := own' } : Cfg).put o.dst v) ((put_own _ _ _).2.trans he) (by rw [(put_own _ _ _).1]; exact hpre') h6
    rw [(put_own _ _ _).1, get_put] at ih
    exact ih

def wildB (ops : List Oper) (M : Nat) (W : List Nat) : Bool :=
  drawB ops M && W.all (fun w => Nat.blt w M) && decide W.Nodup && ((List.range M).all fun s => W.contains s || W.all fun w => !(befN ops ops.length s).contains w) && Nat.ble M ops.length

def boxOk (p : Nat) : Bx → Bool
  | .cells l _ => l.all (cl2 p)
  | .map _ => true
theorem boxOk_cl {base p : Nat} {x : Bx} (h : boxOk p x = true) : Bx.cl base p x := by
  cases x with
  | map l => trivial
  | cells l os =>
    simp only [boxOk] at h
    simp only [Bx.cl]
    induction l with
    | nil => trivial
    | cons y l ih =>
      simp only [List.all_cons, Bool.and_eq_true] at h
      simp only [clL]
      exact ⟨cl_of2 h.1, ih h.2⟩

/-- Where the first M operations may go in any order; of these, W make or write boxes (none below p). -/
def drawW (P : Program) (n : Nat) (ops : List Oper) (M p : Nat) (W : List Nat) (c : Cfg) (K : Cfg → Prop) : Prop :=
  bif Nat.beq p c.own.length || ((c.own.take p).all (boxOk p) && Nat.ble p c.own.length) then
    preM P n ops ((List.range M).filter fun i => !W.contains i) { c with os := [], own := c.own.take p } fun c' =>
      wildsA P n ops p (fun c' => opsA P n ops (ops.drop M) { c' with os := c.os.filter fun i => (ops.take M).all fun o => match o.dst with
        | some d => !Nat.beq i d
        | none => true } K) W.length W { c' with own := c.own }
  else False

theorem SeqM.mono {P : Program} {n : Nat} {env own : List Bx} {ops : List Oper} {K K' : FS → Prop} (h : ∀ F, K F → K' F) : ∀ (R : List Nat) (F : FS), SeqM P n env own ops R F K → SeqM P n env own ops R F K'
  | [], F, hh => h F hh
  | i :: R, F, hh => by
    simp only [SeqM] at hh ⊢
    obtain ⟨o, v, q1, q2, q3, q4⟩ := hh
    exact ⟨o, v, q1, q2, q3, SeqM.mono h R _ q4⟩

theorem XW.drawW {id M p : Nat} {W : List Nat} {c : Cfg} {Q : Exit → Cfg → Prop} (hmix : P.follows .mixedOrders = true) (hB : wildB ops.toList M W = true) (h : drawW P n ops.toList M p W c fun c' => Q .normal c') : XW P n (.region id ops true) Q c := ⟨fun W0 G0 a w g hi => by
  unfold wildB at hB
  simp only [Bool.and_eq_true] at hB
  obtain ⟨⟨⟨⟨hB, hWM⟩, hnd⟩, hdep⟩, hMl⟩ := hB
  have hnd : W.Nodup := of_decide_eq_true hnd
  have hWM : ∀ w ∈ W, w < M := fun w hw => by have := List.all_eq_true.1 hWM w hw; rw [← Nat.blt_eq]; exact this
  have hM : M ≤ ops.size := by simpa using Nat.le_of_ble_eq_true hMl
  refine wp_region_any hmix ?_
  have hi1 := hi.drew
  let os' := c.os.filter fun i => (ops.toList.take M).all fun o => match o.dst with
      | some d => !Nat.beq i d
      | none => true
  have hF : InvF n W0 G0 (Fr.get c.fr) os' c.own c.env a w.drew g := ⟨hi1.size, hi1.defers, hi1.fr, fun i hm => hi1.os i (List.mem_filter.1 hm).1, hi1.good, hi1.ext, hi1.ecl, hi1.b0⟩
  have hcl : ∀ x ∈ c.env ++ c.own, Bx.cl c.env.length c.own.length x := by
    intro x hx
    have G := hi1.good
    obtain ⟨i, hi', rfl⟩ := List.mem_iff_getElem.1 hx
    have hib : i < g.bs.length := by rw [G.len]; exact hi'
    have := G.box i (c.env ++ c.own)[i] g.bs[i] (List.getElem?_eq_getElem hi') (List.getElem?_eq_getElem hib)
    cases hx : (c.env ++ c.own)[i] with
    | map l => trivial
    | cells l os =>
      rw [hx] at this
      obtain ⟨cs, e, _, h2, _⟩ := this
      have := RepL.toCl _ _ h2
      rw [G.len] at this
      have e : c.mem.length - c.base = c.own.length := by simp [Cfg.mem, Cfg.base]
      rw [e] at this
      exact this
  unfold Ev.drawW at h
  cases hbx : (Nat.beq p c.own.length || ((c.own.take p).all (boxOk p) && Nat.ble p c.own.length)) with
  | false => rw [hbx] at h; exact h.elim
  | true =>
  rw [hbx] at h
  simp only [cond_true] at h
  have hpl : (c.own.take p).length = p := by
    simp only [Bool.or_eq_true, Bool.and_eq_true] at hbx
    rcases hbx with hbx | ⟨_, hbx⟩
    · have := Nat.eq_of_beq_eq_true hbx; rw [List.length_take]; omega
    · have := Nat.le_of_ble_eq_true hbx; rw [List.length_take]; omega
  have hclp : ∀ x ∈ c.env ++ c.own.take p, Bx.cl c.env.length (c.own.take p).length x := by
    intro x hx
    simp only [Bool.or_eq_true, Bool.and_eq_true] at hbx
    rcases hbx with hbx | ⟨hbx, _⟩
    · have := Nat.eq_of_beq_eq_true hbx
      rw [this, List.take_length] at hx ⊢
      exact hcl x hx
    · rcases List.mem_append.1 hx with hx | hx
      · have h0 := hi1.ecl x hx
        cases x with
        | map l => trivial
        | cells l os =>
          simp only [Bx.cl, Cfg.base] at h0 ⊢
          have gen : ∀ (l : List AV) (m : Nat), clL c.env.length 0 l → clL c.env.length m l := by
            intro l m
            have gV : ∀ x : AV, x.cl c.env.length 0 → x.cl c.env.length m := by
              intro x
              refine AV.rec (motive_1 := fun x => x.cl c.env.length 0 → x.cl c.env.length m) (motive_2 := fun l => clL c.env.length 0 l → clL c.env.length m l) ?_ ?_ ?_ ?_ ?_ ?_ ?_ ?_ ?_ ?_ ?_ ?_ ?_ ?_ ?_ ?_ ?_ x
              all_goals intros
              all_goals simp only [AV.cl, clL] at *
              all_goals first | trivial | omega | (rename_i h1 h2; exact h1 h2) | grind
            induction l with
            | nil => exact fun h => h
            | cons x l ih => intro h; simp only [clL] at h ⊢; exact ⟨gV x h.1, ih h.2⟩
          exact gen l _ h0
      · rw [hpl]; exact boxOk_cl (List.all_eq_true.1 hbx x hx)
  have hseq := preM_seq (P := P) (n := n) (ops := ops.toList) ((List.range M).filter fun i => !W.contains i) { c with os := [], own := c.own.take p } hclp h
  let K : List Bx → FS → Prop := fun own F => ∃ c' : Cfg, Fr.get c'.fr = F ∧ c'.own = own ∧ c'.env = c.env ∧ opsA P n ops.toList (ops.toList.drop M) { c' with os := os' } fun c' => Q .normal c'
  have hseq2 : SeqM P n c.env (c.own.take p) ops.toList ((List.range M).filter fun i => !W.contains i) (Fr.get c.fr) (HA P n c.env ops (c.own.take p) K W.length W c.own) := by
    refine SeqM.mono (fun F hF' => ?_) _ _ hseq
    obtain ⟨c', rfl, e2, e3, hw⟩ := hF'
    have := wildsA_sound (P := P) (n := n) (ops := ops) (pre := c.own.take p) (env := c.env) W.length W { c' with own := c.own } e3 ⟨c.own.drop p, (List.take_append_drop p c.own).symm⟩ (by rw [hpl]; exact hw)
    exact this
  have hmemS : ∀ i, i ∈ ((List.range M).filter fun i => !W.contains i) ↔ i < M ∧ i ∉ W := fun i => by simp
  have := any_of_wilds (P := P) (n := n) (W0 := W0) (G0 := G0) (ops := ops) (os := os') (env := c.env) (K := K) (Q := fun e a' w' => ∃ c' g', Q e c' ∧ Inv n W0 G0 c' a' w' g') hB hM ?_ ?_ _ _ W (upTo ops.size 0) c.own (Fr.get c.fr) a w.drew g rfl (upTo_size _ _) ?_ (fun i him => ?_) (List.pairwise_lt_range.sublist List.filter_sublist) hnd (fun i hi => (hmemS i).1 hi) hWM (fun i hi u hu => ?_) ?_ ⟨c.own.drop p, (List.take_append_drop p c.own).symm⟩ hseq2 hF
  · have hlen : ((List.range M).filter fun i => !W.contains i).length + W.length = M := by
      have hsub : W.Perm ((List.range M).filter fun i => W.contains i) := by
        rw [List.perm_ext_iff_of_nodup hnd (List.nodup_range.sublist List.filter_sublist)]
        intro i; simp; exact fun h => hWM i h
      have h1 := hsub.length_eq
      have h2 := (List.filter_append_perm (fun i => W.contains i) (List.range M)).length_eq
      simp only [List.length_append, List.length_range] at h2
      omega
    rw [hlen, show M + (ops.size - M) = ops.size from by omega] at this
    have e : upTo ops.size 0 = Array.replicate ops.size false := by
      apply Array.ext
      · simp [upTo]
      · intro i h1 h2; simp [upTo]
    rw [e] at this
    exact this
  · intro j o hj ho t ht hmem
    have := (List.mem_filter.1 hmem).2
    have hjo : o ∈ ops.toList.take M := by
      refine List.mem_of_getElem? (i := j) ?_
      rw [List.getElem?_take, if_pos hj]; simpa using ho
    have := List.all_eq_true.1 this o hjo
    rw [ht] at this
    simp at this
  · rintro own F a' w' g' ⟨c', rfl, e1, e2, hk⟩ hf
    have hI : Inv n W0 G0 { c' with os := os' } a' w' g' := by
      refine ⟨hf.size, hf.defers, ?_, hf.os, ?_, hf.ext, ?_, ?_⟩
      · simpa only [Cfg.base, e2] using hf.fr
      · simpa only [Cfg.mem, Cfg.base, e1, e2] using hf.good
      · simpa only [Cfg.base, e2] using hf.ecl
      · simpa only [Cfg.base, e2] using hf.b0
    have hd := opsA_sound (P := P) (n := n) (ops := ops) (W0 := W0) (G0 := G0) (Q := fun e a' w' => ∃ c' g', Q e c' ∧ Inv n W0 G0 c' a' w' g') (fun c' a' w' g' hk hi' => ⟨c', g', hk, hi'⟩) (ops.toList.drop M) M _ a' w' g' (fun j => by rw [List.getElem?_drop]; simp) hk hI
    rwa [List.length_drop, Array.length_toList] at hd
  · intro j hj hl
    rw [upTo_get hj] at hl; simp at hl
  · rw [upTo_get (by omega)]
    simp only [Nat.not_lt_zero, decide_false, true_iff]
    rw [hmemS]
    by_cases hw : i ∈ W
    · exact .inr hw
    · exact .inl ⟨him, hw⟩
  · have hi1 := (hmemS i).1 hi
    have := List.all_eq_true.1 hdep i (by simpa using hi1.1)
    simp only [Bool.or_eq_true] at this
    rcases this with h | h
    · exact absurd (by simpa using h) hi1.2
    · have := List.all_eq_true.1 h u hu
      simpa using this
  · intro j hj hjl
    rw [upTo_get hjl]; simp⟩
end
end Go.Ev
end
section
/- Written by this session: calls that hand on one new box. Conditions: none beyond those in each statement. -/
namespace Go.Ev
open Go

/-- Of the new boxes one alone is kept. -/
theorem XCalls.only {P : Program} {f : FuncId} {args : List AV} {env : List Bx} {R R' : AV → Bool → List Bx → Prop} (h : XCalls P f args env R)
    (hs : ∀ r ow env', R r ow env' → R' r ow env' ∨ ∃ new i off k n c l, env' = env ++ new ∧ r = .xs (env.length + i) off k n c ∧ new[i]? = some (.cells l []) ∧ pfL l = true ∧ R' (.xs env.length off k n c) false (env ++ [.cells l []])) : XCalls P f args env R' := by
  intro w g vs G hs0 hv
  refine (h w g vs G hs0 hv).mono ?_
  rintro e w' ⟨u, g', r, ow, env', rfl, hR, hle, G', E, hr, how⟩
  rcases hs r ow env' hR with hR' | ⟨new, i, off, k, n, c, l, rfl, rfl, hi, hl, hR'⟩
  · exact ⟨u, g', r, ow, env', rfl, hR', hle, G', E, hr, how⟩
  have hnew : i < new.length := (List.getElem?_eq_some_iff.1 hi).1
  have hbl : g'.bs.length = env.length + new.length := by rw [G'.len]; simp
  have hil : env.length + i < g'.bs.length := by omega
  obtain ⟨bi, hbi⟩ : ∃ bi, g'.bs[env.length + i]? = some bi := ⟨_, List.getElem?_eq_getElem hil⟩
  have hbim : bi ∈ g'.bs := List.mem_of_getElem? hbi
  let g'' : Gh := { bs := g'.bs.take env.length ++ [bi], hw := g'.hw, own := (g'.down env.length).own }
  have hpre : ∀ j b, (g'.bs.take env.length)[j]? = some b → (g'.bs.take env.length ++ [bi])[j]? = some b := fun j b e => by
    rw [List.getElem?_append_left (List.getElem?_eq_some_iff.1 e).1]; exact e
  have hG : Good w' g'' (env ++ [.cells l []]) (env ++ [Bx.cells l []]).length := by
    refine ⟨by simp [g'', hbl], ?_, fun b hb => ?_, fun j x b hx hb => ?_, G'.hw, fun b L e => G'.own b L (down_own e), G'.glob⟩
    · show (g'.bs.take env.length ++ [bi]).Nodup
      rw [List.nodup_append]
      refine ⟨G'.nd.sublist (List.take_sublist _ _), by simp, fun a ha b hb => ?_⟩
      rw [List.mem_singleton] at hb
      subst hb
      rintro rfl
      have nd := G'.nd
      rw [← List.take_append_drop env.length g'.bs] at nd
      exact (List.nodup_append.1 nd).2.2 a ha a (List.mem_of_getElem? (i := i) (by rw [List.getElem?_drop]; exact hbi)) rfl
    · rcases List.mem_append.1 hb with hb | hb
      · exact G'.nohw b (List.mem_of_mem_take hb)
      · rw [List.mem_singleton] at hb; subst hb; exact G'.nohw _ hbim
    · rcases Nat.lt_or_ge j env.length with hj | hj
      · have hb' : g'.bs[j]? = some b := by
          have hb : (g'.bs.take env.length ++ [bi])[j]? = some b := hb
          rw [List.getElem?_append_left (by simp; omega), List.getElem?_take, if_pos hj] at hb; exact hb
        have hx' : env[j]? = some x := by rw [List.getElem?_append_left hj] at hx; exact hx
        have := G'.box j x b (by rw [List.getElem?_append_left hj]; exact hx') hb'
        have hcl := env_cl G x (List.mem_of_getElem? hx')
        cases x with
        | cells l' os =>
          obtain ⟨cs, e, h1, h2, h3⟩ := this
          refine ⟨cs, e, h1, ?_, fun q hq => ?_⟩
          · have q1 := RepL.rebase l' _ hcl h2
            have q2 := RepL.upL' (base' := (env ++ [Bx.cells l []]).length) (by simp only [List.length_take, List.length_append, List.length_cons, List.length_nil, hbl]; omega) (by simp) l' _ q1
            rw [upL_cl l' hcl] at q2
            exact RepL.mono (HwLe.refl _ _) hpre l' _ q2
          · obtain ⟨k, l', y, f1, f2, f3⟩ := h3 q hq
            exact ⟨k, l', y, f1, f2, f3.mono fun b hb => ⟨by simp [g'', Gh.down, hb, hj], rfl, rfl⟩⟩
        | map l' => exact this
      · have hj' : j = env.length := by
          have := (List.getElem?_eq_some_iff.1 hx).1
          simp at this; omega
        subst hj'
        have hx' : x = .cells l [] := by simpa using hx.symm
        have hb' : b = bi := by
          have hb : (g'.bs.take env.length ++ [bi])[env.length]? = some b := hb
          rw [List.getElem?_append_right (by simp; omega)] at hb
          simp [hbl] at hb; exact hb.symm
        subst hx' hb'
        have := G'.box (env.length + i) (.cells l []) b (by rw [List.getElem?_append_right (by omega), Nat.add_sub_cancel_left]; exact hi) hbi
        obtain ⟨cs, e, h1, h2, _⟩ := this
        exact ⟨cs, e, h1, RepL.lift _ _ (RepL.pfL' l _ hl h2), fun q hq => by cases hq⟩
  have hE : Ext (· = .ext) w g w' g'' := by
    refine ⟨E.size, E.tape, E.os, E.output, E.hw, fun b L hb hL => ?_, fun j b hb => ?_, fun b hb => E.bsnew b ?_, fun b hb L e => E.orig b hb L (down_own e), E.old⟩
    · obtain ⟨q1, q2, q3⟩ := E.ext b L hb hL
      subst hL
      exact ⟨by simp [g'', Gh.down, q1], q2, q3⟩
    · have hj : j < env.length := by have := (List.getElem?_eq_some_iff.1 hb).1; rw [G.len] at this; exact this
      refine hpre j b ?_
      rw [List.getElem?_take, if_pos hj]
      exact E.bs j b hb
    · rcases List.mem_append.1 hb with hb | hb
      · exact List.mem_of_mem_take hb
      · rw [List.mem_singleton] at hb; subst hb; exact hbim
  obtain ⟨_, b, hb, k1, k2, k3, ey⟩ := rep_xs hr
  have hbb : b = bi := by rw [hbi] at hb; exact (Option.some.inj hb).symm
  subst hbb
  refine ⟨u, g'', _, false, _, rfl, hR', by simp, hG, hE, ?_, fun h => by cases h⟩
  rw [ey]
  refine rep_mk_leaf rfl rfl ?_
  simp only [RepV]
  refine ⟨by simp, b, ?_, k1, k2, k3, rfl⟩
  show (g'.bs.take env.length ++ [b])[env.length]? = some b
  rw [List.getElem?_append_right (by simp; omega)]
  simp [hbl]

/-- A slice of its own, in one new box. -/
def NewBox (env : List Bx) (k : Nat) (l : List AV) (r : AV) (ow : Bool) (env' : List Bx) : Prop :=
  ow = false ∧ ((r = .v (.slice none 0 0) ∧ l = [] ∧ env' = env) ∨
    ∃ zs c, env' = env ++ [.cells (l.flatMap AV.leaves ++ zs) []] ∧ r = .xs env.length 0 k l.length c ∧ l.length ≤ c ∧ c ≤ 9223372036854775807 ∧ (l.flatMap AV.leaves ++ zs).length = c * k ∧ pfL zs = true)

theorem XCalls.newBox {P : Program} {f : FuncId} {args : List AV} {env : List Bx} {k : Nat} {l : List AV} (he : Els k l) (h : XCalls P f args env fun r ow env' => ow = false ∧ NewSl env k l r env') : XCalls P f args env (NewBox env k l) := by
  refine h.only fun r ow env' hR => ?_
  rcases hR with ⟨ho, h | ⟨new, i, c, zs, h1, h2, h3, h4, h5, h6, h7⟩⟩
  · exact .inl ⟨ho, .inl h⟩
  · exact .inr ⟨new, i, 0, k, l.length, c, _, h1, h2, h5, pfL_append he.pf h7, rfl, .inr ⟨zs, c, rfl, rfl, h3, h4, h6, h7⟩⟩

theorem NewBox.shut {env env' : List Bx} {k : Nat} {l : List AV} {r : AV} {ow : Bool} (hk : 0 < k) (he : Els k l) (h47 : l.length ≤ 140737488355328) (h : NewBox env k l r ow env') : ∃ new, env' = env ++ new ∧ Shut env' env.length r (.sl k l) := by
  obtain ⟨_, h⟩ := h
  refine NewSl.shut hk he h47 ?_
  rcases h with h | ⟨zs, c, rfl, rfl, h3, h4, h6, h7⟩
  · exact .inl h
  · exact .inr ⟨_, 0, c, zs, rfl, rfl, h3, h4, rfl, h6, h7⟩

theorem mapUp_self {base m : Nat} {x : Bx} {l : List AV} (hl : pfL l = true) (hx : x = .cells l []) : Bx.up base x = x ∧ Bx.cl base m x := by
  subst hx
  refine ⟨by simp only [Bx.up, upL_pf _ _ hl], ?_⟩
  have := clL_of_pf (base := base) l hl
  simp only [Bx.cl]
  have gen : ∀ l : List AV, pfL l = true → clL base m l := by
    intro l
    induction l with
    | nil => intro _; trivial
    | cons x l ih => intro h; simp only [pfL, Bool.and_eq_true] at h; simp only [clL]; exact ⟨cl_pf x h.1, ih h.2⟩
  exact gen l hl

theorem clAll_app {base : Nat} {own new : List Bx} {env : List Bx} (he : ∀ x ∈ env, Bx.cl base 0 x) (h : ∀ x ∈ env ++ own, Bx.cl base own.length x) (hn : ∀ x ∈ new, Bx.cl base (own ++ new).length x) : ∀ x ∈ env ++ (own ++ new), Bx.cl base (own ++ new).length x := by
  have up : ∀ (a b : Nat) (x : Bx), a ≤ b → Bx.cl base a x → Bx.cl base b x := by
    have gV : ∀ (a b : Nat), a ≤ b → (∀ x : AV, x.cl base a → x.cl base b) := fun a b hab => by
      intro x
      refine AV.rec (motive_1 := fun x => x.cl base a → x.cl base b) (motive_2 := fun l => clL base a l → clL base b l) ?_ ?_ ?_ ?_ ?_ ?_ ?_ ?_ ?_ ?_ ?_ ?_ ?_ ?_ ?_ ?_ ?_ x
      all_goals intros
      all_goals simp only [AV.cl, clL] at *
      all_goals first | trivial | omega | (rename_i h1 h2; exact h1 h2) | grind
    have gL : ∀ (a b : Nat), a ≤ b → (∀ l : List AV, clL base a l → clL base b l) := fun a b hab l => by
      induction l with
      | nil => exact fun h => h
      | cons x l ih => intro h; simp only [clL] at h ⊢; exact ⟨gV a b hab x h.1, ih h.2⟩
    intro a b x hab h
    cases x with
    | cells l os => exact gL a b hab l h
    | map l => trivial
  intro x hx
  rcases List.mem_append.1 hx with hx | hx
  · exact up 0 _ x (Nat.zero_le _) (he x hx)
  · rcases List.mem_append.1 hx with hx | hx
    · exact up _ _ x (by simp) (h x (List.mem_append_right _ hx))
    · exact hn x hx

theorem wildA_box {P : Program} {c : Cfg} {K : AV → List Bx → Prop} {f : FuncId} {args : List AV} {k : Nat} {l : List AV} (hc : Callable P f) (ha : args.map (AV.up c.env.length) = args) (he : Els k l) (hx : ∀ env, XCalls P f args env (NewBox env k l))
    (h0 : l = [] → K (.v (.slice none 0 0)) [])
    (h1 : ∀ cp zs, l.length ≤ cp → cp ≤ 9223372036854775807 → (l.flatMap AV.leaves ++ zs).length = cp * k → pfL zs = true → K (.bs c.own.length 0 k l.length cp) [.cells (l.flatMap AV.leaves ++ zs) []]) :
    Callable P f ∧ ∃ R, XCalls P f (args.map (AV.up c.env.length)) ((c.env ++ c.own).map (Bx.up c.env.length)) R ∧
      ((∀ x ∈ c.env, Bx.cl c.env.length 0 x) → (∀ x ∈ c.env ++ c.own, Bx.cl c.env.length c.own.length x) → ∀ r ow env', R r ow env' → ∃ v new, r = AV.up c.env.length v ∧ env' = (c.env ++ (c.own ++ new)).map (Bx.up c.env.length) ∧ v.cl c.env.length (c.own ++ new).length ∧ (∀ x ∈ c.env ++ (c.own ++ new), Bx.cl c.env.length (c.own ++ new).length x) ∧ K v new) := by
  refine ⟨hc, _, by rw [ha]; exact hx _, fun hE hA r ow env' hR => ?_⟩
  obtain ⟨rfl, ⟨rfl, e, rfl⟩ | ⟨zs, cp, rfl, rfl, q1, q2, q3, q4⟩⟩ := hR
  · exact ⟨_, [], (up_pf _ _ rfl).symm, by simp, trivial, by simpa using hA, h0 e⟩
  · have hpf := pfL_append he.pf q4
    obtain ⟨m1, m2⟩ := mapUp_self (base := c.env.length) (m := (c.own ++ [Bx.cells (l.flatMap AV.leaves ++ zs) []]).length) hpf rfl
    refine ⟨.bs c.own.length 0 k l.length cp, [.cells (l.flatMap AV.leaves ++ zs) []], ?_, ?_, ?_, clAll_app hE hA (fun x hx => ?_), h1 cp zs q1 q2 q3 q4⟩
    · simp [AV.up, Nat.add_comm]
    · simp only [List.map_append, List.map_cons, List.map_nil, m1, List.append_assoc]
    · simp only [AV.cl]; simp
    · rw [List.mem_singleton] at hx; subst hx; exact m2
end Go.Ev
end
section
/- Written by this session: functions whose result lies in new boxes, which are shut. Conditions: none beyond those in each statement. -/
namespace Go.Ev
open Go

def forceDL (f : AV → (AV → Prop) → Prop) : List AV → (List AV → Prop) → Prop
  | [], K => K []
  | x :: r, K => f x fun x' => forceDL f r fun r' => K (x' :: r')
def forceD : Nat → AV → (AV → Prop) → Prop
  | 0, x, K => forceV x K
  | n + 1, x, K => match x with
    | .agg l => forceDL (forceD n) l fun l' => K (.agg l')
    | .tup l => forceDL (forceD n) l fun l' => K (.tup l')
    | x => forceV x K
theorem forceDL_iff {f : AV → (AV → Prop) → Prop} (hf : ∀ x K, f x K ↔ K x) : ∀ (l : List AV) (K : List AV → Prop), forceDL f l K ↔ K l
  | [], K => Iff.rfl
  | x :: r, K => by simp only [forceDL, hf, forceDL_iff hf r]
theorem forceD_iff : ∀ (n : Nat) (x : AV) (K : AV → Prop), forceD n x K ↔ K x
  | 0, x, K => forceV_iff x K
  | n + 1, x, K => by
    cases x
    case agg l => exact forceDL_iff (forceD_iff n) l _
    case tup l => exact forceDL_iff (forceD_iff n) l _
    all_goals (simp only [forceD]; exact forceV_iff _ K)

mutual
/-- x, the own boxes shut, is y. -/
def ShutQ (own : List Bx) : AV → AV → Prop
  | .bs i off k n _, y => ∃ l os els, own[i]? = some (.cells l os) ∧ y = .sl k els ∧ els.length = n ∧ off + n * k ≤ l.length ∧ n ≤ 140737488355328 ∧ (l.drop off).take (n * k) = els.flatMap AV.leaves ∧ ∀ x ∈ els, x.leaves.length = k ∧ pfL x.leaves = true
  | .v x, y => y = .v x ∨ ∃ k c, 0 < k ∧ x = .slice none 0 c ∧ y = .sl k []
  | .agg l, y => ∃ l', y = .agg l' ∧ ShutQL own l l'
  | .tup l, y => ∃ l', y = .tup l' ∧ ShutQL own l l'
  | .sl k l, y => y = .sl k l
  | .ifc t x, y => y = .ifc t x
  | .top, y => y = .top
  | _, _ => False
def ShutQL (own : List Bx) : List AV → List AV → Prop
  | [], l => l = []
  | x :: xs, l => ∃ y ys, l = y :: ys ∧ ShutQ own x y ∧ ShutQL own xs ys
end

theorem upL_take (base : Nat) (l : List AV) (k : Nat) : upL base (l.take k) = (upL base l).take k := by simp only [upL_eq, List.map_take]
theorem upL_drop (base : Nat) (l : List AV) (k : Nat) : upL base (l.drop k) = (upL base l).drop k := by simp only [upL_eq, List.map_drop]
theorem els_pf {k : Nat} {l : List AV} (h : ∀ x ∈ l, x.leaves.length = k ∧ pfL x.leaves = true) : pfL (l.flatMap AV.leaves) = true := Els.pf (k := k) h

mutual
theorem ShutQ.shut {env own : List Bx} {base : Nat} : ∀ (x y : AV), ShutQ own x y → Shut (env ++ own.map (Bx.up base)) env.length (x.up env.length) y
  | .bs i off k n _, y, h => by
    simp only [ShutQ] at h
    obtain ⟨l, os, els, h1, rfl, h3, h4, h5, h6, h7⟩ := h
    simp only [AV.up, Shut]
    refine ⟨by omega, upL base l, os, els, ?_, rfl, h3, by rw [upL_length]; exact h4, h5, ?_, h7⟩
    · rw [List.getElem?_append_right (by omega), Nat.add_sub_cancel_left, List.getElem?_map, h1]; rfl
    · rw [← upL_drop, ← upL_take, h6, upL_pf _ _ (els_pf h7)]
  | .v x, y, h => by simp only [ShutQ] at h; simp only [AV.up, Shut]; exact h
  | .agg l, y, h => by
    simp only [ShutQ] at h
    obtain ⟨l', rfl, h⟩ := h
    simp only [AV.up, Shut]
    exact ⟨l', rfl, ShutQL.shut l l' h⟩
  | .tup l, y, h => by
    simp only [ShutQ] at h
    obtain ⟨l', rfl, h⟩ := h
    simp only [AV.up, Shut]
    exact ⟨l', rfl, ShutQL.shut l l' h⟩
  | .sl k l, y, h => by simp only [ShutQ] at h; subst h; simp only [AV.up, Shut]; exact ⟨trivial, rfl⟩
  | .ifc t x, y, h => by simp only [ShutQ] at h; subst h; simp only [AV.up, Shut]; exact ⟨trivial, rfl⟩
  | .top, y, h => by simp only [ShutQ] at h; subst h; simp only [AV.up, Shut]; exact ⟨trivial, rfl⟩
  | .bp .., _, h => by simp only [ShutQ] at h
  | .xp .., _, h => by simp only [ShutQ] at h
  | .mo .., _, h => by simp only [ShutQ] at h
  | .mx .., _, h => by simp only [ShutQ] at h
  | .xs .., _, h => by simp only [ShutQ] at h
  | .gv .., _, h => by simp only [ShutQ] at h
  | .ep .., _, h => by simp only [ShutQ] at h
  | .fn .., _, h => by simp only [ShutQ] at h
theorem ShutQL.shut {env own : List Bx} {base : Nat} : ∀ (x y : List AV), ShutQL own x y → ShutL (env ++ own.map (Bx.up base)) env.length (upL env.length x) y
  | [], y, h => by simp only [ShutQL] at h; simp only [upL, ShutL]; exact h
  | x :: xs, y, h => by
    simp only [ShutQL] at h
    obtain ⟨z, zs, rfl, h1, h2⟩ := h
    simp only [upL, ShutL]
    exact ⟨z, zs, rfl, ShutQ.shut x z h1, ShutQL.shut xs zs h2⟩
end

@[irreducible] def ShutI (own : List Bx) (x y : AV) : Prop := ShutQ own x y

/-- At the end of a function whose boxes are shut. -/
def OutS (P : Program) (n : Nat) (rs : List ResultVar) (env : List Bx) (r' : AV) (e : Exit) (c : Cfg) : Prop :=
  (e = .normal ∨ e = .ret) ∧ c.env = env ∧ retB P n rs c fun r _ => forceD 3 r fun r => forceO c.own fun own => ShutI own r r'

theorem partA_mono {P : Program} {t : TypeId} {l : List AV} {off : Nat} {K K' : AV → Prop} (h : ∀ v, K v → K' v) (hr : partA P t l off K) : partA P t l off K' := by
  unfold partA at *
  cases h1 : (P.underlying t).isSome with
  | false => rw [h1] at hr; exact hr.elim
  | true =>
    rw [h1] at hr
    simp only [cond_true] at hr ⊢
    cases h2 : isAggT P t with
    | true => rw [h2] at hr; exact ⟨hr.1, h _ hr.2⟩
    | false =>
      rw [h2] at hr
      simp only [cond_false] at hr ⊢
      split at hr
      · exact h _ hr
      · exact hr.elim
theorem loadA_mono {P : Program} {env own : List Bx} {t : TypeId} {x : AV} {K K' : AV → Prop} (h : ∀ v, K v → K' v) (hr : loadA P env own t x K) : loadA P env own t x K' := by
  unfold loadA at *
  split at hr
  · split at hr
    · exact partA_mono h hr
    · exact hr.elim
  · obtain ⟨l, os, h1, h2⟩ := hr
    exact ⟨l, os, h1, partA_mono h h2⟩
  · exact partA_mono h hr
  · exact hr.elim
theorem retL_mono {P : Program} {n : Nat} {c : Cfg} : ∀ (rs : List ResultVar) {K K' : List AV → Prop}, (∀ l, K l → K' l) → retL P n c rs K → retL P n c rs K'
  | [], K, K', h, hr => h _ hr
  | .tmp t :: r, K, K', h, hr => by
    simp only [retL] at hr ⊢
    cases hb : (Nat.blt t n && !(Fr.get c.fr t).isTup) with
    | false => rw [hb] at hr; exact hr.elim
    | true => rw [hb] at hr; exact retL_mono r (fun l hl => h _ hl) hr
  | .cell a t :: r, K, K', h, hr => by
    simp only [retL] at hr ⊢
    cases hb : Nat.blt a n with
    | false => rw [hb] at hr; exact hr.elim
    | true =>
      rw [hb] at hr
      simp only [cond_true] at hr ⊢
      refine loadA_mono (fun v hv => ?_) hr
      cases hb2 : v.isTup with
      | true => rw [hb2] at hv; exact hv.elim
      | false => rw [hb2] at hv; exact retL_mono r (fun l hl => h _ hl) hv
theorem retB_mono {P : Program} {n : Nat} {rs : List ResultVar} {c : Cfg} {K K' : AV → Bool → Prop} (h : ∀ r ow, K r ow → K' r ow) (hr : retB P n rs c K) : retB P n rs c K' := by
  unfold retB at *
  split at hr
  · rename_i t
    cases hb : Nat.blt t n with
    | false => rw [hb] at hr; exact hr.elim
    | true => rw [hb] at hr; exact h _ _ hr
  · rename_i a t
    cases hb : Nat.blt a n with
    | false => rw [hb] at hr; exact hr.elim
    | true => rw [hb] at hr; exact loadA_mono (fun v hv => h _ _ hv) hr
  · exact retL_mono rs (fun l hl => h _ _ hl) hr

/-- A function whose result lies in new boxes, which are shut. -/
theorem XPure.bodyS {P : Program} {f : FuncId} {fn : Func} {cd : Code} {args : List AV} {r' : AV} (hc : Callable P f) (hf : P.funcs[f]? = some fn) (hb : fn.body = some cd) (ha : args.length ≤ fn.ntmps) (hp : r'.pf = true)
    (h : ∀ env, codeA P fn.ntmps cd (OutS P fn.ntmps fn.results.toList env r') ⟨frOf 0 args, [], [], env⟩) : XPure P f args r' false := by
  refine XPure.shut (R := fun env r _ env' => ∃ new, env' = env ++ new ∧ Shut env' env.length r r') hc hp (fun env => ?_) (fun env r ow env' h => h)
  refine XCalls.introB hf hb ha ((codeA_sound _ _ _ (h env)).mono fun e c' q => ?_)
  obtain ⟨q1, q2, q3⟩ := q
  refine ⟨q1, by rw [q2], retB_mono (fun r ow hr => ?_) q3⟩
  rw [forceD_iff, forceO_iff] at hr
  unfold ShutI at hr
  refine ⟨_, by rw [q2], ?_⟩
  have := hr.shut (env := c'.env) (base := c'.base)
  rw [← q2]
  exact this
end Go.Ev
end
section
/- Written by this session: contracts over memory of functions whose arguments are trees, and back. Conditions: none beyond those in each statement. -/
namespace Go.Ev
open Go Go.RowKit

/-- Of a memory, that alone that is read. -/
def Gh.bare (g : Gh) : Gh := { bs := [], hw := g.hw, own := fun _ => none }
theorem Good.bare {w : World} {g : Gh} {mem : List Bx} {base : Nat} (G : Good w g mem base) : Good w g.bare [] 0 where
  len := rfl
  nd := List.nodup_nil
  nohw b hb := by cases hb
  box i x b hx hb := by simp at hx
  hw := G.hw
  own b L h := by cases h
  glob := G.glob

/-- A contract over memory that hands back plain values. -/
theorem XPure.ofMem {P : Program} {f : FuncId} {args : List AV} {r : AV} {u : Value} (hc : Callable P f) (hp : r.pf = true) (ha : pfL args = true)
    (h : ∀ (w : World) (g : Gh) (vs : List Value), Good w g [] 0 → g.own = (fun _ => none) → RepT w g.hw [] 0 args vs → Calls P f vs.toArray w fun e w' => e = .returned u ∧ Below w.heap.size w w')
    (hr : ∀ (w : World) (hw : Hw) (bs : List Nat) (base : Nat), Rep w hw bs base r u) : XPure P f args r false := by
  refine ⟨hc, hp, fun env w g vs G hs hv => ?_⟩
  refine (h w g.bare vs G.bare rfl (RepT.pf _ _ ha hv)).mono ?_
  rintro e w' ⟨rfl, B⟩
  exact ⟨u, g, r, false, env, rfl, ⟨rfl, rfl, rfl⟩, Nat.le_refl _, G.below B, Ext.below _ G B, hr _ _ _ _, fun h => by cases h⟩

/-- The same, where the value hangs on memory. -/
theorem XPure.ofMemR {P : Program} {f : FuncId} {args : List AV} {r : AV} (hc : Callable P f) (hp : r.pf = true) (ha : pfL args = true)
    (h : ∀ (w : World) (g : Gh) (vs : List Value), Good w g [] 0 → g.own = (fun _ => none) → RepT w g.hw [] 0 args vs → Calls P f vs.toArray w fun e w' => ∃ u, e = .returned u ∧ Below w.heap.size w w' ∧ ∀ (hw : Hw) (bs : List Nat) (base : Nat), Rep w' hw bs base r u) : XPure P f args r false := by
  refine ⟨hc, hp, fun env w g vs G hs hv => ?_⟩
  refine (h w g.bare vs G.bare rfl (RepT.pf _ _ ha hv)).mono ?_
  rintro e w' ⟨u, rfl, B, hr⟩
  exact ⟨u, g, r, false, env, rfl, ⟨rfl, rfl, rfl⟩, Nat.le_refl _, G.below B, Ext.below _ G B, hr _ _ _, fun h => by cases h⟩

/-- A contract over trees as one over memory. -/
theorem XPure.toMem {P : Program} {f : FuncId} {args : List AV} {r : AV} {ow : Bool} (h : XPure P f args r ow) {w : World} {g : Gh} {vs : List Value} (G : Good w g [] 0) (ho : g.own = fun _ => none) (hv : RepT w g.hw [] 0 args vs) :
    Calls P f vs.toArray w fun e w' => ∃ (u : Value) (g' : Gh), e = .returned u ∧ Below w.heap.size w w' ∧ HwLe w g.hw w' g'.hw ∧ Rep w' g'.hw [] 0 r u := by
  have hb : g.bs = [] := List.eq_nil_of_length_eq_zero (by rw [G.len]; rfl)
  refine (h.2.2 [] w g vs G (fun b i => by rw [ho]; simp) (by rw [hb]; exact hv)).mono ?_
  rintro e w' ⟨u, g', r', ow', env', rfl, ⟨rfl, rfl, rfl⟩, _, G', E, hr, _⟩
  refine ⟨u, g', rfl, ⟨E.os, E.tape, E.output, E.size, fun k hk => E.old k hk (by rw [hb]; simp) fun L hL => by rw [ho] at hL; cases hL⟩, E.hw, Rep.pf h.2.1 hr⟩
end Go.Ev
end
section
/- Written by this session: from a contract over trees to what a row asks. Conditions: none beyond those in each statement. -/
namespace Go.Ev
open Go Go.RowKit

/-- All that lies in memory is known. -/
def blockHw (w : World) : Hw := fun b => match w.heap[b]? with
  | some (.cells cs _ _) => some cs.size
  | _ => none

theorem blockHw_cells {w : World} {b : Nat} {cs : Array Value} {e : TypeId} {f : Nat × Nat} (h : w.heap[b]? = some (.cells cs e f)) : blockHw w b = some cs.size := by
  simp [blockHw, h]

/-- Cells that are there are known. -/
theorem Cells.of_there {w : World} {b o : Nat} {vs : List Value} (h0 : vs ≠ []) (h : ∀ j v, vs[j]? = some v → w.cell? ⟨b, o + j, none⟩ = some v) : Cells w (blockHw w) b o vs := by
  have hl : 0 < vs.length := List.length_pos_iff.2 h0
  have hlast := h (vs.length - 1) _ (List.getElem?_eq_getElem (by omega))
  unfold World.cell? at hlast
  simp only [Option.isSome_none, Bool.false_eq_true, if_false] at hlast
  split at hlast
  · rename_i cs e f hheap
    refine ⟨cs.size, blockHw_cells hheap, ?_, h⟩
    have := (Array.getElem?_eq_some_iff.1 hlast).1
    omega
  · cases hlast

theorem XPure.row {P : Program} {f : FuncId} {args : List AV} (h : XPure P f args (.v (.bool true)) false) (w : World) (vs : List Value) (hg : GlobOk w (blockHw w)) (hv : RepT w (blockHw w) [] 0 args vs) :
    Calls P f vs.toArray w fun e w' => e = .returned (.bool true) ∧ Below w.heap.size w w' := by
  let g : Gh := ⟨[], blockHw w, fun _ => none⟩
  have hhw : ∀ b k, g.hw b = some k → ∃ cs e f, w.heap[b]? = some (.cells cs e f) ∧ k ≤ cs.size := fun b k e => by
    have e : blockHw w b = some k := e
    unfold blockHw at e
    split at e
    · rename_i cs et f hh
      cases e
      exact ⟨cs, et, f, hh, Nat.le_refl _⟩
    · cases e
  have G : Good w g [] 0 := ⟨rfl, by simp [g], (fun b hb => by cases hb), (fun i x b hx _ => by simp at hx), hhw, (fun b L e => by cases e), hg⟩
  refine (h.2.2 [] w g vs G (by intro b i e; cases e) hv).mono ?_
  rintro e w' ⟨u, g', r, ow, env', rfl, ⟨rfl, _, rfl⟩, _, _, E, hr, _⟩
  obtain rfl := (rep_v hr).1
  exact ⟨rfl, E.os, E.tape, E.output, E.size, fun k hk => E.old k hk (by simp [g]) (by intro L e; cases e)⟩
end Go.Ev
end
