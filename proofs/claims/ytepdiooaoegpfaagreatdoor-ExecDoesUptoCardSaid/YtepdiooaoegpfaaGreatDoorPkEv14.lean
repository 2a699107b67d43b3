/- Written by programs of this session: laws and contracts that the law's proof stands on, merged into one text. Conditions: none beyond those in each statement. -/
import Derived.Test.YtepdiooaoegpfaaGreatDoorPkEv13
section
/- Written by this session: guards. Conditions: none beyond those in each statement. -/
namespace Go.Ev
open Go

def guardB (c : Cfg) (t : Nat) (want : Bool) : Option Bool :=
  match Fr.get c.fr t with
  | .v (.bool b) => match want with
    | true => some b
    | false => some (!b)
  | .gv b0 (.v (.bool b1)) => match want with
    | true => some (b0 && b1)
    | false => some (b0 && !b1)
  | _ => none

def opens (o : Oper) : Bool :=
  match o.op with
  | .pick _ _ _ => false
  | _ => true

def isFnCall (o : Oper) : Bool :=
  match o.op with
  | .call c => match c.callee with
    | .builtin _ => false
    | _ => true
  | .fieldAddr _ _ _ | .indexAddr _ _ _ | .index _ _ _ | .slice _ _ _ _ _ | .lookup _ _ _ _ => true
  | _ => false
def sameG (a b : Option (Nat × Bool)) : Bool :=
  match a, b with
  | some (i, x), some (j, y) => Nat.beq i j && (x == y)
  | _, _ => false
def chainHas (ops : List Oper) (g : Option (Nat × Bool)) : Nat → Option (Nat × Bool) → Bool
  | 0, _ => false
  | k + 1, cur => sameG cur g || (match cur with
    | some (j, _) => match ops[j]? with
      | some o => chainHas ops g k o.guard
      | none => false
    | none => false)
/-- Is there a call of a function under this guard? -/
def callIn (ops : List Oper) (g : Option (Nat × Bool)) : Bool := ops.any fun o => isFnCall o && chainHas ops g 9 o.guard

def guardV (P : Program) (n : Nat) (ops : List Oper) (c : Cfg) (o : Oper) (K : Cfg → Prop) : Prop :=
  match o.guard, o.dst with
  | some (j, want), some d => (match (ops[j]?).bind (·.dst) with
    | some t => bif Nat.blt t n && opsOk n o && !callIn ops o.guard then (match guardB c t want with
      | some b => ∃ v, openOk b (bif opens o then o.op.operands.toList.map (evA c) else []) ∧ (b = true → pureA P c.env c.own (fun x => bif opens o then openV (evA c x) else evA c x) o fun v' => v' = v) ∧ (v.isLeaf && v.pf) = true ∧ K (c.put (some d) (.gv b v))
      | none => False) else False
    | none => False)
  | _, _ => False

section
variable {P : Program} {n : Nat} {ops : Array Oper} {c : Cfg} {K : Cfg → Prop} {W0 : World} {G0 : Gh} {a : Act} {w : World} {g : Gh} {o : Oper}

theorem guardB_wanted (hi : Inv n W0 G0 c a w g) {j t : Nat} {want b : Bool} (hg : o.guard = some (j, want)) (ht : (ops.toList[j]?).bind (·.dst) = some t) (htn : t < n) (h : guardB c t want = some b) : Region.wanted o (yielded ops a.tmps) = b := by
  have hr := hi.fr t htn
  have hget : a.tmps[t]? = some (a.tmps.getD t undef) := by
    rw [Array.getD_eq_getD_getElem?, Array.getElem?_eq_getElem (by rw [hi.size]; exact htn)]; rfl
  have hy : yielded ops a.tmps j = (match a.tmps[t]? with
      | some (.bool b) => some b
      | _ => none) := by
    unfold yielded
    have : (ops[j]?).bind (·.dst) = some t := by simpa using ht
    rw [this]
    rfl
  unfold Region.wanted
  rw [hg]
  simp only
  rw [hy, hget]
  unfold guardB at h
  split at h
  · rename_i b' hx
    rw [hx] at hr
    obtain ⟨e, _⟩ := rep_v hr
    rw [e]
    cases want <;> (simp only [Option.some.injEq] at h; subst h; cases b' <;> rfl)
  · rename_i b0 b1 hx
    rw [hx] at hr
    obtain ⟨h1, _⟩ := rep_leaf rfl (by simp) (by simp) hr
    simp only [RepV] at h1
    obtain ⟨v, e, q, r⟩ := h1
    simp only [List.cons.injEq, and_true] at e
    cases b0 with
    | false =>
      rw [e, q rfl]
      cases want <;> (simp only [Option.some.injEq] at h; subst h; rfl)
    | true =>
      have := (r rfl).2
      simp only [List.cons.injEq, and_true] at this
      rw [e, this]
      cases want <;> (simp only [Option.some.injEq] at h; subst h; cases b1 <;> rfl)
  · cases h

theorem guardV_sound (hi : Inv n W0 G0 c a w g) (h : guardV P n ops.toList c o K) :
    ∃ c' u, K c' ∧ ((Region.wanted o (yielded ops a.tmps) = true ∧ (execOp a.eval o).run P w = .ok (.value u) w ∧ Inv n W0 G0 c' (a.put o.dst u) w g) ∨ (Region.wanted o (yielded ops a.tmps) = false ∧ Inv n W0 G0 c' (a.put o.dst undef) w g)) := by
  unfold guardV at h
  split at h
  · rename_i j want d hg hd
    split at h
    · rename_i t ht
      cases hb : (Nat.blt t n && opsOk n o && !callIn ops.toList o.guard) with
      | false => rw [hb] at h; exact h.elim
      | true =>
        rw [hb] at h
        simp only [cond_true] at h
        simp only [Bool.and_eq_true] at hb
        replace hb := hb.1
        have htn : t < n := by rw [← Nat.blt_eq]; exact hb.1
        split at h
        · rename_i b hgb
          obtain ⟨v, h1, h2, h3, h4⟩ := h
          simp only [Bool.and_eq_true] at h3
          have hw := guardB_wanted hi hg ht htn hgb
          cases b with
          | true =>
            obtain ⟨u, q1, q2⟩ := gv_step hi hb.2 hd rfl (fun x hx => by
              have hx0 := hi.eval (opsOk_mem hb.2 hx)
              cases hop : opens o with
              | false => simpa using hx0
              | true =>
                rw [hop] at h1
                simp only [cond_true] at h1 ⊢
                exact rep_open hx0 fun b' y e => openOk_mem h1 rfl _ (List.mem_map.2 ⟨x, by simpa using hx, rfl⟩) b' y e) h2 h3.1 h3.2
            exact ⟨_, u, h4, .inl ⟨hw, q1, by rw [hd]; exact q2⟩⟩
          | false => exact ⟨_, undef, h4, .inr ⟨hw, by rw [hd]; exact gv_skip hi (opsOk_dst hb.2 d hd) rfl⟩⟩
        · exact h.elim
    · exact h.elim
  · exact h.elim
end
end Go.Ev
end
section
/- Written by this session: a region in the order of its text, over trees. Conditions: none beyond those in each statement. -/
namespace Go.Ev
open Go

def guardA (n : Nat) (ops : List Oper) (c : Cfg) (o : Oper) (yes no : Prop) : Prop :=
  match o.guard with
  | none => yes
  | some (j, want) => match (ops[j]?).bind (·.dst) with
    | none => no
    | some t => bif Nat.blt t n then (match Fr.get c.fr t with
      | .v (.bool b) => (b = want → yes) ∧ (b ≠ want → no)
      | .v (.tuple _) => no
      | _ => False) else False

def opsA (P : Program) (n : Nat) (ops : List Oper) : List Oper → Cfg → (Cfg → Prop) → Prop
  | [], c, K => K c
  | o :: r, c, K => match o.guard with
    | none => stepA P n ops o c fun c' => normA c' fun c' => opsA P n ops r c' K
    | some _ => guardA n ops c o (stepA P n ops o c fun c' => normA c' fun c' => opsA P n ops r c' K) (bif dstOk n o.dst then normA (c.put o.dst (.v undef)) fun c' => opsA P n ops r c' K else False) ∨ guardV P n ops c o fun c' => normA c' fun c' => opsA P n ops r c' K

section
variable {P : Program} {n : Nat} {ops : Array Oper} {c : Cfg}

theorem guard_wanted {W0 : World} {G0 : Gh} {a : Act} {w : World} {g : Gh} {o : Oper} {yes no : Prop} (hi : Inv n W0 G0 c a w g) (h : guardA n ops.toList c o yes no) :
    (Region.wanted o (yielded ops a.tmps) = true ∧ yes) ∨ (Region.wanted o (yielded ops a.tmps) = false ∧ no) := by
  unfold guardA at h
  unfold Region.wanted
  split at h
  · rename_i hg; rw [hg]; exact .inl ⟨rfl, h⟩
  · rename_i j want hg
    rw [hg]
    simp only
    have hy : ∀ t, (ops.toList[j]?).bind (·.dst) = some t → yielded ops a.tmps j = (match a.tmps[t]? with
      | some (.bool b) => some b
      | _ => none) := by
      intro t ht
      unfold yielded
      have : (ops[j]?).bind (·.dst) = some t := by simpa using ht
      rw [this]
      rfl
    split at h
    · rename_i hd
      refine .inr ⟨?_, h⟩
      have : (ops[j]?).bind (·.dst) = none := by simpa using hd
      unfold yielded
      rw [this]
      rfl
    · rename_i t ht
      cases hb : Nat.blt t n with
      | false => rw [hb] at h; exact h.elim
      | true =>
        rw [hb] at h
        simp only [cond_true] at h
        have htn : t < n := by rw [← Nat.blt_eq]; exact hb
        have hr := hi.fr t htn
        have hget : a.tmps[t]? = some (a.tmps.getD t undef) := by
          rw [Array.getD_eq_getD_getElem?, Array.getElem?_eq_getElem (by rw [hi.size]; exact htn)]; rfl
        rw [hy t ht, hget]
        split at h
        · rename_i b hx
          rw [hx] at hr
          obtain ⟨e, _⟩ := rep_v hr
          rw [e]
          simp only
          by_cases hw : b = want
          · subst hw; exact .inl ⟨by simp, h.1 rfl⟩
          · exact .inr ⟨by simpa using hw, h.2 hw⟩
        · rename_i vs hx
          rw [hx] at hr
          obtain ⟨e, _⟩ := rep_v hr
          rw [e]
          exact .inr ⟨rfl, h⟩
        · exact h.elim

theorem opsA_sound {K : Cfg → Prop} {W0 : World} {G0 : Gh} {Q : Exit → Act → World → Prop} (hQ : ∀ c' a' w' g', K c' → Inv n W0 G0 c' a' w' g' → Q .normal a' w') :
    ∀ (l : List Oper) (i : Nat) (c : Cfg) (a : Act) (w : World) (g : Gh), (∀ j : Nat, l[j]? = ops[i + j]?) → opsA P n ops.toList l c K → Inv n W0 G0 c a w g → wpOps P ops Q (List.range' i l.length) a w
  | [], _, c, a, w, g, _, h, hi => hQ c a w g h hi
  | o :: l, i, c, a, w, g, hl, h, hi => by
    have h0 : ops[i]? = some o := by simpa using (hl 0).symm
    have hl' : ∀ j : Nat, l[j]? = ops[i + 1 + j]? := fun j => by
      have := hl (j + 1)
      simpa [Nat.add_assoc, Nat.add_comm 1 j] using this
    simp only [List.length_cons, List.range'_succ, wpOps, h0]
    simp only [opsA, normA_iff] at h
    have h : guardA n ops.toList c o (stepA P n ops.toList o c fun c' => opsA P n ops.toList l c' K) (bif dstOk n o.dst then opsA P n ops.toList l (c.put o.dst (.v undef)) K else False) ∨ guardV P n ops.toList c o fun c' => opsA P n ops.toList l c' K := by
      cases hg : o.guard with
      | none => rw [hg] at h; exact .inl (by unfold guardA; rw [hg]; exact h)
      | some q => rw [hg] at h; exact h
    rcases h with h | h
    rotate_left
    · obtain ⟨c', u, hk, ⟨hw, q1, q2⟩ | ⟨hw, q2⟩⟩ := guardV_sound hi h
      · rw [if_pos hw]
        refine .inl ?_
        unfold Oper.wp
        rw [q1]
        exact opsA_sound hQ l (i + 1) c' _ w g hl' hk q2
      · rw [if_neg (by rw [hw]; simp)]
        exact opsA_sound hQ l (i + 1) c' _ w g hl' hk q2
    rcases guard_wanted hi h with ⟨hw, h⟩ | ⟨hw, h⟩
    · rw [if_pos hw]
      exact .inl (stepA_sound h W0 G0 a w g hi _ Q fun c' a' w' g' hk hi' => opsA_sound hQ l (i + 1) c' a' w' g' hl' hk hi')
    · rw [if_neg (by rw [hw]; simp)]
      cases hd : dstOk n o.dst with
      | false => rw [hd] at h; exact h.elim
      | true =>
        rw [hd] at h
        exact opsA_sound hQ l (i + 1) _ _ w g hl' h (hi.putO (fun x e => by rw [e] at hd; rw [← Nat.blt_eq]; exact hd) (rep_v_mk rfl))

/-- A region in the order of its text. -/
theorem XW.region {Q : Exit → Cfg → Prop} {id : Nat} (h : opsA P n ops.toList ops.toList c fun c' => Q .normal c') : XW P n (.region id ops false) Q c := ⟨fun W0 G0 a w g hi => by
  refine wp_region ?_
  have := opsA_sound (P := P) (n := n) (ops := ops) (W0 := W0) (G0 := G0) (Q := fun e a' w' => ∃ c' g', Q e c' ∧ Inv n W0 G0 c' a' w' g') (fun c' a' w' g' hk hi' => ⟨c', g', hk, hi'⟩) ops.toList 0 c a w g (by simp) h hi
  rwa [← List.range_eq_range', Array.length_toList] at this⟩

theorem XW.cond {Q : Exit → Cfg → Prop} {x : Operand} {thn els : Code} (hx : okTmp n x = true) (h : match evA c x with
    | .v (.bool b) => (b = true → XW P n thn Q c) ∧ (b = false → XW P n els Q c)
    | _ => False) : XW P n (.cond x thn els) Q c := ⟨fun W0 G0 a w g hi => by
  split at h
  · rename_i b hb
    have hr := hi.eval hx
    rw [hb] at hr
    obtain ⟨e, _⟩ := rep_v hr
    exact wp_cond_split e (fun ht => (h.1 ht).run W0 G0 a w g hi) (fun hf => (h.2 hf).run W0 G0 a w g hi)
  · exact h.elim⟩
end
end Go.Ev
end
section
/- Written by this session: what is to be shown of a body, over trees, as a proposition; and that it is enough. Conditions: none beyond those in each statement. -/
namespace Go.Ev
open Go

def condA (n : Nat) (x : Operand) (c : Cfg) (thn els : Prop) : Prop :=
  bif okTmp n x then (match evA c x with
    | .v (.bool b) => (b = true → thn) ∧ (b = false → els)
    | _ => False) else False

def codeA (P : Program) (n : Nat) : Code → (Exit → Cfg → Prop) → Cfg → Prop
  | .skip, Q, c => Q .normal c
  | .label _, Q, c => Q .normal c
  | .region id ops draw, Q, c => bif draw then XW P n (.region id ops draw) Q c else opsA P n ops.toList ops.toList c fun c' => Q .normal c'
  | .seq x y, Q, c => codeA P n x (Then (fun c' => codeA P n y Q c') Q) c
  | .cond x thn els, Q, c => condA n x c (codeA P n thn Q c) (codeA P n els Q c)
  | .block id x, Q, c => codeA P n x (InBlock id Q) c
  | .exit id, Q, c => Q (.exit id) c
  | .ret, Q, c => Q .ret c
  | .loop x, Q, c => XW P n (.loop x) Q c
  | .rangeFunc f ps x y, Q, c => XW P n (.rangeFunc f ps x y) Q c
  | .scope x, Q, c => XW P n (.scope x) Q c
  | .goto l, Q, c => XW P n (.goto l) Q c
  | .refuse s, Q, c => XW P n (.refuse s) Q c

theorem codeA_sound {P : Program} {n : Nat} : ∀ (cd : Code) (Q : Exit → Cfg → Prop) (c : Cfg), codeA P n cd Q c → XW P n cd Q c
  | .skip, _, _, h => XW.skip h
  | .label _, _, _, h => XW.label h
  | .region id ops draw, Q, c, h => by
    cases draw with
    | true => exact h
    | false => exact XW.region h
  | .seq x y, Q, c, h => by
    refine XW.seq ((codeA_sound x _ c h).mono fun e c' q => ?_)
    cases e with
    | normal => exact codeA_sound y Q c' q
    | _ => exact q
  | .cond x thn els, Q, c, h => by
    simp only [codeA, condA] at h
    cases hx : okTmp n x with
    | false => rw [hx] at h; exact h.elim
    | true =>
      rw [hx] at h
      refine XW.cond hx ?_
      simp only [cond_true] at h
      split at h
      · rename_i b hb
        try rw [hb]
        exact ⟨fun e => codeA_sound thn Q c (h.1 e), fun e => codeA_sound els Q c (h.2 e)⟩
      · exact h.elim
  | .block id x, Q, c, h => XW.block (codeA_sound x _ c h)
  | .exit id, _, _, h => XW.exit h
  | .ret, _, _, h => XW.ret h
  | .loop _, _, _, h => h
  | .rangeFunc .., _, _, h => h
  | .scope _, _, _, h => h
  | .goto _, _, _, h => h
  | .refuse _, _, _, h => h

/-- The contract of a function out of what is to be shown of its body. -/
theorem XCalls.body {P : Program} {f : FuncId} {fn : Func} {cd : Code} {args : List AV} {env : List Bx} {R : AV → Bool → List Bx → Prop} (hf : P.funcs[f]? = some fn) (hb : fn.body = some cd) (ha : args.length ≤ fn.ntmps)
    (h : codeA P fn.ntmps cd (fun e c' => (e = .normal ∨ e = .ret) ∧ c'.env.length = env.length ∧ retA P fn.ntmps fn.results.toList c' (fun r ow => R r ow c'.env)) ⟨frOf 0 args, [], [], env⟩) :
    XCalls P f args env R := XCalls.intro hf hb ha (codeA_sound _ _ _ h)

/-- At the end of a function that hands on its boxes. -/
def OutB (P : Program) (n : Nat) (rs : List ResultVar) (k : Nat) (R : AV → Bool → List Bx → Prop) (e : Exit) (c : Cfg) : Prop :=
  (e = .normal ∨ e = .ret) ∧ c.env.length = k ∧ retB P n rs c fun r ow => R (r.up c.base) ow (c.env ++ c.own.map (Bx.up c.base))

theorem XCalls.bodyB {P : Program} {f : FuncId} {fn : Func} {cd : Code} {args : List AV} {env : List Bx} {R : AV → Bool → List Bx → Prop} (hf : P.funcs[f]? = some fn) (hb : fn.body = some cd) (ha : args.length ≤ fn.ntmps)
    (h : codeA P fn.ntmps cd (OutB P fn.ntmps fn.results.toList env.length R) ⟨frOf 0 args, [], [], env⟩) :
    XCalls P f args env R := XCalls.introB hf hb ha (codeA_sound _ _ _ h)

/-- At the end: what comes back, of a function that leaves boxes alone. -/
def Out (P : Program) (n : Nat) (rs : List ResultVar) (env : List Bx) (r : AV) (ow : Bool) (e : Exit) (c : Cfg) : Prop :=
  (e = .normal ∨ e = .ret) ∧ c.env = env ∧ retA P n rs c fun r' ow' => r' = r ∧ (ow = true → ow' = true)

theorem XPure.body {P : Program} {f : FuncId} {fn : Func} {cd : Code} {args : List AV} {r : AV} {ow : Bool} (hc : Callable P f) (hf : P.funcs[f]? = some fn) (hb : fn.body = some cd) (ha : args.length ≤ fn.ntmps) (hp : r.pf = true)
    (h : ∀ env, codeA P fn.ntmps cd (Out P fn.ntmps fn.results.toList env r ow) ⟨frOf 0 args, [], [], env⟩) : XPure P f args r ow := by
  refine ⟨hc, hp, fun env => ?_⟩
  have h1 := XCalls.intro (R := fun r' ow' env' => r' = r ∧ (ow = true → ow' = true) ∧ env' = env) hf hb ha ((codeA_sound _ _ _ (h env)).mono fun e c' q => by
    obtain ⟨q1, q2, q3⟩ := q
    refine ⟨q1, by rw [q2], ?_⟩
    have e : (fun r' ow' => (r' = r ∧ (ow = true → ow' = true) ∧ c'.env = env)) = (fun r' ow' => r' = r ∧ (ow = true → ow' = true)) := by
      funext r' ow'; simp [q2]
    rw [e]; exact q3)
  intro w g vs G hs hv
  refine (h1 w g vs G hs hv).mono ?_
  rintro e w' ⟨u, g', r', ow', env', k1, ⟨rfl, k2, rfl⟩, k3, k4, k5, k6, k7⟩
  refine ⟨u, g', r', ow, env', k1, ⟨rfl, rfl, rfl⟩, k3, k4, k5, k6, fun h => k7 (k2 h)⟩
end Go.Ev
end
section
/- Written by this session: what may be forgotten of a frame of trees. Conditions: none beyond those in each statement. -/
namespace Go.Ev
open Go

/-- y says no more than x. -/
def Leq (x y : AV) : Prop := y = .top ∨ x = y ∨ (x = .v (.slice none 0 0) ∧ ∃ k, 0 < k ∧ y = .sl k [])

def LeqL (base m : Nat) : List AV → List AV → Prop
  | [], [] => True
  | x :: xs, y :: ys => Leq x y ∧ y.cl base m ∧ LeqL base m xs ys
  | _, _ => False

def FrLeq (base m : Nat) (f : Fr) : Fr → Prop
  | [] => True
  | (i, y) :: r => Leq (Fr.get f i) y ∧ y.cl base m ∧ FrLeq base m f r

def AV.slK : AV → Option (Nat × List AV)
  | .sl k l => some (k, l)
  | _ => none

def OsLeq (n : Nat) (c : Cfg) (f0 : Fr) : List Nat → Prop
  | [] => True
  | i :: r => (i ∈ c.os ∨ (i < n ∧ Fr.get c.fr i = .v (.slice none 0 0))) ∧ (Fr.get f0 i).slK.isSome = true ∧ OsLeq n c f0 r

def OwnLeq (base m : Nat) : List Bx → List Bx → Prop
  | _, [] => True
  | .cells l os :: r, .cells l0 os0 :: r0 => LeqL base m l l0 ∧ (∀ j ∈ os0, (j ∈ os ∨ l[j]? = some (.v (.slice none 0 0))) ∧ (l0[j]?.bind AV.slK).isSome = true) ∧ OwnLeq base m r r0
  | .map l :: r, .map l0 :: r0 => l = l0 ∧ OwnLeq base m r r0
  | _, _ => False

section
variable {w : World} {hw : Hw} {bs : List Nat} {base m : Nat}

theorem nil_slot {L : Loc} {g : Gh} {k : Nat} : OwnAt w g L k (.slice none 0 0) := ⟨_, _, _, rfl, Nat.le_refl _, .inl rfl⟩

theorem Rep.cut {x y : AV} {v : Value} (h : Leq x y) (hc : y.cl base m) (hr : Rep w hw bs base x v) : Rep w hw (bs.take (base + m)) base y v := by
  have main : Rep w hw bs base y v := by
    rcases h with rfl | rfl | ⟨rfl, k, hk, rfl⟩
    · exact .inl rfl
    · exact hr
    · obtain ⟨rfl, _⟩ := rep_v hr
      exact rep_sl_mk rfl (Nat.le_refl _) ⟨hk, by simp⟩ (.inl rfl)
  have one : ∀ {y : AV} {v : Value}, y.cl base m → Rep1 w hw bs base y v → Rep1 w hw (bs.take (base + m)) base y v := fun hc h => h.imp id fun ⟨h1, h2⟩ => ⟨RepV.takeV _ _ hc h1, h2⟩
  cases y with
  | tup l =>
    obtain ⟨vs, e, h⟩ := main
    refine ⟨vs, e, ?_⟩
    simp only [AV.cl] at hc
    have : ∀ (l : List AV) (vs : List Value), clL base m l → RepT w hw bs base l vs → RepT w hw (bs.take (base + m)) base l vs := by
      intro l
      induction l with
      | nil => intro vs _ h; exact h
      | cons x l ih =>
        intro vs hc h
        simp only [RepT, clL] at h hc ⊢
        obtain ⟨v, vs', e, q1, q2⟩ := h
        exact ⟨v, vs', e, one hc.1 q1, ih _ hc.2 q2⟩
    exact this l _ hc h
  | _ => exact one hc main

theorem RepL.cut : ∀ {l l0 : List AV} {vs : List Value}, LeqL base m l l0 → RepL w hw bs base l vs → RepL w hw (bs.take (base + m)) base l0 vs
  | [], [], _, _, h => by simpa only [RepL] using h
  | x :: l, y :: l0, _, hl, h => by
    simp only [LeqL] at hl
    simp only [RepL] at h ⊢
    obtain ⟨v, vs', e, q1, q2⟩ := h
    have hy : RepV w hw bs base y [v] ∧ y.isAgg = false := by
      rcases hl.1 with rfl | rfl | ⟨rfl, k, hk, rfl⟩
      · exact ⟨by simp only [RepV]; exact ⟨v, rfl⟩, rfl⟩
      · exact ⟨q1.1, q1.2.1⟩
      · have h := q1.1
        simp only [RepV] at h
        simp only [List.cons.injEq, and_true] at h
        subst h
        exact ⟨by simp only [RepV]; exact ⟨none, 0, rfl, Nat.le_refl _, ⟨hk, by simp⟩, .inl trivial⟩, rfl⟩
    exact ⟨v, vs', e, ⟨RepV.takeV _ _ hl.2.1 hy.1, hy.2, q1.2.2⟩, RepL.cut hl.2.2 q2⟩
  | [], _ :: _, _, hl, _ => by simp only [LeqL] at hl
  | _ :: _, [], _, hl, _ => by simp only [LeqL] at hl
end

theorem OwnLeq.get {base m : Nat} : ∀ {o o0 : List Bx} {i : Nat} {x0 : Bx}, OwnLeq base m o o0 → o0[i]? = some x0 → ∃ x, o[i]? = some x ∧ OwnLeq base m [x] [x0]
  | o, [], i, x0, _, h => by simp at h
  | .cells l os :: r, .cells l0 os0 :: r0, 0, x0, h, e => by
    simp only [List.getElem?_cons_zero, Option.some.injEq] at e
    subst e
    simp only [OwnLeq] at h
    exact ⟨_, rfl, by simp only [OwnLeq]; exact ⟨h.1, h.2.1, trivial⟩⟩
  | .map l :: r, .map l0 :: r0, 0, x0, h, e => by
    simp only [List.getElem?_cons_zero, Option.some.injEq] at e
    subst e
    simp only [OwnLeq] at h
    exact ⟨_, rfl, by simp only [OwnLeq]; exact ⟨h.1, trivial⟩⟩
  | .cells l os :: r, .cells l0 os0 :: r0, i + 1, x0, h, e => by
    simp only [OwnLeq] at h
    obtain ⟨x, hx, hr⟩ := OwnLeq.get h.2.2 (i := i) (by simpa using e)
    exact ⟨x, by simpa using hx, hr⟩
  | .map l :: r, .map l0 :: r0, i + 1, x0, h, e => by
    simp only [OwnLeq] at h
    obtain ⟨x, hx, hr⟩ := OwnLeq.get h.2 (i := i) (by simpa using e)
    exact ⟨x, by simpa using hx, hr⟩
  | [], .cells _ _ :: _, _, _, h, _ => by simp only [OwnLeq] at h
  | [], .map _ :: _, _, _, h, _ => by simp only [OwnLeq] at h
  | .map _ :: _, .cells _ _ :: _, _, _, h, _ => by simp only [OwnLeq] at h
  | .cells _ _ :: _, .map _ :: _, _, _, h, _ => by simp only [OwnLeq] at h

theorem OwnLeq.len {base m : Nat} : ∀ {o o0 : List Bx}, OwnLeq base m o o0 → o0.length ≤ o.length
  | _, [], _ => Nat.zero_le _
  | .cells l os :: r, .cells l0 os0 :: r0, h => by simp only [OwnLeq] at h; have := OwnLeq.len h.2.2; simp; omega
  | .map l :: r, .map l0 :: r0, h => by simp only [OwnLeq] at h; have := OwnLeq.len h.2; simp; omega
  | [], .cells _ _ :: _, h => by simp only [OwnLeq] at h
  | [], .map _ :: _, h => by simp only [OwnLeq] at h
  | .map _ :: _, .cells _ _ :: _, h => by simp only [OwnLeq] at h
  | .cells _ _ :: _, .map _ :: _, h => by simp only [OwnLeq] at h

mutual
theorem cl_mono {base m m' : Nat} (h : m ≤ m') : ∀ a : AV, a.cl base m → a.cl base m'
  | .top, _ | .v _, _ | .sl _ _, _ | .ep _, _ | .gv _ _, _ | .ifc _ _, _ => by simp only [AV.cl]
  | .bp i _, c => by simp only [AV.cl] at c ⊢; omega
  | .mo i, c => by simp only [AV.cl] at c ⊢; omega
  | .xp i _, c => by simp only [AV.cl] at c ⊢; exact c
  | .mx i, c => by simp only [AV.cl] at c ⊢; exact c
  | .bs .., c => by simp only [AV.cl] at c ⊢; omega
  | .xs .., c => by simp only [AV.cl] at c ⊢; exact c
  | .agg l, c => by simp only [AV.cl] at c ⊢; exact clL_mono h l c
  | .tup l, c => by simp only [AV.cl] at c ⊢; exact clL_mono h l c
  | .fn f a b, c => by simp only [AV.cl] at c ⊢; exact ⟨clL_mono h a c.1, clL_mono h b c.2⟩
theorem clL_mono {base m m' : Nat} (h : m ≤ m') : ∀ l : List AV, clL base m l → clL base m' l
  | [], _ => by simp only [clL]
  | x :: l, c => by simp only [clL] at c ⊢; exact ⟨cl_mono h x c.1, clL_mono h l c.2⟩
end

theorem Weak.of {n : Nat} {c c0 : Cfg} (he : c0.env = c.env) (hf : FrLeq c.base c0.own.length c.fr c0.fr) (ho : OsLeq n c c0.fr c0.os) (hw : OwnLeq c.base c0.own.length c.own c0.own) : Weak n c c0 := by
  intro W0 G0 a w g hi
  have hb : c0.base = c.base := by simp [Cfg.base, he]
  have hlen := OwnLeq.len hw
  have hbl : g.bs.length = c.base + c.own.length := by rw [hi.good.len]; simp [Cfg.mem, Cfg.base]
  have hget : ∀ (i : Nat) (b : Nat), (g.bs.take (c.base + c0.own.length))[i]? = some b → i < c.base + c0.own.length ∧ g.bs[i]? = some b := fun i b h => by
    rw [List.getElem?_take] at h
    split at h
    · exact ⟨by assumption, h⟩
    · cases h
  have hfr : ∀ (f0 : Fr) (i : Nat), FrLeq c.base c0.own.length c.fr f0 → (Fr.get f0 i = .top) ∨ (Leq (Fr.get c.fr i) (Fr.get f0 i) ∧ (Fr.get f0 i).cl c.base c0.own.length) := by
    intro f0
    induction f0 with
    | nil => intro i _; exact .inl rfl
    | cons p f0 ih =>
      intro i h
      obtain ⟨j, y⟩ := p
      simp only [FrLeq] at h
      rw [Fr.get_cons]
      split
      · rename_i e; subst e; exact .inr ⟨h.1, h.2.1⟩
      · exact ih i h.2.2
  let g' : Gh := { g with bs := g.bs.take (c.base + c0.own.length) }
  have hG : Good w g' c0.mem c0.base := by
    refine ⟨by simp [g', Cfg.mem, he, hbl, Cfg.base] at hlen ⊢; omega, hi.good.nd.sublist (List.take_sublist _ _), fun b hb => hi.good.nohw b (List.mem_of_mem_take hb), fun i x b hx hb' => ?_, hi.good.hw, hi.good.own, hi.good.glob⟩
    obtain ⟨hil, hbi⟩ := hget i b hb'
    rw [hb]
    rcases Nat.lt_or_ge i c.base with hi' | hi'
    · have hx' : c.env[i]? = some x := by
        rw [Cfg.mem, List.getElem?_append_left (by rw [he]; exact hi'), he] at hx; exact hx
      have := hi.good.env_box (env := c.env) (own := c.own) hx' hbi
      have hcl := hi.ecl x (List.mem_of_getElem? hx')
      cases x with
      | cells l os =>
        obtain ⟨cs, e, h1, h2, h3⟩ := this
        exact ⟨cs, e, h1, RepL.takeL l _ (clL_mono (Nat.zero_le _) l hcl) h2, fun j hj => by
          obtain ⟨k, l', y, q1, q2, q3⟩ := h3 j hj
          exact ⟨k, l', y, q1, q2, q3.mono fun b hb => ⟨hb, rfl, rfl⟩⟩⟩
      | map l => exact this
    · have hx0 : c0.own[i - c.base]? = some x := by
        rw [Cfg.mem, List.getElem?_append_right (by rw [he]; exact hi'), he] at hx; exact hx
      obtain ⟨y, hy, hle⟩ := OwnLeq.get hw hx0
      have hbi' : g.bs[c.env.length + (i - c.base)]? = some b := by
        have : c.env.length + (i - c.base) = i := by simp only [Cfg.base] at hi' ⊢; omega
        rw [this]; exact hbi
      have := hi.good.own_box (env := c.env) (own := c.own) hy hbi'
      have hidx : c.env.length + (i - c.base) = i := by simp only [Cfg.base] at hi' ⊢; omega
      rw [hidx] at this
      cases x with
      | cells l0 os0 =>
        cases y with
        | map l => simp only [OwnLeq] at hle
        | cells l os =>
          simp only [OwnLeq] at hle
          obtain ⟨cs, e, h1, h2, h3⟩ := this
          refine ⟨cs, e, h1, RepL.cut hle.1 h2, fun j hj => ?_⟩
          obtain ⟨hjo, hjs⟩ := hle.2.1 j hj
          obtain ⟨⟨k0, l0'⟩, hkl⟩ := Option.isSome_iff_exists.1 hjs
          have hkl' : l0[j]? = some (.sl k0 l0') := by
            cases hq : l0[j]? with
            | none => rw [hq] at hkl; cases hkl
            | some q => rw [hq] at hkl; cases q <;> simp [AV.slK] at hkl; obtain ⟨rfl, rfl⟩ := hkl; rfl
          rcases hjo with hjo | hjo
          · obtain ⟨k, l', v, q1, q2, q3⟩ := h3 j hjo
            have hLL : ∀ (l l0 : List AV) (j : Nat) (x y : AV), LeqL c.base c0.own.length l l0 → l[j]? = some x → l0[j]? = some y → Leq x y := by
              intro l
              induction l with
              | nil => intro l0 j x y _ h; simp at h
              | cons a l ih =>
                intro l0 j x y h e1 e2
                cases l0 with
                | nil => simp at e2
                | cons b l0 =>
                  simp only [LeqL] at h
                  cases j with
                  | zero => simp at e1 e2; subst e1 e2; exact h.1
                  | succ j => exact ih l0 j x y h.2.2 (by simpa using e1) (by simpa using e2)
            have hlq := hLL l l0 j _ _ hle.1 q1 hkl'
            rcases hlq with h | h | ⟨h, _⟩
            · cases h
            · cases h
              exact ⟨_, _, v, hkl', q2, q3.mono fun b hb => ⟨hb, rfl, rfl⟩⟩
            · cases h
          · obtain ⟨v, hv, hrv, _⟩ := h2.get hjo
            simp only [RepV, List.cons.injEq, and_true] at hrv
            subst hrv
            exact ⟨k0, l0', _, hkl', by simpa using hv, nil_slot⟩
      | map l0 =>
        cases y with
        | cells l os => simp only [OwnLeq] at hle
        | map l => simp only [OwnLeq] at hle; rw [← hle.1]; exact this
  have hE : Ext (· = .ext) W0 G0 w g' := by
    have E := hi.ext
    refine ⟨E.size, E.tape, E.os, E.output, E.hw, E.ext, fun i b h => ?_, fun b hb => E.bsnew b (List.mem_of_mem_take hb), E.orig, E.old⟩
    have := (List.getElem?_eq_some_iff.1 h).1
    rw [hi.b0] at this
    rw [List.getElem?_take, if_pos (by omega)]
    exact E.bs i b h
  refine ⟨g', ⟨hi.size, hi.defers, fun i hn => ?_, fun i hm => ?_, hG, hE, by rw [he, hb]; exact hi.ecl, by rw [hb]; exact hi.b0⟩⟩
  · rw [hb]
    rcases hfr c0.fr i hf with h | ⟨h1, h2⟩
    · rw [h]; exact .inl rfl
    · exact (hi.fr i hn).cut h1 h2
  · have hos : ∀ (l : List Nat), OsLeq n c c0.fr l → ∀ i ∈ l, (i ∈ c.os ∨ (i < n ∧ Fr.get c.fr i = .v (.slice none 0 0))) ∧ (Fr.get c0.fr i).slK.isSome = true := by
      intro l
      induction l with
      | nil => intro _ i h; cases h
      | cons j l ih =>
        intro h i hi
        simp only [OsLeq] at h
        rcases List.mem_cons.1 hi with rfl | hi
        · exact ⟨h.1, h.2.1⟩
        · exact ih h.2.2 i hi
    obtain ⟨h1, h2⟩ := hos c0.os ho i hm
    obtain ⟨⟨k0, l0⟩, hkl⟩ := Option.isSome_iff_exists.1 h2
    have hkl' : Fr.get c0.fr i = .sl k0 l0 := by
      cases hq : Fr.get c0.fr i <;> rw [hq] at hkl <;> simp [AV.slK] at hkl
      obtain ⟨rfl, rfl⟩ := hkl; rfl
    rcases hfr c0.fr i hf with h | ⟨h3, _⟩
    · rw [h] at hkl'; cases hkl'
    · rw [hkl'] at h3
      rcases h1 with h1 | h1
      · obtain ⟨k, l, e1, e2⟩ := hi.os i h1
        rw [e1] at h3
        rcases h3 with h | h | ⟨h, _⟩
        · cases h
        · cases h
          exact ⟨_, _, hkl', e2.mono fun b hb => ⟨hb, rfl, rfl⟩⟩
        · cases h
      · refine ⟨k0, l0, hkl', ?_⟩
        have hr := hi.fr i h1.1
        rw [h1.2] at hr
        obtain ⟨e, _⟩ := rep_v hr
        rw [e]; exact nil_slot
end Go.Ev
end
