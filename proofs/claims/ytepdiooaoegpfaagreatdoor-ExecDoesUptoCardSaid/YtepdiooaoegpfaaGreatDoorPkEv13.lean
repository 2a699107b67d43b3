/- Written by programs of this session: laws and contracts that the law's proof stands on, merged into one text. Conditions: none beyond those in each statement. -/
import Derived.Test.YtepdiooaoegpfaaGreatDoorPkEv12
section
/- Written by this session: what is to be shown of a region, over trees, as a proposition; and that it is enough. Conditions: none beyond those in each statement. -/
namespace Go.Ev
open Go

def appArg (ops : List Oper) (d : Nat) : Bool :=
  ops.any fun o => match o.op with
    | .call cl => (match cl.callee, cl.args.toList with
      | .builtin .append, .tmp t :: _ => Nat.beq t d
      | _, _ => false)
    | _ => false

def mayGive (ops : List Oper) (o : Oper) (c : Cfg) : Option (Nat × Nat) :=
  match o.op, o.dst with
  | .assign (.tmp s), some d => bif c.os.any (Nat.beq s) then some (s, d) else none
  | .move (.tmp s), some d => bif c.os.any (Nat.beq s) && appArg ops d then some (s, d) else none
  | _, _ => none

def ownSl (c : Cfg) : Operand → Option (Nat × Nat × List AV)
  | .tmp s => bif c.os.any (Nat.beq s) then (match Fr.get c.fr s with
    | .sl k l => some (s, k, l)
    | _ => none) else none
  | _ => none

/-- A slice in a box to which may be appended; and what is left when it is taken. -/
def cellOwn (c : Cfg) (p : Operand) : Option (Nat × List AV × Cfg) :=
  match evA c p with
  | .bp i off => match c.own[i]? with
    | some (.cells l os) => match l[off]? with
      | some (.sl k l') => bif os.any (Nat.beq off) then some (k, l', { c with own := c.own.set i (.cells l (os.filter fun j => !Nat.beq j off)) }) else none
      | _ => none
    | _ => none
  | .xp i off => match c.env[i]? with
    | some (.cells l os) => match l[off]? with
      | some (.sl k l') => bif os.any (Nat.beq off) then some (k, l', { c with env := c.env.set i (.cells l (os.filter fun j => !Nat.beq j off)) }) else none
      | _ => none
    | _ => none
  | _ => none

def storeA (P : Program) (c : Cfg) (t : TypeId) (p x : Operand) (dst : Option Tmp) (K : Cfg → Prop) : Prop :=
  match evA c p with
  | .bp i off => match c.own[i]? with
    | some (.cells l os) => match ownSl c x with
      | some (s, k, l') => bif (P.underlying t).isSome && Nat.beq 1 (P.cellsOf t) && Nat.ble (off + 1) l.length then
          K (({ c with os := c.os.filter (fun i => !Nat.beq i s), own := c.own.set i (.cells (wrL l off [.sl k l']) (off :: os.filter fun j => decide (j < off ∨ off + 1 ≤ j))) } : Cfg).put dst (.v undef)) else False
      | none => bif (P.underlying t).isSome && leavesOk (evA c x) && Nat.beq (evA c x).leaves.length (P.cellsOf t) && Nat.ble (off + (evA c x).leaves.length) l.length then
          K (({ c with own := c.own.set i (.cells (wrL l off (evA c x).leaves) (os.filter fun j => decide (j < off ∨ off + (evA c x).leaves.length ≤ j))) } : Cfg).put dst (.v undef)) else False
    | _ => False
  | .xp i off => match c.env[i]? with
    | some (.cells l os) => match ownSl c x with
      | some (s, k, l') => bif (P.underlying t).isSome && Nat.beq 1 (P.cellsOf t) && Nat.ble (off + 1) l.length then
          K (({ c with os := c.os.filter (fun i => !Nat.beq i s), env := c.env.set i (.cells (wrL l off [.sl k l']) (off :: os.filter fun j => decide (j < off ∨ off + 1 ≤ j))) } : Cfg).put dst (.v undef)) else False
      | none => bif (P.underlying t).isSome && leavesOk (evA c x) && pf1 (evA c x) && Nat.beq (evA c x).leaves.length (P.cellsOf t) && Nat.ble (off + (evA c x).leaves.length) l.length then
          K (({ c with env := c.env.set i (.cells (wrL l off (evA c x).leaves) (os.filter fun j => decide (j < off ∨ off + (evA c x).leaves.length ≤ j))) } : Cfg).put dst (.v undef)) else False
    | _ => False
  | _ => False

def ownOf (c : Cfg) (d : Nat) : Operand → Option Nat
  | .tmp s => bif c.os.any (Nat.beq s) then some s else (match Fr.get c.fr s with
    | .v (.slice none 0 0) => some d
    | _ => none)
  | .const (.slice none 0 0) => some d
  | _ => none

def appendA (P : Program) (c : Cfg) (cl : Call) (dst : Option Tmp) (K : Cfg → Prop) : Prop :=
  match cl.args.toList, cl.argTypes.toList, dst with
  | [x0, x1], [t, t'], some d => match P.underlying t, P.underlying t' with
    | some (.slice e), some (.slice _) => match P.info? e with
      | some i => match i.zero with
        | some z => bif Nat.blt 0 i.size && Nat.beq z.cells.size i.size then
            match asSl i.size (evA c x0), asSl i.size (evA c x1), ownOf c d x0 with
            | some l0, some l1, some s => (l0.length + l1.length) * i.bytes ≤ 140737488355328 ∧ l0.length + l1.length ≤ 140737488355328 ∧ K (({ c with os := c.os.filter fun i => !Nat.beq i s } : Cfg).putOwn d (.sl i.size (l0 ++ l1)))
            | _, _, _ => False
          else False
        | none => False
      | none => False
    | _, _ => False
  | _, _, _ => False

/-- A call that may change boxes, or hand on new ones. -/
@[irreducible] def callG (P : Program) (c : Cfg) (args : List AV) (f : FuncId) (dst : Option Tmp) (K : Cfg → Prop) : Prop :=
  Callable P f ∧ ∃ R, XCalls P f (args.map (AV.up c.base)) (c.env ++ c.own.map (Bx.up c.base)) R ∧ ((∀ x ∈ c.env, Bx.cl c.base 0 x) → (∀ x ∈ c.env ++ c.own, Bx.cl c.base c.own.length x) → ∀ r ow env', R r ow env' →
    ∃ r2 env2 own2, r = AV.up c.base r2 ∧ env' = env2 ++ own2.map (Bx.up c.base) ∧ env2.length = c.env.length ∧ r2.cl c.base own2.length ∧ (∀ x ∈ env2, Bx.cl c.base 0 x) ∧ (∀ x ∈ env2 ++ own2, Bx.cl c.base own2.length x) ∧ K (({ c with env := env2, own := own2 } : Cfg).after dst r2 ow))

/-- A call that leaves all as it is. -/
theorem callG_same {P : Program} {c : Cfg} {args : List AV} {f : FuncId} {dst : Option Tmp} {K : Cfg → Prop} {r0 : AV} (hc : Callable P f) (hp : r0.pf = true)
    (hx : XCalls P f (args.map (AV.up c.base)) (c.env ++ c.own.map (Bx.up c.base)) fun r ow env' => r = r0 ∧ ow = false ∧ env' = c.env ++ c.own.map (Bx.up c.base)) (h : K (c.after dst r0 false)) : callG P c args f dst K := by
  unfold callG
  refine ⟨hc, _, hx, fun h1 h2 r ow env' ⟨e1, e2, e3⟩ => ?_⟩
  subst e1 e2 e3
  exact ⟨r, c.env, c.own, (up_pf _ _ hp).symm, rfl, rfl, cl_pf _ hp, h1, h2, h⟩

def callA (P : Program) (n : Nat) (c : Cfg) (cl : Call) (dst : Option Tmp) (K : Cfg → Prop) : Prop :=
  match targetA P c n cl.callee with
  | some (f, a1, a2) => bif cl.args.toList.all fun x => !(evA c x).isTup then
      (bif pf1L (a1 ++ cl.args.toList.map (evA c) ++ a2) then (∃ r ow, XPure P f (a1 ++ cl.args.toList.map (evA c) ++ a2) r ow ∧ K (c.after dst r ow)) ∨ callG P c (a1 ++ cl.args.toList.map (evA c) ++ a2) f dst K
       else callG P c (a1 ++ cl.args.toList.map (evA c) ++ a2) f dst K)
    else False
  | none => False
def sliceParts : Nat → List (Nat × Operand) → Option (List Operand)
  | _, [] => some []
  | i, (j, x) :: r => bif Nat.beq i j then (sliceParts (i + 1) r).map (x :: ·) else none

/-- Is it handed in to a function? -/
def callArg (ops : List Oper) (d : Nat) : Bool :=
  ops.any fun o => match o.op with
    | .call cl => (match cl.callee with
      | .builtin _ => false
      | _ => cl.args.toList.any fun x => match x with
        | .tmp t => Nat.beq t d
        | _ => false)
    | _ => false

def buildSliceA (P : Program) (ops : List Oper) (c : Cfg) (t : TypeId) (len : Nat) (parts : Array (Nat × Operand)) (dst : Option Tmp) (K : Cfg → Prop) : Prop :=
  match P.underlying t, dst, sliceParts 0 parts.toList with
  | some (.slice e), some d, some xs => match P.info? e with
    | some i => match i.zero with
      | some _ => bif Nat.blt 0 i.size && Nat.beq len xs.length && Nat.ble (len * i.size) 16777216 && xs.all (fun x => leavesOk (evA c x) && !(evA c x).isTup && Nat.beq (evA c x).leaves.length i.size) then
          (bif xs.all (fun x => pf1 (evA c x)) then
            (bif Nat.beq len 0 || callArg ops d then K (c.putOwn d (.sl i.size (xs.map (evA c)))) ∨ K (({ c with own := c.own ++ [.cells ((xs.map (evA c)).flatMap AV.leaves) []] } : Cfg).put (some d) (.bs c.own.length 0 i.size xs.length xs.length))
             else K (c.putOwn d (.sl i.size (xs.map (evA c)))))
           else K (({ c with own := c.own ++ [.cells ((xs.map (evA c)).flatMap AV.leaves) []] } : Cfg).put (some d) (.bs c.own.length 0 i.size xs.length xs.length))) else False
      | none => False
    | none => False
  | _, _, _ => False

def buildA (P : Program) (n : Nat) (c : Cfg) (t : TypeId) (parts : Array (Nat × Operand)) (dst : Option Tmp) (K : Cfg → Prop) : Prop :=
  match P.underlying t, P.info? t with
  | some (.struct fs), some i => match i.zero with
    | some z => bif (fs.toList.all fun f => (P.underlying f.type).isSome) && okTmp n (.const z) && leavesOk (cst z) then buildFold P c fs parts.toList (cst z).leaves fun l => K (c.put dst (.agg l)) else False
    | none => False
  | _, _ => False

def isExt (P : Program) (f : FuncId) : Bool :=
  match P.funcs[f]? with
  | some fn => fn.body.isNone
  | none => false

def stepA (P : Program) (n : Nat) (ops : List Oper) (o : Oper) (c : Cfg) (K : Cfg → Prop) : Prop :=
  bif opsOk n o then
    match mayGive ops o c with
    | some (s, d) => bif Nat.blt s n && Nat.blt d n then K (c.give s d) else False
    | none => match o.op with
      | .box _ x => (match o.dst with
        | some d => bif leavesOk (evA c x) then K (({ c with own := c.own ++ [.cells (evA c x).leaves []] } : Cfg).put (some d) (.bp c.own.length 0)) else False
        | none => False)
      | .alloc e => (match o.dst, P.info? e with
        | some d, some i => (match i.zero with
          | some z => bif okTmp n (.const z) && leavesOk (cst z) then K (({ c with own := c.own ++ [.cells (cst z).leaves []] } : Cfg).put (some d) (.bp c.own.length 0)) else False
          | none => False)
        | _, _ => False)
      | .store t p x => storeA P c t p x o.dst K
      | .binOp op t x y _ => (match op, evA c y with
        | .eql, .v (.slice none _ _) => nilEqA P c .eql t (evA c x) o.dst K
        | .neq, .v (.slice none _ _) => nilEqA P c .neq t (evA c x) o.dst K
        | _, _ => pureA P c.env c.own (evA c) o fun v => K (c.put o.dst v))
      | .makeMap t r => makeMapA P c t r o.dst K
      | .mapUpdate t m k x => mapUpdateA P c t m k x o.dst K
      | .load t p => (match o.dst, cellOwn c p with
        | some d, some (k, l', c') => bif appArg ops d && (P.underlying t).isSome && !isAggT P t then K (c'.putOwn d (.sl k l')) else pureA P c.env c.own (evA c) o fun v => K (c.put o.dst v)
        | _, _ => pureA P c.env c.own (evA c) o fun v => K (c.put o.dst v))
      | .buildSlice t len parts => buildSliceA P ops c t len parts o.dst K
      | .build t parts => buildA P n c t parts o.dst K
      | .call cl => (match cl.callee with
        | .builtin .append => (match cl.argTypes.toList.map P.underlying, cl.args.toList.map (evA c) with
          | [_, some (.int _)], _ => appendZ P n c cl o.dst K
          | _, [.bs .., _] => appendB P n c cl o.dst K
          | _, [.xs .., _] => appendB P n c cl o.dst K
          | _, [_, .bs ..] => appendB P n c cl o.dst K
          | _, [_, .xs ..] => appendB P n c cl o.dst K
          | _, _ => appendA P c cl o.dst K)
        | .builtin .copy => copyA P c cl o.dst K
        | .builtin .clear => clearA P n c cl o.dst K
        | .builtin _ => pureA P c.env c.own (evA c) o fun v => K (c.put o.dst v)
        | .value (.func f) => bif isExt P f then (bif cl.args.toList.all fun x => !(evA c x).isTup then ∃ v, ExtAt P f c.env c.own (cl.args.toList.map (evA c)) v ∧ K (c.put o.dst v) else False) else callA P n c cl o.dst K
        | _ => callA P n c cl o.dst K)
      | _ => pureA P c.env c.own (evA c) o fun v => K (c.put o.dst v)
  else False

section
variable {P : Program} {n : Nat} {ops : List Oper} {o : Oper} {c : Cfg} {K : Cfg → Prop}

theorem mem_os {s : Nat} (h : c.os.any (Nat.beq s) = true) : s ∈ c.os := by
  obtain ⟨x, hx, e⟩ := List.any_eq_true.1 h
  rw [Nat.eq_of_beq_eq_true e]; exact hx

theorem storeA_sound {t : TypeId} {p x : Operand} {dst : Option Tmp} {type : TypeId} {pos : String} {after : Array Edge} {guard : Option (Nat × Bool)} (ho : opsOk n ⟨dst, .store t p x, type, pos, after, guard⟩ = true)
    (h : storeA P c t p x dst K) : XStep P n ⟨dst, .store t p x, type, pos, after, guard⟩ c K := by
  unfold storeA at h
  split at h
  · rename_i i off hp
    split at h
    · rename_i l os hb
      split at h
      · rename_i s k l' hs
        cases hc : ((P.underlying t).isSome && Nat.beq 1 (P.cellsOf t) && Nat.ble (off + 1) l.length) with
        | false => rw [hc] at h; exact h.elim
        | true =>
          rw [hc] at h
          simp only [Bool.and_eq_true] at hc
          cases x with
          | tmp q =>
            simp only [ownSl] at hs
            cases hq : c.os.any (Nat.beq q) with
            | false => rw [hq] at hs; cases hs
            | true =>
              rw [hq] at hs
              simp only [cond_true] at hs
              split at hs
              · rename_i k2 l2 hg
                cases hs
                exact XStep.storeOwn ho hp hb hc.1.1 (mem_os hq) hg (Nat.eq_of_beq_eq_true hc.1.2) (Nat.le_of_ble_eq_true hc.2) h
              · cases hs
          | _ => cases hs
      · cases hc : ((P.underlying t).isSome && leavesOk (evA c x) && Nat.beq (evA c x).leaves.length (P.cellsOf t) && Nat.ble (off + (evA c x).leaves.length) l.length) with
        | false => rw [hc] at h; exact h.elim
        | true =>
          rw [hc] at h
          simp only [Bool.and_eq_true] at hc
          exact XStep.store ho hp hb hc.1.1.1 hc.1.1.2 (Nat.eq_of_beq_eq_true hc.1.2) (Nat.le_of_ble_eq_true hc.2) h
    · exact h.elim
  · rename_i i off hp
    split at h
    · rename_i l os hb
      split at h
      · rename_i s k l' hs
        cases hc : ((P.underlying t).isSome && Nat.beq 1 (P.cellsOf t) && Nat.ble (off + 1) l.length) with
        | false => rw [hc] at h; exact h.elim
        | true =>
          rw [hc] at h
          simp only [Bool.and_eq_true] at hc
          cases x with
          | tmp q =>
            simp only [ownSl] at hs
            cases hq : c.os.any (Nat.beq q) with
            | false => rw [hq] at hs; cases hs
            | true =>
              rw [hq] at hs
              simp only [cond_true] at hs
              split at hs
              · rename_i k2 l2 hg
                cases hs
                exact XStep.storeEnvOwn ho hp hb hc.1.1 (mem_os hq) hg (Nat.eq_of_beq_eq_true hc.1.2) (Nat.le_of_ble_eq_true hc.2) h
              · cases hs
          | _ => cases hs
      · cases hc : ((P.underlying t).isSome && leavesOk (evA c x) && pf1 (evA c x) && Nat.beq (evA c x).leaves.length (P.cellsOf t) && Nat.ble (off + (evA c x).leaves.length) l.length) with
        | false => rw [hc] at h; exact h.elim
        | true =>
          rw [hc] at h
          simp only [Bool.and_eq_true] at hc
          exact XStep.storeEnv ho hp hb hc.1.1.1.1 hc.1.1.1.2 (pf_of1 hc.1.1.2) (Nat.eq_of_beq_eq_true hc.1.2) (Nat.le_of_ble_eq_true hc.2) h
    · exact h.elim
  · exact h.elim

theorem cellOwn_eq {p : Operand} {k : Nat} {l' : List AV} {c' : Cfg} (h : cellOwn c p = some (k, l', c')) : ∃ (off : Nat) (l : List AV) (os : List Nat), l[off]? = some (.sl k l') ∧ off ∈ os ∧
    ((∃ i, evA c p = .bp i off ∧ c.own[i]? = some (.cells l os) ∧ c' = { c with own := c.own.set i (.cells l (os.filter fun j => !Nat.beq j off)) }) ∨ (∃ i, evA c p = .xp i off ∧ c.env[i]? = some (.cells l os) ∧ c' = { c with env := c.env.set i (.cells l (os.filter fun j => !Nat.beq j off)) })) := by
  have mem : ∀ {os : List Nat} {off : Nat}, os.any (Nat.beq off) = true → off ∈ os := fun h => by
    obtain ⟨x, hx, e⟩ := List.any_eq_true.1 h
    rw [Nat.eq_of_beq_eq_true e]; exact hx
  unfold cellOwn at h
  split at h
  · rename_i i off hp
    split at h
    · rename_i l os hb
      split at h
      · rename_i k2 l2 hl
        cases hc : os.any (Nat.beq off) with
        | false => rw [hc] at h; cases h
        | true => rw [hc] at h; cases h; exact ⟨off, l, os, hl, mem hc, .inl ⟨i, hp, hb, rfl⟩⟩
      · cases h
    · cases h
  · rename_i i off hp
    split at h
    · rename_i l os hb
      split at h
      · rename_i k2 l2 hl
        cases hc : os.any (Nat.beq off) with
        | false => rw [hc] at h; cases h
        | true => rw [hc] at h; cases h; exact ⟨off, l, os, hl, mem hc, .inr ⟨i, hp, hb, rfl⟩⟩
      · cases h
    · cases h
  · cases h

theorem sliceParts_eq : ∀ (ps : List (Nat × Operand)) (i : Nat) (xs : List Operand), sliceParts i ps = some xs → ps = (xs.zipIdx i).map fun (x, j) => (j, x)
  | [], i, xs, h => by simp [sliceParts] at h; subst h; rfl
  | (j, x) :: r, i, xs, h => by
    simp only [sliceParts] at h
    cases hb : Nat.beq i j with
    | false => rw [hb] at h; cases h
    | true =>
      rw [hb] at h
      simp only [cond_true, Option.map_eq_some_iff] at h
      obtain ⟨ys, h1, rfl⟩ := h
      have := Nat.eq_of_beq_eq_true hb
      subst this
      rw [sliceParts_eq r (i + 1) ys h1]
      simp [List.zipIdx_cons]

theorem appendA_sound {cl : Call} {dst : Option Tmp} {type : TypeId} {pos : String} {after : Array Edge} {guard : Option (Nat × Bool)} (hcl : cl.callee = .builtin .append) (ho : opsOk n ⟨dst, .call cl, type, pos, after, guard⟩ = true)
    (h : appendA P c cl dst K) : XStep P n ⟨dst, .call cl, type, pos, after, guard⟩ c K := by
  obtain ⟨callee, args, argTypes⟩ := cl
  simp only at hcl
  subst hcl
  unfold appendA at h
  split at h
  · rename_i x0 x1 t t' d ha ht
    have e1 : args = #[x0, x1] := by apply Array.toList_inj.1; simpa using ha
    have e2 : argTypes = #[t, t'] := by apply Array.toList_inj.1; simpa using ht
    subst e1 e2
    split at h
    · rename_i e e' hu hu'
      split at h
      · rename_i i hi
        split at h
        · rename_i z hz
          cases hc : (Nat.blt 0 i.size && Nat.beq z.cells.size i.size) with
          | false => rw [hc] at h; exact h.elim
          | true =>
            rw [hc] at h
            simp only [cond_true] at h
            simp only [Bool.and_eq_true] at hc
            split at h
            · rename_i l0 l1 s h0 h1 hs
              obtain ⟨b1, b2, hk⟩ := h
              refine XStep.append ho hu hu' hi hz rfl (by rw [← Nat.blt_eq]; exact hc.1) (Nat.eq_of_beq_eq_true hc.2) h0 h1 s ?_ b1 b2 hk
              unfold ownOf at hs
              split at hs
              · rename_i q
                cases hq : c.os.any (Nat.beq q) with
                | true => rw [hq] at hs; simp at hs; subst hs; exact .inl ⟨rfl, mem_os hq⟩
                | false =>
                  rw [hq] at hs
                  simp only [cond_false] at hs
                  split at hs
                  · rename_i hg; exact .inr hg
                  · cases hs
              · exact .inr rfl
              · cases hs
            · exact h.elim
        · exact h.elim
      · exact h.elim
    · exact h.elim
  · exact h.elim

theorem callA_sound {cl : Call} {dst : Option Tmp} {type : TypeId} {pos : String} {after : Array Edge} {guard : Option (Nat × Bool)} (ho : opsOk n ⟨dst, .call cl, type, pos, after, guard⟩ = true)
    (h : callA P n c cl dst K) : XStep P n ⟨dst, .call cl, type, pos, after, guard⟩ c K := by
  obtain ⟨callee, args, argTypes⟩ := cl
  unfold callA at h
  split at h
  · rename_i f a1 a2 ht
    cases htup : (args.toList.all fun x => !(evA c x).isTup) with
    | false => simp only [htup] at h; exact h.elim
    | true =>
      simp only [htup, cond_true] at h
      cases hpf : pf1L (a1 ++ args.toList.map (evA c) ++ a2) with
      | true =>
        simp only [hpf, cond_true] at h
        rcases h with ⟨r, ow, h1, h2⟩ | h
        rotate_left
        · unfold callG at h
          obtain ⟨h0, R, h1, h2⟩ := h
          exact XStep.callAny ho ht htup h0 h1 h2
        · exact XStep.callPure ho ht htup (pfL_of1 hpf) h1 h2
      | false =>
        simp only [hpf, cond_false] at h
        unfold callG at h
        obtain ⟨h0, R, h1, h2⟩ := h
        exact XStep.callAny ho ht htup h0 h1 h2
  · exact h.elim

theorem buildSliceA_sound {ops : List Oper} {t : TypeId} {len : Nat} {parts : Array (Nat × Operand)} {dst : Option Tmp} {type : TypeId} {pos : String} {after : Array Edge} {guard : Option (Nat × Bool)} (ho : opsOk n ⟨dst, .buildSlice t len parts, type, pos, after, guard⟩ = true)
    (h : buildSliceA P ops c t len parts dst K) : XStep P n ⟨dst, .buildSlice t len parts, type, pos, after, guard⟩ c K := by
  unfold buildSliceA at h
  split at h
  · rename_i e d xs hu hp
    split at h
    · rename_i i hi
      split at h
      · rename_i z hz
        cases hc : (Nat.blt 0 i.size && Nat.beq len xs.length && Nat.ble (len * i.size) 16777216 && xs.all (fun x => leavesOk (evA c x) && !(evA c x).isTup && Nat.beq (evA c x).leaves.length i.size)) with
        | false => rw [hc] at h; exact h.elim
        | true =>
          rw [hc] at h
          simp only [cond_true] at h
          simp only [Bool.and_eq_true] at hc
          obtain ⟨⟨⟨c1, c2⟩, c3⟩, c4⟩ := hc
          have c4' : ∀ x ∈ xs, leavesOk (evA c x) = true ∧ (evA c x).isTup = false ∧ (evA c x).leaves.length = i.size := fun x hx => by
            have := List.all_eq_true.1 c4 x hx
            simp only [Bool.and_eq_true, Bool.not_eq_true'] at this
            exact ⟨this.1.1, this.1.2, Nat.eq_of_beq_eq_true this.2⟩
          have box := fun h => XStep.buildSliceB (K := K) ho hu hi hz rfl (by rw [← Nat.blt_eq]; exact c1) (Nat.eq_of_beq_eq_true c2) (sliceParts_eq _ _ _ hp) (Nat.le_of_ble_eq_true c3) c4' h
          cases hpf : (xs.all fun x => pf1 (evA c x)) with
          | false => rw [hpf] at h; exact box h
          | true =>
            rw [hpf] at h
            simp only [cond_true] at h
            have shut := fun h => XStep.buildSlice (K := K) ho hu hi hz rfl (by rw [← Nat.blt_eq]; exact c1) (Nat.eq_of_beq_eq_true c2) (sliceParts_eq _ _ _ hp) (Nat.le_of_ble_eq_true c3)
              (fun x hx => ⟨(c4' x hx).1, pf_of1 (List.all_eq_true.1 hpf x hx), (c4' x hx).2⟩) h
            cases h0 : (Nat.beq len 0 || callArg ops d) with
            | false => rw [h0] at h; exact shut h
            | true => rw [h0] at h; exact h.elim shut box
      · exact h.elim
    · exact h.elim
  · exact h.elim

theorem buildA_sound {t : TypeId} {parts : Array (Nat × Operand)} {dst : Option Tmp} {type : TypeId} {pos : String} {after : Array Edge} {guard : Option (Nat × Bool)} (ho : opsOk n ⟨dst, .build t parts, type, pos, after, guard⟩ = true)
    (h : buildA P n c t parts dst K) : XStep P n ⟨dst, .build t parts, type, pos, after, guard⟩ c K := by
  unfold buildA at h
  split at h
  · rename_i fs i hu hi
    split at h
    · rename_i z hz
      cases hc : ((fs.toList.all fun f => (P.underlying f.type).isSome) && okTmp n (.const z) && leavesOk (cst z)) with
      | false => rw [hc] at h; exact h.elim
      | true =>
        rw [hc] at h
        simp only [cond_true] at h
        simp only [Bool.and_eq_true] at hc
        exact XStep.build ho hu hc.1.1 hi hz hc.1.2 hc.2 h
    · exact h.elim
  · exact h.elim

theorem stepA_sound (h : stepA P n ops o c K) : XStep P n o c K := by
  unfold stepA at h
  cases ho : opsOk n o with
  | false => rw [ho] at h; exact h.elim
  | true =>
    rw [ho] at h
    simp only [cond_true] at h
    obtain ⟨dst, op, type, pos, after, guard⟩ := o
    split at h
    · rename_i s d hg
      cases hb : (Nat.blt s n && Nat.blt d n) with
      | false => rw [hb] at h; exact h.elim
      | true =>
        rw [hb] at h
        simp only [cond_true] at h
        simp only [Bool.and_eq_true] at hb
        unfold mayGive at hg
        split at hg
        · rename_i q d' e1 e2
          simp only at e1 e2
          subst e1 e2
          cases hq : c.os.any (Nat.beq q) with
          | false => rw [hq] at hg; cases hg
          | true =>
            rw [hq] at hg
            simp only [cond_true, Option.some.injEq, Prod.mk.injEq] at hg
            obtain ⟨rfl, rfl⟩ := hg
            exact XStep.give (.inl rfl) (mem_os hq) (by rw [← Nat.blt_eq]; exact hb.1) (by rw [← Nat.blt_eq]; exact hb.2) h
        · rename_i q d' e1 e2
          simp only at e1 e2
          subst e1 e2
          cases hq : (c.os.any (Nat.beq q) && appArg ops d') with
          | false => rw [hq] at hg; cases hg
          | true =>
            rw [hq] at hg
            simp only [cond_true, Option.some.injEq, Prod.mk.injEq] at hg
            obtain ⟨rfl, rfl⟩ := hg
            simp only [Bool.and_eq_true] at hq
            exact XStep.give (.inr rfl) (mem_os hq.1) (by rw [← Nat.blt_eq]; exact hb.1) (by rw [← Nat.blt_eq]; exact hb.2) h
        · cases hg
    · cases op
      case box el x hgv =>
        simp only at h
        cases dst with
        | none => exact h.elim
        | some d =>
          simp only at h
          cases hl : leavesOk (evA c x) with
          | false => rw [hl] at h; exact h.elim
          | true => rw [hl] at h; exact XStep.box ho hl h
      case alloc e hgv =>
        simp only at h
        split at h
        · rename_i d i hi
          split at h
          · rename_i z hz
            cases hc : (okTmp n (.const z) && leavesOk (cst z)) with
            | false => rw [hc] at h; exact h.elim
            | true =>
              rw [hc] at h
              simp only [cond_true] at h
              simp only [Bool.and_eq_true] at hc
              exact XStep.alloc (opsOk_dst ho d rfl) hi hz hc.1 hc.2 h
          · exact h.elim
        · exact h.elim
      case store => exact storeA_sound ho h
      case binOp op t x y yt hgv =>
        simp only at h
        split at h
        · rename_i hy; exact XStep.nilEq (.inl rfl) ho hy h
        · rename_i hy; exact XStep.nilEq (.inr rfl) ho hy h
        · exact XStep.pure ho h
      case makeMap => exact makeMapA_sound ho h
      case mapUpdate => exact mapUpdateA_sound ho h
      case load t p hgv =>
        simp only at h
        split at h
        · rename_i d k l' c' hc
          cases hb : (appArg ops d && (P.underlying t).isSome && !isAggT P t) with
          | false => rw [hb] at h; exact XStep.pure ho h
          | true =>
            rw [hb] at h
            simp only [cond_true] at h
            simp only [Bool.and_eq_true, Bool.not_eq_true'] at hb
            obtain ⟨off, l, os, hl, hos, hp⟩ := cellOwn_eq hc
            exact XStep.loadOwn ho hb.1.2 hb.2 hl hos c' hp h
        · exact XStep.pure ho h
      case buildSlice => exact buildSliceA_sound ho h
      case build => exact buildA_sound ho h
      case call cl hgv =>
        simp only at h
        split at h
        · rename_i hcl
          split at h <;> first | exact appendZ_sound hcl ho h | exact appendB_sound hcl ho h | exact appendA_sound hcl ho h
        · rename_i hcl; exact copyA_sound hcl ho h
        · rename_i hcl; exact clearA_sound hcl ho h
        · exact XStep.pure ho h
        · rename_i f hcl
          cases hx : isExt P f with
          | false => rw [hx] at h; exact callA_sound ho h
          | true =>
            rw [hx] at h
            obtain ⟨callee, args, argTypes⟩ := cl
            simp only at hcl
            subst hcl
            simp only [cond_true] at h
            cases htup : (args.toList.all fun x => !(evA c x).isTup) with
            | false => simp only [htup] at h; exact h.elim
            | true =>
              simp only [htup, cond_true] at h
              obtain ⟨v, h1, h2⟩ := h
              exact XStep.callExt ho htup h1 h2
        · exact callA_sound ho h
      all_goals exact XStep.pure ho h
end
end Go.Ev
end
section
/- Written by this session: a guarded operation as one path. Conditions: none beyond those in each statement. -/
namespace Go.Ev
open Go

def openV : AV → AV
  | .gv _ x => x
  | x => x
def openOk (b : Bool) : List AV → Prop
  | [] => True
  | .gv b' _ :: l => (b = true → b' = true) ∧ openOk b l
  | _ :: l => openOk b l

theorem openOk_mem {b : Bool} : ∀ {l : List AV}, openOk b l → b = true → ∀ x ∈ l, ∀ b' y, x = .gv b' y → b' = true
  | [], _, _, x, hx, _, _, _ => by cases hx
  | z :: l, h, hb, x, hx, b', y, e => by
    rcases List.mem_cons.1 hx with rfl | hx
    · subst e; simp only [openOk] at h; exact h.1 hb
    · refine openOk_mem (l := l) ?_ hb x hx b' y e
      cases z <;> simp only [openOk] at h <;> first | exact h.2 | exact h

theorem rep_open {w : World} {hw : Hw} {bs : List Nat} {base : Nat} {x : AV} {u : Value} (h : Rep w hw bs base x u) (ho : ∀ b y, x = .gv b y → b = true) : Rep w hw bs base (openV x) u := by
  cases x with
  | gv b y =>
    obtain rfl := ho b y rfl
    obtain ⟨h1, h2⟩ := rep_leaf rfl (by simp) (by simp) h
    simp only [RepV] at h1
    obtain ⟨v, e, _, r⟩ := h1
    simp only [List.cons.injEq, and_true] at e
    subst e
    obtain ⟨⟨q1, q2⟩, q3⟩ := r trivial
    refine rep_of (.inr ⟨?_, ?_⟩)
    · rw [cells_toList_of (visAgg_of q2)]; exact RepV.lift _ _ q3
    · rw [visAgg_of q2]; exact q1.symm
  | _ => exact h

section
variable {P : Program} {n : Nat} {c : Cfg} {K : Cfg → Prop} {W0 : World} {G0 : Gh} {a : Act} {w : World} {g : Gh} {o : Oper} {d : Nat}

/-- The operation is done: its value, seen under its guard. -/
theorem gv_step (hi : Inv n W0 G0 c a w g) (ho : opsOk n o = true) (hd : o.dst = some d) {b : Bool} {v : AV} (hb : b = true) {ρA : Operand → AV} (hop : ∀ x ∈ o.op.operands, Rep w g.hw g.bs c.base (ρA x) (a.eval x)) (hp : b = true → pureA P c.env c.own ρA o fun v' => v' = v) (hv : v.isLeaf = true) (hpf : v.pf = true) :
    ∃ u, (execOp a.eval o).run P w = .ok (.value u) w ∧ Inv n W0 G0 (c.put (some d) (.gv b v)) (a.put (some d) u) w g := by
  obtain ⟨v', rfl, hs⟩ := pureA_sound (hp hb)
  obtain ⟨u, hu, hr⟩ := hs a.eval w g hi.good fun x hx => hop x hx
  refine ⟨u, hu, hi.put (opsOk_dst ho d hd) ?_⟩
  obtain ⟨q1, q2, q3⟩ := rep_isLeaf hv hr
  refine rep_mk_leaf rfl (visAgg_of q3) ?_
  simp only [RepV]
  exact ⟨u, rfl, (fun h => by rw [hb] at h; cases h), fun _ => ⟨⟨q2, q3⟩, RepV.pfV _ _ hpf q1⟩⟩

/-- It is not done. -/
theorem gv_skip (hi : Inv n W0 G0 c a w g) (hd : d < n) {b : Bool} {v : AV} (hb : b = false) : Inv n W0 G0 (c.put (some d) (.gv b v)) (a.put (some d) undef) w g := by
  refine hi.put hd (rep_mk_leaf rfl rfl ?_)
  simp only [RepV]
  exact ⟨undef, rfl, (fun _ => rfl), (fun h => by rw [hb] at h; cases h)⟩
end
end Go.Ev
end
