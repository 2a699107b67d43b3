/- Written by programs of this session: laws and contracts that the law's proof stands on, merged into one text. Conditions: none beyond those in each statement. -/
import Derived.Test.YtepdiooaoegpfaaGreatDoorPkEv4
section
/- Written by this session: calls, and what is built, as steps of a region. Conditions: none beyond those in each statement. -/
namespace Go.Ev
open Go

def Callable (P : Program) (f : FuncId) : Prop := ∃ fn, P.funcs[f]? = some fn ∧ fn.body.isSome = true ∧ (fn.name == "runtime.NumGoroutine") = false

/-- A function that answers so, whatever memory is, and leaves it as it is. -/
def XPure (P : Program) (f : FuncId) (args : List AV) (r : AV) (ow : Bool) : Prop :=
  Callable P f ∧ r.pf = true ∧ ∀ env, XCalls P f args env fun r' ow' env' => r' = r ∧ ow' = ow ∧ env' = env

mutual
theorem up_pf (base : Nat) : ∀ x : AV, x.pf = true → x.up base = x
  | .top, _ => rfl
  | .v _, _ => rfl
  | .sl _ _, _ => rfl
  | .agg l, h => by simp only [AV.pf] at h; simp only [AV.up, upL_pf base l h]
  | .tup l, h => by simp only [AV.pf] at h; simp only [AV.up, upL_pf base l h]
  | .bp _ _, h => by simp [AV.pf] at h
  | .xp _ _, h => by simp [AV.pf] at h
  | .mo _, h => by simp [AV.pf] at h
  | .mx _, h => by simp [AV.pf] at h
  | .bs .., h => by simp [AV.pf] at h
  | .xs .., h => by simp [AV.pf] at h
  | .ep _, _ => rfl
  | .fn f a b, h => by simp only [AV.pf, Bool.and_eq_true] at h; simp only [AV.up, upL_pf base a h.1, upL_pf base b h.2]
  | .ifc _ _, _ => rfl
  | .gv _ _, _ => rfl
theorem upL_pf (base : Nat) : ∀ l : List AV, pfL l = true → upL base l = l
  | [], _ => rfl
  | x :: l, h => by simp only [pfL, Bool.and_eq_true] at h; simp only [upL, up_pf base x h.1, upL_pf base l h.2]
end

section
variable {P : Program} {n : Nat} {c : Cfg} {K : Cfg → Prop}

theorem run_callFunc {f : FuncId} (hf : Callable P f) (args : Array Value) (w : World) : (callFunc f args).run P w = .ok (.enter f args) w := by
  obtain ⟨fn, h1, h2, h3⟩ := hf
  have h4 : fn.body.isNone = false := by cases h : fn.body <;> simp_all
  simp only [callFunc, Sem.run_bind, run_program, Result.andThen_ok, h1, h3, h4, Bool.false_eq_true, if_false, Sem.run_pure]

/-- The operands of a call, as trees and as values. -/
theorem argsRep {W0 : World} {G0 : Gh} {a : Act} {w : World} {g : Gh} (hi : Inv n W0 G0 c a w g) : ∀ (l : List Operand), (∀ x ∈ l, okTmp n x = true) → (l.all fun x => !(evA c x).isTup) = true → RepT w g.hw g.bs c.base (l.map (evA c)) (l.map a.eval)
  | [], _, _ => rfl
  | x :: l, h, ht => by
    simp only [List.all_cons, Bool.and_eq_true, Bool.not_eq_true'] at ht
    simp only [List.map_cons, RepT]
    exact ⟨_, _, rfl, rep1_of ht.1 (hi.eval (h x (by simp))), argsRep hi l (fun y hy => h y (by simp [hy])) ht.2⟩

/-- Behind a call. -/
def Cfg.after (c : Cfg) (d : Option Nat) (r : AV) (ow : Bool) : Cfg :=
  match d, ow with
  | some d, true => c.putOwn d r
  | d, _ => c.put d r

theorem Inv.after {W0 : World} {G0 : Gh} {a : Act} {w : World} {g : Gh} (hi : Inv n W0 G0 c a w g) {d : Option Nat} (hd : ∀ x, d = some x → x < n) {r : AV} {ow : Bool} {u : Value} (hr : Rep w g.hw g.bs c.base r u)
    (ho : ow = true → ∃ k l, r = .sl k l ∧ OwnAt w g (.slot (d.getD 0)) k u) : Inv n W0 G0 (c.after d r ow) (a.put d u) w g := by
  cases d with
  | none => cases ow <;> exact hi.putO hd hr
  | some d =>
    cases ow with
    | false => exact hi.putO hd hr
    | true =>
      obtain ⟨k, l, rfl, h⟩ := ho rfl
      exact hi.putOwn (hd d rfl) hr h

def isPtrD : TypeDesc → Bool
  | .pointer _ => true
  | _ => false

/-- The target of a call, and what is handed in ahead of the arguments and behind them. -/
def targetA (P : Program) (c : Cfg) (n : Nat) : Callee → Option (FuncId × List AV × List AV)
  | .value (.func f) => some (f, [], [])
  | .value (.tmp t) => bif Nat.blt t n then (match Fr.get c.fr t with
    | .fn (.func f) a b => some (f, a, b)
    | _ => none) else none
  | .invoke recv name => bif okTmp n recv then (match evA c recv with
    | .ifc t x => (match P.info? t, P.underlying t with
      | some i, some d => (match i.methods.find? (·.name == name) with
        | some m => (match m.path.isEmpty, m.func with
          | true, some (f, p) => bif Bool.xor p (isPtrD d) || x.isTup then none else some (f, [x], [])
          | _, _ => none)
        | none => none)
      | _, _ => none)
    | _ => none) else none
  | _ => none

mutual
theorem cl_pf {base m : Nat} : ∀ x : AV, x.pf = true → x.cl base m
  | .top, _ | .v _, _ | .sl _ _, _ | .ep _, _ | .gv _ _, _ | .ifc _ _, _ => by simp only [AV.cl]
  | .bp _ _, h | .xp _ _, h | .mo _, h | .mx _, h | .bs .., h | .xs .., h => by simp [AV.pf] at h
  | .agg l, h => by simp only [AV.pf] at h; simp only [AV.cl]; exact clL_pf l h
  | .tup l, h => by simp only [AV.pf] at h; simp only [AV.cl]; exact clL_pf l h
  | .fn f a b, h => by simp only [AV.pf, Bool.and_eq_true] at h; simp only [AV.cl]; exact ⟨clL_pf a h.1, clL_pf b h.2⟩
theorem clL_pf {base m : Nat} : ∀ l : List AV, pfL l = true → clL base m l
  | [], _ => by simp only [clL]
  | x :: l, h => by simp only [pfL, Bool.and_eq_true] at h; simp only [clL]; exact ⟨cl_pf x h.1, clL_pf l h.2⟩
end

theorem clMem {W0 : World} {G0 : Gh} {a : Act} {w : World} {g : Gh} (hi : Inv n W0 G0 c a w g) : ∀ x ∈ c.mem, Bx.cl c.base (c.mem.length - c.base) x := by
  intro x hx
  obtain ⟨i, hi', rfl⟩ := List.mem_iff_getElem.1 hx
  have hib : i < g.bs.length := by rw [hi.good.len]; exact hi'
  have := hi.good.box i c.mem[i] g.bs[i] (List.getElem?_eq_getElem hi') (List.getElem?_eq_getElem hib)
  cases hx : c.mem[i] with
  | map l => trivial
  | cells l os =>
    rw [hx] at this
    obtain ⟨cs, e, _, h2, _⟩ := this
    have := RepL.toCl _ _ h2
    rw [hi.good.len] at this
    exact this

theorem RepT_append {w : World} {hw : Hw} {bs : List Nat} {base : Nat} : ∀ {l1 l2 : List AV} {v1 v2 : List Value}, RepT w hw bs base l1 v1 → RepT w hw bs base l2 v2 → RepT w hw bs base (l1 ++ l2) (v1 ++ v2)
  | [], _, _, _, h1, h2 => by simp only [RepT] at h1; subst h1; simpa using h2
  | x :: l1, l2, _, v2, h1, h2 => by
    simp only [RepT] at h1
    obtain ⟨v, vs', rfl, h3, h4⟩ := h1
    simp only [List.cons_append, RepT]
    exact ⟨v, _, rfl, h3, RepT_append h4 h2⟩
theorem RepT_of_RepL {w : World} {hw : Hw} {bs : List Nat} {base : Nat} : ∀ {l : List AV} {vs : List Value}, RepL w hw bs base l vs → RepT w hw bs base l vs
  | [], _, h => by simpa only [RepL, RepT] using h
  | x :: l, _, h => by
    simp only [RepL] at h
    obtain ⟨v, vs', rfl, h3, h4⟩ := h
    simp only [RepT]
    exact ⟨v, _, rfl, .inr ⟨by rw [cells_toList_of (visAgg_of h3.2.2)]; exact h3.1, by rw [visAgg_of h3.2.2, h3.2.1]⟩, RepT_of_RepL h4⟩

theorem run_method {t : TypeId} {i : TypeInfo} {m : Method} {f : FuncId} {p : Bool} {d : TypeDesc} {name : String} (hi : P.info? t = some i) (hd : P.underlying t = some d) (hm : i.methods.find? (·.name == name) = some m) (hp : m.path.isEmpty = true) (hf : m.func = some (f, p))
    (hx : Bool.xor p (isPtrD d) = false) (v : Value) (w : World) : (method (P.types.size + Made.depth) t v name).run P w = .ok (f, v) w := by
  have hpl : m.path.toList = [] := by simpa using hp
  rw [show P.types.size + Made.depth = (P.types.size + 99) + 1 from rfl]
  have hr : (receiverAt t (.val v) p (some ((name.splitOn ".").getLastD name))).run P w = .ok v w := by
    unfold receiverAt
    simp only [Sem.run_bind, run_und hd, Result.andThen_ok]
    cases p <;> cases d <;> simp [isPtrD] at hx <;> rfl
  unfold method
  simp only [Sem.run_bind, typeInfo, run_program, hi, Result.andThen_ok, Sem.run_pure, hm, hpl, follow, hf, hp, if_true, hr]

/-- How a call comes to the function. -/
theorem target_run {W0 : World} {G0 : Gh} {a : Act} {w : World} {g : Gh} (hi : Inv n W0 G0 c a w g) {callee : Callee} {args : Array Operand} {ts : Array TypeId} {ty : TypeId} {f : FuncId} {a1 a2 : List AV} (ht : targetA P c n callee = some (f, a1, a2)) (hf : Callable P f)
    (hargs : ∀ x ∈ args.toList, okTmp n x = true) (htup : (args.toList.all fun x => !(evA c x).isTup) = true) :
    ∃ vs : List Value, (do let d ← resolve a.eval ⟨callee, args, ts⟩ ty; invoke d.target d.args : Sem Next).run P w = .ok (.enter f vs.toArray) w ∧ RepT w g.hw g.bs c.base (a1 ++ args.toList.map (evA c) ++ a2) vs := by
  have hA := argsRep hi args.toList hargs htup
  have plain : ∀ q, a.eval q = .func (.func f) #[] #[] → callee = .value q → a1 = [] → a2 = [] → ∃ vs : List Value, (do let d ← resolve a.eval ⟨callee, args, ts⟩ ty; invoke d.target d.args : Sem Next).run P w = .ok (.enter f vs.toArray) w ∧ RepT w g.hw g.bs c.base (a1 ++ args.toList.map (evA c) ++ a2) vs := by
    rintro q hq rfl rfl rfl
    refine ⟨args.toList.map a.eval, ?_, by simpa using hA⟩
    simp only [Sem.run_bind, resolve, hq, Deferred.ofValue, Sem.run_pure, Result.andThen_ok, invoke]
    rw [run_callFunc hf]
    congr 2
    apply Array.toList_inj.1; simp
  unfold targetA at ht
  split at ht
  · simp at ht; obtain ⟨rfl, rfl, rfl⟩ := ht; exact plain _ rfl rfl rfl rfl
  · rename_i t
    cases hb : Nat.blt t n with
    | false => rw [hb] at ht; cases ht
    | true =>
      rw [hb] at ht
      simp only [cond_true] at ht
      split at ht
      · rename_i f' b1 b2 hx
        simp only [Option.some.injEq, Prod.mk.injEq] at ht
        obtain ⟨rfl, rfl, rfl⟩ := ht
        have hr := hi.fr t (by rw [← Nat.blt_eq]; exact hb)
        rw [hx] at hr
        obtain ⟨h1, _⟩ := rep_leaf rfl (by simp) (by simp) hr
        simp only [RepV] at h1
        obtain ⟨fs, cs, e, q1, q2⟩ := h1
        simp only [List.cons.injEq, and_true] at e
        refine ⟨fs.toList ++ args.toList.map a.eval ++ cs.toList, ?_, RepT_append (RepT_append (RepT_of_RepL q1) hA) (RepT_of_RepL q2)⟩
        have hq : a.eval (.tmp t) = .func (.func f') fs cs := e
        simp only [Sem.run_bind, resolve, hq, Deferred.ofValue, Sem.run_pure, Result.andThen_ok, invoke]
        rw [run_callFunc hf]
        congr 2
        apply Array.toList_inj.1; simp
      · cases ht
  · rename_i recv name
    cases hb : okTmp n recv with
    | false => rw [hb] at ht; cases ht
    | true =>
      rw [hb] at ht
      simp only [cond_true] at ht
      split at ht
      · rename_i t x hx
        split at ht
        · rename_i i d hi0 hd
          split at ht
          · rename_i m hm
            split at ht
            · rename_i f' p hp hfn
              cases hc : (Bool.xor p (isPtrD d) || x.isTup) with
              | true => rw [hc] at ht; cases ht
              | false =>
                rw [hc] at ht
                simp only [cond_false, Option.some.injEq, Prod.mk.injEq] at ht
                obtain ⟨rfl, rfl, rfl⟩ := ht
                simp only [Bool.or_eq_false_iff] at hc
                have hr := hi.eval hb
                rw [hx] at hr
                obtain ⟨q1, _⟩ := rep_leaf rfl (by simp) (by simp) hr
                simp only [RepV] at q1
                obtain ⟨u, e, q2, q3⟩ := q1
                simp only [List.cons.injEq, and_true] at e
                refine ⟨u :: args.toList.map a.eval, ?_, ?_⟩
                · simp only [Sem.run_bind, resolve, Sem.run_pure, Result.andThen_ok, invoke]
                  have h0 : (#[a.eval recv] ++ Array.map a.eval args)[0]? = some (a.eval recv) := by
                    rw [Array.getElem?_append_left (by simp)]; rfl
                  rw [h0]
                  simp only [callMethod, e, Sem.run_bind, run_program, Result.andThen_ok, run_method hi0 hd hm hp hfn hc.1 u w]
                  rw [run_callFunc hf]
                  congr 2
                  apply Array.toList_inj.1
                  simp
                  exact List.take_of_length_le (by simp)
                · simp only [List.append_nil, List.singleton_append, RepT]
                  exact ⟨u, _, rfl, .inr ⟨RepV.lift x _ q2, q3⟩, hA⟩
            · cases ht
          · cases ht
        · cases ht
      · cases ht
  · cases ht

theorem XStep.callPure {callee : Callee} {args : Array Operand} {ts : Array TypeId} {dst : Option Tmp} {type : TypeId} {pos : String} {after : Array Edge} {guard : Option (Nat × Bool)} {f : FuncId} {a1 a2 : List AV} {r : AV} {ow : Bool}
    (ho : opsOk n ⟨dst, .call ⟨callee, args, ts⟩, type, pos, after, guard⟩ = true) (ht : targetA P c n callee = some (f, a1, a2)) (htup : (args.toList.all fun x => !(evA c x).isTup) = true) (hpf : pfL (a1 ++ args.toList.map (evA c) ++ a2) = true)
    (hx : XPure P f (a1 ++ args.toList.map (evA c) ++ a2) r ow) (h : K (c.after dst r ow)) : XStep P n ⟨dst, .call ⟨callee, args, ts⟩, type, pos, after, guard⟩ c K := by
  intro W0 G0 a w g hi next Q hn
  have hargs : ∀ x ∈ args.toList, okTmp n x = true := fun x hx => opsOk_mem ho (by simp [Op.operands, Call.operands]; exact .inr (by simpa using hx))
  obtain ⟨vs, hrun, hvs⟩ := target_run (P := P) (ts := ts) (ty := type) hi ht hx.1 hargs htup
  unfold Oper.wp
  have hrun' : (execOp a.eval ⟨dst, .call ⟨callee, args, ts⟩, type, pos, after, guard⟩).run P w = .ok (.enter f vs.toArray) w := hrun
  rw [hrun']
  have hup : (a1 ++ args.toList.map (evA c) ++ a2).map (AV.up c.base) = a1 ++ args.toList.map (evA c) ++ a2 := by rw [← upL_eq]; exact upL_pf _ _ hpf
  refine (hi.call hvs (hup ▸ hx.2.2 _) (dst.getD 0)).mono ?_
  rintro e w' ⟨u, r', ow', env', rfl, ⟨rfl, rfl, rfl⟩, hcont⟩
  obtain ⟨g', hi', hr', ho'⟩ := hcont r' c.mem (up_pf _ _ hx.2.1).symm rfl (cl_pf _ hx.2.1) (clMem hi) c rfl rfl rfl rfl hi.ecl
  exact hn _ _ _ g' h (hi'.after (opsOk_dst ho) hr' ho')

/-- A call that may change boxes. -/
theorem XStep.callAny {callee : Callee} {args : Array Operand} {ts : Array TypeId} {dst : Option Tmp} {type : TypeId} {pos : String} {after : Array Edge} {guard : Option (Nat × Bool)} {f : FuncId} {a1 a2 : List AV} {R : AV → Bool → List Bx → Prop}
    (ho : opsOk n ⟨dst, .call ⟨callee, args, ts⟩, type, pos, after, guard⟩ = true) (ht : targetA P c n callee = some (f, a1, a2)) (htup : (args.toList.all fun x => !(evA c x).isTup) = true) (hc : Callable P f)
    (hx : XCalls P f ((a1 ++ args.toList.map (evA c) ++ a2).map (AV.up c.base)) (c.env ++ c.own.map (Bx.up c.base)) R)
    (h : (∀ x ∈ c.env, Bx.cl c.base 0 x) → (∀ x ∈ c.env ++ c.own, Bx.cl c.base c.own.length x) → ∀ r ow env', R r ow env' → ∃ r2 env2 own2, r = AV.up c.base r2 ∧ env' = env2 ++ own2.map (Bx.up c.base) ∧ env2.length = c.env.length ∧ r2.cl c.base own2.length ∧ (∀ x ∈ env2, Bx.cl c.base 0 x) ∧ (∀ x ∈ env2 ++ own2, Bx.cl c.base own2.length x) ∧ K (({ c with env := env2, own := own2 } : Cfg).after dst r2 ow)) :
    XStep P n ⟨dst, .call ⟨callee, args, ts⟩, type, pos, after, guard⟩ c K := by
  intro W0 G0 a w g hi next Q hn
  have hargs : ∀ x ∈ args.toList, okTmp n x = true := fun x hx => opsOk_mem ho (by simp [Op.operands, Call.operands]; exact .inr (by simpa using hx))
  obtain ⟨vs, hrun, hvs⟩ := target_run (P := P) (ts := ts) (ty := type) hi ht hc hargs htup
  unfold Oper.wp
  have hrun' : (execOp a.eval ⟨dst, .call ⟨callee, args, ts⟩, type, pos, after, guard⟩).run P w = .ok (.enter f vs.toArray) w := hrun
  rw [hrun']
  have hmem : c.env ++ c.own.map (Bx.up c.base) = c.mem.map (Bx.up c.base) := by simp only [Cfg.mem, List.map_append, mapUp_cl hi.ecl]
  rw [hmem] at hx
  refine (hi.call hvs hx (dst.getD 0)).mono ?_
  rintro e w' ⟨u, r', ow', env', rfl, hR, hcont⟩
  obtain ⟨r2, env2, own2, hr2, he, hl, hrc, hecl, hcl, hk⟩ := h hi.ecl (by have := clMem hi; simpa [Cfg.mem, Cfg.base] using this) r' ow' env' hR
  have hlen : (env2 ++ own2).length - c.base = own2.length := by simp [Cfg.base, hl]
  obtain ⟨g', hi', hr', ho'⟩ := hcont r2 (env2 ++ own2) hr2 (by rw [he, List.map_append, mapUp_cl hecl]) (by rw [hlen]; exact hrc) (by rw [hlen]; exact hcl) { c with env := env2, own := own2 } rfl rfl rfl hl hecl
  refine hn _ _ _ g' hk (hi'.after (opsOk_dst ho) ?_ ho')
  have : (({ c with env := env2, own := own2 } : Cfg).base) = c.base := hl
  rw [this]; exact hr'
end
end Go.Ev
end
section
/- Written by this session: slices and structs out of parts, as steps of a region. Conditions: none beyond those in each statement. -/
namespace Go.Ev
open Go

theorem rep_elem {w : World} {hw : Hw} {bs : List Nat} {base : Nat} {x : AV} {y : Value} (hx : leavesOk x = true) (hp : x.pf = true) (h : Rep w hw bs base x y) :
    RepV w hw [] 0 x y.cells.toList ∧ (x.isAgg = false → ∀ v ∈ y.cells.toList, v.oneCell' = true) ∧ y.cells.size = x.leaves.length := by
  have h' := h.pf hp
  obtain ⟨h1, h2⟩ := rep_cells (leavesOk_or hx) h'
  refine ⟨?_, fun _ => oneCells h1, h2⟩
  rcases leavesOk_or hx with hx | hx
  · cases x <;> simp only [AV.isAgg] at hx <;> try cases hx
    simpa only [RepV, AV.leaves] using h1
  · obtain ⟨q1, _, q3⟩ := rep_isLeaf hx h'
    rw [cells_toList_of (visAgg_of q3)]; exact q1

theorem repE_flat {w : World} {hw : Hw} {bs : List Nat} {base k : Nat} : ∀ (l : List AV) (ys : List Value), RepT w hw bs base l ys → (∀ x ∈ l, leavesOk x = true ∧ x.pf = true ∧ x.leaves.length = k) →
    RepE w hw k l (ys.flatMap fun v => v.cells.toList) ∧ (∀ y ∈ ys, y.cells.size = k) ∧ ys.length = l.length
  | [], _, h, _ => by simp only [RepT] at h; subst h; simp [RepE]
  | x :: l, _, h, hl => by
    simp only [RepT] at h
    obtain ⟨y, ys, rfl, h1, h2⟩ := h
    obtain ⟨q1, q2, q3⟩ := hl x (by simp)
    obtain ⟨r1, r2, r3⟩ := rep_elem q1 q2 (rep_of h1)
    obtain ⟨i1, i2, i3⟩ := repE_flat l ys h2 fun z hz => hl z (by simp [hz])
    have hk : y.cells.toList.length = k := by simp [r3, q3]
    refine ⟨?_, fun z hz => ?_, by simp [i3]⟩
    · simp only [List.flatMap_cons, RepE]
      refine ⟨by simp [hk], ⟨?_, ?_⟩, ?_⟩
      · rw [List.take_append_of_le_length (by rw [hk]; exact Nat.le_refl _), List.take_of_length_le (by rw [hk]; exact Nat.le_refl _)]; exact r1
      · rw [List.take_append_of_le_length (by rw [hk]; exact Nat.le_refl _), List.take_of_length_le (by rw [hk]; exact Nat.le_refl _)]; exact r2
      · rw [List.drop_append_of_le_length (by rw [hk]; exact Nat.le_refl _), List.drop_of_length_le (by rw [hk]; exact Nat.le_refl _)]; exact i1
    · rcases List.mem_cons.1 hz with rfl | hz
      · rw [r3, q3]
      · exact i2 z hz

section
variable {P : Program} {n : Nat} {c : Cfg} {K : Cfg → Prop}

theorem XStep.buildSlice {t e : TypeId} {len k : Nat} {parts : Array (Nat × Operand)} {xs : List Operand} {i : TypeInfo} {z : Value} {d : Nat} {type : TypeId} {pos : String} {after : Array Edge} {guard : Option (Nat × Bool)}
    (ho : opsOk n ⟨some d, .buildSlice t len parts, type, pos, after, guard⟩ = true) (ht : P.underlying t = some (.slice e)) (hin : P.info? e = some i) (hz : i.zero = some z) (hk : i.size = k) (hk0 : 0 < k)
    (hlen : len = xs.length) (hparts : parts.toList = xs.zipIdx.map fun (x, j) => (j, x)) (hsm : len * k ≤ 16777216)
    (hxs : ∀ x ∈ xs, leavesOk (evA c x) = true ∧ (evA c x).pf = true ∧ (evA c x).isTup = false ∧ (evA c x).leaves.length = k)
    (h : K (c.putOwn d (.sl k (xs.map (evA c))))) : XStep P n ⟨some d, .buildSlice t len parts, type, pos, after, guard⟩ c K := by
  intro W0 G0 a w g hi next Q hn
  have hmem : ∀ x ∈ xs, x ∈ (Op.buildSlice t len parts).operands := fun x hx => by
    obtain ⟨j, hj, rfl⟩ := List.mem_iff_getElem.1 hx
    simp only [Op.operands, List.mem_toArray, List.mem_map, hparts]
    exact ⟨(j, xs[j]), ⟨(xs[j], j), by simp [List.mem_zipIdx_iff_getElem?, List.getElem?_eq_getElem hj], rfl⟩, rfl⟩
  have hT := argsRep hi xs (fun x hx => opsOk_mem ho (hmem x hx)) (by
    rw [List.all_eq_true]; intro x hx; rw [(hxs x hx).2.2.1]; rfl)
  obtain ⟨hE, hcs, hl⟩ := repE_flat (k := k) _ _ hT (by
    intro y hy
    obtain ⟨x, hx, rfl⟩ := List.mem_map.1 hy
    exact ⟨(hxs x hx).1, (hxs x hx).2.1, (hxs x hx).2.2.2⟩)
  simp only [List.length_map] at hl
  subst hlen
  let cells0 : Array Value := (Array.range (xs.length * k)).map fun j => (if xs.length * k = 0 then (#[] : Array Value) else z.cells)[j % (if xs.length * k = 0 then (#[] : Array Value) else z.cells).size]!
  obtain ⟨cells', hfill, hcl⟩ := fill_row hk0 (xs.map a.eval) 0 cells0 [] hcs (by simp) (by simp [cells0])
  have hcells : cells' = ((xs.map a.eval).flatMap fun v => v.cells.toList).toArray := by apply Array.toList_inj.1; rw [hcl]; simp
  have hps : (parts.map fun (p : Nat × Operand) => (p.1, a.eval p.2)).toList = ((xs.map a.eval).zipIdx 0).map fun (v, j) => (j, v) := by
    rw [Array.toList_map, hparts]
    simp [List.zipIdx_map]
  have hlenE := RepE.len hE
  obtain ⟨g', hi', hR, hO⟩ := hi.newArr (rest := []) (e := e) hk0 hE d xs.length (by simp; exact Nat.le_trans (Nat.le_mul_of_pos_right _ hk0) (Nat.le_trans hsm (by decide))) (by simp) (by simp at hlenE ⊢; omega)
  simp only [List.append_nil, List.length_map] at hi' hR hO
  rw [← hcells] at hi' hR hO
  unfold Oper.wp
  have hsz : (sizeOf e).run P w = .ok k w := by simp [sizeOf, typeInfo, hin, hk]
  have hrun : (execOp a.eval ⟨some d, .buildSlice t xs.length parts, type, pos, after, guard⟩).run P w = .ok (.value (.slice (some ⟨w.heap.size, 0, none⟩) xs.length xs.length)) (push w (.cells cells' e)) := by
    have hc0 : ∀ zz : Array Value, zz = (if xs.length * k = 0 then (#[] : Array Value) else z.cells) → (Array.range (xs.length * k)).map (fun x => zz[x % zz.size]!) = cells0 := by rintro _ rfl; rfl
    simp only [execOp, Instr.buildSlice, Sem.run_bind, run_und ht, Result.andThen_ok, hsz]
    rw [if_neg (by omega : ¬ xs.length * k > 2 ^ 24)]
    simp only [hps]
    by_cases h0 : xs.length * k = 0
    · rw [if_pos h0]
      simp only [Sem.run_bind, Sem.run_pure, Result.andThen_ok]
      rw [hc0 #[] (by rw [if_pos h0]), hfill]
      simp [newRow, push]
    · rw [if_neg h0]
      have hzv : (zeroValue e).run P w = .ok z w := by simp [zeroValue, typeInfo, hin, hz]
      simp only [Sem.run_bind, Sem.run_pure, Result.andThen_ok, hzv]
      rw [hc0 z.cells (by rw [if_neg h0]), hfill]
      simp [newRow, push]
  rw [hrun]
  exact hn _ _ _ g' h (hi'.putOwn (opsOk_dst ho d rfl) hR hO)
end
end Go.Ev
end
section
/- Written by this session: structs out of parts, as steps of a region. Conditions: none beyond those in each statement. -/
namespace Go.Ev
open Go

def buildFold (P : Program) (c : Cfg) (fs : Array Field) : List (Nat × Operand) → List AV → (List AV → Prop) → Prop
  | [], l, K => K l
  | (i, x) :: r, l, K => match fs[i]? with
    | some f => bif leavesOk (evA c x) && !(evA c x).isTup && Nat.beq (evA c x).leaves.length (P.cellsOf f.type) && Nat.ble (f.offset + P.cellsOf f.type) l.length then buildFold P c fs r (wrL l f.offset (evA c x).leaves) K else False
    | none => False

section
variable {P : Program} {n : Nat} {c : Cfg} {K : Cfg → Prop}

theorem run_places : ∀ (fs : List Field) (w : World), (fs.all fun f => (P.underlying f.type).isSome) = true →
    (fs.mapM fun f => do Pure.pure (f.offset, ← sizeOf f.type) : Sem (List (Nat × Nat))).run P w = .ok (fs.map fun f => (f.offset, P.cellsOf f.type)) w
  | [], w, _ => by simp
  | f :: fs, w, h => by
    simp only [List.all_cons, Bool.and_eq_true] at h
    simp only [List.mapM_cons, Sem.run_bind, run_size (info_of_und h.1), Result.andThen_ok, Sem.run_pure, List.map_cons]
    rw [run_places fs w h.2]
    rfl

theorem buildFold_run {fs : Array Field} {W0 : World} {G0 : Gh} {a : Act} {w : World} {g : Gh} (hi : Inv n W0 G0 c a w g) : ∀ (ps : List (Nat × Operand)) (l : List AV) (cells : Array Value) (K : List AV → Prop),
    (∀ p ∈ ps, okTmp n p.2 = true) → RepL w g.hw g.bs c.base l cells.toList → buildFold P c fs ps l K →
    ∃ l' cells', K l' ∧ Instr.fill ((fs.map fun f => (f.offset, P.cellsOf f.type))[·]?) cells (ps.map fun p => (p.1, a.eval p.2)) = some cells' ∧ RepL w g.hw g.bs c.base l' cells'.toList
  | [], l, cells, K, _, hr, h => ⟨l, cells, h, by simp [Instr.fill], hr⟩
  | (i, x) :: ps, l, cells, K, hok, hr, h => by
    simp only [buildFold] at h
    split at h
    · rename_i f hf
      cases hc : (leavesOk (evA c x) && !(evA c x).isTup && Nat.beq (evA c x).leaves.length (P.cellsOf f.type) && Nat.ble (f.offset + P.cellsOf f.type) l.length) with
      | false => rw [hc] at h; exact h.elim
      | true =>
        rw [hc] at h
        simp only [cond_true] at h
        simp only [Bool.and_eq_true] at hc
        obtain ⟨⟨⟨h1, _⟩, h3⟩, h4⟩ := hc
        have h3' := Nat.eq_of_beq_eq_true h3
        have h4' := Nat.le_of_ble_eq_true h4
        obtain ⟨q1, q2⟩ := rep_cells (leavesOk_or h1) (hi.eval (hok (i, x) (by simp)))
        have hlen := RepL.length hr
        obtain ⟨c1, e1, e2⟩ := fill_one (place := ((fs.map fun f => (f.offset, P.cellsOf f.type))[·]?)) (cells := cells) (i := i) (off := f.offset) (size := P.cellsOf f.type) (v := a.eval x) (rest := ps.map fun p => (p.1, a.eval p.2))
          (by simp [hf]) (by rw [q2, h3']) (by rw [q2, h3']; simp only [Array.length_toList] at hlen; omega)
        have hL : (a.eval x).cells.toList.length = (evA c x).leaves.length := by simpa using q2
        obtain ⟨l', cells', k1, k2, k3⟩ := buildFold_run hi ps _ c1 K (fun p hp => hok p (by simp [hp])) (by
          rw [e1]
          simp only [wrL]
          rw [hL]
          exact ((hr.take f.offset).append q1).append (hr.drop _)) h
        refine ⟨l', cells', k1, ?_, k3⟩
        simp only [List.map_cons]
        rw [e2]; exact k2
    · exact h.elim

theorem XStep.build {t : TypeId} {fs : Array Field} {parts : Array (Nat × Operand)} {i : TypeInfo} {z : Value} {dst : Option Tmp} {type : TypeId} {pos : String} {after : Array Edge} {guard : Option (Nat × Bool)}
    (ho : opsOk n ⟨dst, .build t parts, type, pos, after, guard⟩ = true) (ht : P.underlying t = some (.struct fs)) (hfs : (fs.toList.all fun f => (P.underlying f.type).isSome) = true) (hin : P.info? t = some i) (hz : i.zero = some z) (hok : okTmp n (.const z) = true) (hx : leavesOk (cst z) = true)
    (h : buildFold P c fs parts.toList (cst z).leaves fun l => K (c.put dst (.agg l))) : XStep P n ⟨dst, .build t parts, type, pos, after, guard⟩ c K := by
  intro W0 G0 a w g hi next Q hn
  obtain ⟨hc, _⟩ := rep_cells (leavesOk_or hx) (cst_rep (hw := g.hw) (bs := g.bs) (base := c.base) (w := w) z hok)
  obtain ⟨l', cells', k1, k2, k3⟩ := buildFold_run hi parts.toList _ z.cells _ (fun p hp => opsOk_mem ho (by
    simp only [Op.operands, List.mem_toArray, List.mem_map]
    exact ⟨p, by simpa using hp, rfl⟩)) hc h
  have hrun : (execOp a.eval ⟨dst, .build t parts, type, pos, after, guard⟩).run P w = .ok (.value (.agg cells')) w := by
    have hp := run_places (P := P) fs.toList w hfs
    have hps : (parts.map fun (p : Nat × Operand) => (p.1, a.eval p.2)).toList = parts.toList.map fun p => (p.1, a.eval p.2) := by simp
    simp only [execOp, Instr.build, Sem.run_bind, zeroValue, typeInfo, run_program, hin, Result.andThen_ok, Sem.run_pure, hz, run_und ht, Array.mapM_eq_mapM_toList, Sem.run_map, hp, hps]
    have hpl : (fs.toList.map fun f => (f.offset, P.cellsOf f.type)).toArray = fs.map fun f => (f.offset, P.cellsOf f.type) := by apply Array.toList_inj.1; simp
    rw [hpl, k2]
    simp
  unfold Oper.wp
  rw [hrun]
  exact hn _ _ _ g k1 (hi.putO (opsOk_dst ho) (rep_agg_mk k3))
end
end Go.Ev
end
section
/- Written by this session: maps, boxes of the surroundings, and what is appended to in a box, as steps of a region. Conditions: none beyond those in each statement. -/
namespace Go.Ev
open Go

mutual
theorem cl_of_pf {base : Nat} : ∀ x : AV, x.pf = true → x.cl base 0
  | .top, _ | .v _, _ | .sl _ _, _ | .ep _, _ | .gv _ _, _ | .ifc _ _, _ => by simp only [AV.cl]
  | .bp _ _, h => by simp [AV.pf] at h
  | .xp _ _, h => by simp [AV.pf] at h
  | .mo _, h => by simp [AV.pf] at h
  | .mx _, h => by simp [AV.pf] at h
  | .bs .., h => by simp [AV.pf] at h
  | .xs .., h => by simp [AV.pf] at h
  | .agg l, h => by simp only [AV.pf] at h; simp only [AV.cl]; exact clL_of_pf l h
  | .tup l, h => by simp only [AV.pf] at h; simp only [AV.cl]; exact clL_of_pf l h
  | .fn f a b, h => by simp only [AV.pf, Bool.and_eq_true] at h; simp only [AV.cl]; exact ⟨clL_of_pf a h.1, clL_of_pf b h.2⟩
theorem clL_of_pf {base : Nat} : ∀ l : List AV, pfL l = true → clL base 0 l
  | [], _ => by simp only [clL]
  | x :: l, h => by simp only [pfL, Bool.and_eq_true] at h; simp only [clL]; exact ⟨cl_of_pf x h.1, clL_of_pf l h.2⟩
end
theorem clL_of_leaf {base : Nat} {x : AV} (h : x.pf = true) : x.cl base 0 := cl_of_pf x h
theorem clL_leaves {base : Nat} {x : AV} (h : x.pf = true) : clL base 0 x.leaves := by
  have := clL_of_leaf (base := base) h
  cases x <;> simp only [AV.leaves, clL] <;> first | exact ⟨this, trivial⟩ | (simpa only [AV.cl] using this)
theorem clL_app {base m : Nat} : ∀ {a b : List AV}, clL base m a → clL base m b → clL base m (a ++ b)
  | [], _, _, h => h
  | x :: a, b, h1, h2 => by simp only [List.cons_append, clL] at h1 ⊢; exact ⟨h1.1, clL_app h1.2 h2⟩
theorem clL_take {base m : Nat} : ∀ {a : List AV} (k : Nat), clL base m a → clL base m (a.take k)
  | _, 0, _ => by simp [clL]
  | [], k + 1, _ => by simp [clL]
  | x :: a, k + 1, h => by simp only [List.take_succ_cons, clL] at h ⊢; exact ⟨h.1, clL_take k h.2⟩
theorem clL_drop {base m : Nat} : ∀ {a : List AV} (k : Nat), clL base m a → clL base m (a.drop k)
  | _, 0, h => by simpa using h
  | [], k + 1, _ => by simp [clL]
  | x :: a, k + 1, h => by simp only [List.drop_succ_cons, clL] at h ⊢; exact clL_drop k h.2

section
variable {P : Program} {n : Nat} {c : Cfg} {K : Cfg → Prop} {dst : Option Tmp} {type : TypeId} {pos : String} {after : Array Edge} {guard : Option (Nat × Bool)}

theorem XStep.makeMap {t kt et : TypeId} {r : Option Operand} {d : Nat} (ho : opsOk n ⟨some d, .makeMap t r, type, pos, after, guard⟩ = true) (ht : P.underlying t = some (.map kt et)) (hr : r = none ∨ ∃ k m, r = some (.const (.int k m)))
    (h : K (({ c with own := c.own ++ [.map []] } : Cfg).put (some d) (.mo c.own.length))) : XStep P n ⟨some d, .makeMap t r, type, pos, after, guard⟩ c K := by
  intro W0 G0 a w g hi next Q hn
  obtain ⟨g', hi', hb⟩ := hi.newBoxG (.map []) (.map #[] 0) fun _ _ _ => ⟨#[], 0, heap_push_new, by simp [RepM]⟩
  unfold Oper.wp
  have hrun : (execOp a.eval ⟨some d, .makeMap t r, type, pos, after, guard⟩).run P w = .ok (.value (.map (some w.heap.size))) (push w (.map #[] 0)) := by
    rcases hr with rfl | ⟨k, m, rfl⟩
    · simp [execOp, Instr.makeMap, push]
    · simp [execOp, Instr.makeMap, run_und ht, Act.eval, asInt, asIntOf, push]
  rw [hrun]
  exact hn _ _ _ g' h (hi'.put (opsOk_dst ho d rfl) (rep_mk_leaf rfl rfl (by simp only [RepV]; exact ⟨_, hb, rfl⟩)))

theorem XStep.mapUpdate {t kt et : TypeId} {m k x : Operand} {s : ByteArray} {l : List (ByteArray × AV)} (ho : opsOk n ⟨dst, .mapUpdate t m k x, type, pos, after, guard⟩ = true) (ht : P.underlying t = some (.map kt et)) (hkt : P.underlying kt = some .string)
    (hk : evA c k = .v (.string s)) (hpf : (evA c x).pf = true) (htup : (evA c x).isTup = false) (c' : Cfg)
    (hm : (∃ i, evA c m = .mo i ∧ c.own[i]? = some (.map l) ∧ c' = { c with own := c.own.set i (.map (setM l s (evA c x))) }) ∨ (∃ i, evA c m = .mx i ∧ c.env[i]? = some (.map l) ∧ c' = { c with env := c.env.set i (.map (setM l s (evA c x))) }))
    (h : K (c'.put dst (.v undef))) : XStep P n ⟨dst, .mapUpdate t m k x, type, pos, after, guard⟩ c K := by
  intro W0 G0 a w g hi next Q hn
  have hmm : m ∈ (Op.mapUpdate t m k x).operands := by simp [Op.operands]
  have hmk : k ∈ (Op.mapUpdate t m k x).operands := by simp [Op.operands]
  have hmx : x ∈ (Op.mapUpdate t m k x).operands := by simp [Op.operands]
  have hrm := hi.eval (opsOk_mem ho hmm)
  have ek := (rep_v (hk ▸ hi.eval (opsOk_mem ho hmk))).1
  have hv : Rep1 w g.hw [] 0 (evA c x) (a.eval x) := rep1_of htup ((hi.eval (opsOk_mem ho hmx)).pf hpf)
  have fin : ∀ (q b : Nat), g.bs[q]? = some b → a.eval m = .map (some b) → c.mem[q]? = some (.map l) → c'.fr = c.fr → c'.os = c.os → c'.mem = c.mem.set q (.map (setM l s (evA c x))) → c'.base = c.base → (∀ y ∈ c'.env, Bx.cl c.base 0 y) →
      (Oper.wp P ⟨dst, .mapUpdate t m k x, type, pos, after, guard⟩ a w next Q) := by
    intro q b hb em hq e1 e2 e3 e4 e5
    obtain ⟨es, clock, hheap, hM⟩ := hi.good.box q _ b hq hb
    obtain ⟨es', clock', hrun, hM'⟩ := mapUpdate_run (P := P) (w := w) (s := s) ht hkt hheap hM hv
    have W := oneBlk_setObj (o' := .map es' clock') hheap
    have hi' := hi.writeAt (x' := .map (setM l s (evA c x))) hq hb W (fun hH _ => ⟨es', clock', W.blk, RepM.mono hH _ _ hM'⟩) c' e1 e2 e3 e4 e5
    unfold Oper.wp
    have hrun' : (execOp a.eval ⟨dst, .mapUpdate t m k x, type, pos, after, guard⟩).run P w = .ok .skip { w with heap := w.heap.setIfInBounds b (.map es' clock') } := by
      simp only [execOp, em, ek, Sem.run_bind, hrun, Result.andThen_ok, Sem.run_pure]
    rw [hrun']
    exact hn _ _ _ g h (hi'.putO (opsOk_dst ho) (rep_v_mk rfl))
  rcases hm with ⟨i, em, hl, rfl⟩ | ⟨i, em, hl, rfl⟩
  · obtain ⟨b, hb, e⟩ := rep_mo (em ▸ hrm)
    exact fin _ b hb e (mem_own hl) rfl rfl set_own rfl hi.ecl
  · obtain ⟨_, b, hb, e⟩ := rep_mx (em ▸ hrm)
    have hil := (List.getElem?_eq_some_iff.1 hl).1
    exact fin i b hb e (mem_env hl) rfl rfl (set_env hil) (by simp [Cfg.base]) (ecl_set hi.ecl trivial)

/-- A store into a box of the surroundings. -/
theorem XStep.storeEnv {t : TypeId} {p x : Operand} {i off : Nat} {l : List AV} {os : List Nat} (ho : opsOk n ⟨dst, .store t p x, type, pos, after, guard⟩ = true)
    (hp : evA c p = .xp i off) (hbox : c.env[i]? = some (.cells l os)) (ht : (P.underlying t).isSome = true) (hx : leavesOk (evA c x) = true) (hpf : (evA c x).pf = true) (hsz : (evA c x).leaves.length = P.cellsOf t) (hfit : off + (evA c x).leaves.length ≤ l.length)
    (h : K (({ c with env := c.env.set i (.cells (wrL l off (evA c x).leaves) (os.filter fun j => decide (j < off ∨ off + (evA c x).leaves.length ≤ j))) } : Cfg).put dst (.v undef))) : XStep P n ⟨dst, .store t p x, type, pos, after, guard⟩ c K := by
  intro W0 G0 a w g hi next Q hn
  have hm1 : p ∈ (Op.store t p x).operands := by simp [Op.operands]
  have hm2 : x ∈ (Op.store t p x).operands := by simp [Op.operands]
  obtain ⟨_, b, hb, ep⟩ := rep_xp (hp ▸ hi.eval (opsOk_mem ho hm1))
  obtain ⟨w', hrun, hcont⟩ := hi.storeAt ht (leavesOk_or hx) hb (mem_env hbox) (hi.eval (opsOk_mem ho hm2)) hsz hfit
  have hil := (List.getElem?_eq_some_iff.1 hbox).1
  have hcl : Bx.cl c.base 0 (.cells (wrL l off (evA c x).leaves) (os.filter fun j => decide (j < off ∨ off + (evA c x).leaves.length ≤ j))) := by
    have := hi.ecl _ (List.mem_of_getElem? hbox)
    simp only [Bx.cl] at this ⊢
    exact clL_app (clL_app (clL_take _ this) (clL_leaves hpf)) (clL_drop _ this)
  have hi' := hcont (os.filter fun j => decide (j < off ∨ off + (evA c x).leaves.length ≤ j)) (fun j hj => .inl (by simpa using hj)) { c with env := c.env.set i (.cells (wrL l off (evA c x).leaves) (os.filter fun j => decide (j < off ∨ off + (evA c x).leaves.length ≤ j))) }
    rfl rfl (set_env hil) (by simp [Cfg.base]) (ecl_set hi.ecl hcl)
  unfold Oper.wp
  have hrun' : (execOp a.eval ⟨dst, .store t p x, type, pos, after, guard⟩).run P w = .ok .skip w' := by
    simp [execOp, Instr.storeAt, ep, Instr.sureAddr, hrun]
  rw [hrun']
  exact hn _ _ _ g h (hi'.putO (opsOk_dst ho) (rep_v_mk rfl))

/-- A store into a box of the surroundings that hands on the right to append. -/
theorem XStep.storeEnvOwn {t : TypeId} {p : Operand} {s i off k : Nat} {l l' : List AV} {os : List Nat} (ho : opsOk n ⟨dst, .store t p (.tmp s), type, pos, after, guard⟩ = true)
    (hp : evA c p = .xp i off) (hbox : c.env[i]? = some (.cells l os)) (ht : (P.underlying t).isSome = true) (hs : s ∈ c.os) (hx : Fr.get c.fr s = .sl k l') (hsz : 1 = P.cellsOf t) (hfit : off + 1 ≤ l.length)
    (h : K (({ c with os := c.os.filter (fun i => !Nat.beq i s), env := c.env.set i (.cells (wrL l off [.sl k l']) (off :: os.filter fun j => decide (j < off ∨ off + 1 ≤ j))) } : Cfg).put dst (.v undef))) : XStep P n ⟨dst, .store t p (.tmp s), type, pos, after, guard⟩ c K := by
  intro W0 G0 a w g hi next Q hn
  have hm1 : p ∈ (Op.store t p (.tmp s)).operands := by simp [Op.operands]
  have hm2 : (Operand.tmp s) ∈ (Op.store t p (.tmp s)).operands := by simp [Op.operands]
  have hev : evA c (.tmp s) = .sl k l' := hx
  obtain ⟨_, b, hb, ep⟩ := rep_xp (hp ▸ hi.eval (opsOk_mem ho hm1))
  obtain ⟨G', E', O1, O2⟩ := hi.good.relabel (s := s) (d := .cell i off)
  have hi1 : Inv n W0 G0 { c with os := c.os.filter (fun i => !Nat.beq i s) } a w { g with own := fun b => (g.own b).map (moved (.slot s) (.cell i off)) } :=
    ⟨hi.size, hi.defers, hi.fr, fun j hj => by
      have hj' := List.mem_filter.1 hj
      have hne : j ≠ s := by rintro rfl; simp at hj'
      obtain ⟨k, l, h1, h2⟩ := hi.os j hj'.1
      exact ⟨k, l, h1, O1 _ k _ (by simp [hne]) h2⟩, G', E' _ _ hi.ext, hi.ecl, hi.b0⟩
  obtain ⟨k', l'', e1, e2⟩ := hi.os s hs
  rw [hx] at e1
  cases e1
  have hrs := hi.eval (opsOk_mem ho hm2)
  rw [hev] at hrs
  obtain ⟨w', hrun, hcont⟩ := hi1.storeAt (x := .sl k l') (y := a.eval (.tmp s)) ht (.inr rfl) hb (mem_env hbox) hrs hsz hfit
  have hil := (List.getElem?_eq_some_iff.1 hbox).1
  have hcl : Bx.cl c.base 0 (.cells (wrL l off [.sl k l']) (off :: os.filter fun j => decide (j < off ∨ off + 1 ≤ j))) := by
    have := hi.ecl _ (List.mem_of_getElem? hbox)
    simp only [Bx.cl] at this ⊢
    exact clL_app (clL_app (clL_take _ this) (by simp only [clL]; exact ⟨by simp only [AV.cl], trivial⟩)) (clL_drop _ this)
  have hi' := hcont (off :: os.filter fun j => decide (j < off ∨ off + 1 ≤ j)) (fun j hj => by
    rcases List.mem_cons.1 hj with rfl | hj
    · exact .inr ⟨k, l', rfl, rfl, O2 k _ e2⟩
    · exact .inl (by simpa [AV.leaves] using hj)) { c with os := c.os.filter (fun i => !Nat.beq i s), env := c.env.set i (.cells (wrL l off [.sl k l']) (off :: os.filter fun j => decide (j < off ∨ off + 1 ≤ j))) }
    rfl rfl (set_env hil) (by simp [Cfg.base]) (ecl_set hi.ecl hcl)
  unfold Oper.wp
  have hrun' : (execOp a.eval ⟨dst, .store t p (.tmp s), type, pos, after, guard⟩).run P w = .ok .skip w' := by
    simp [execOp, Instr.storeAt, ep, Instr.sureAddr, hrun]
  rw [hrun']
  exact hn _ _ _ _ h (hi'.putO (opsOk_dst ho) (rep_v_mk rfl))

/-- A slice is read out of a box, and the right to append with it. -/
theorem XStep.loadOwn {t : TypeId} {p : Operand} {d off k : Nat} {l l' : List AV} {os : List Nat} (ho : opsOk n ⟨some d, .load t p, type, pos, after, guard⟩ = true) (ht : (P.underlying t).isSome = true) (hta : isAggT P t = false) (hl : l[off]? = some (.sl k l')) (hos : off ∈ os) (c' : Cfg)
    (hp : (∃ i, evA c p = .bp i off ∧ c.own[i]? = some (.cells l os) ∧ c' = { c with own := c.own.set i (.cells l (os.filter fun j => !Nat.beq j off)) }) ∨ (∃ i, evA c p = .xp i off ∧ c.env[i]? = some (.cells l os) ∧ c' = { c with env := c.env.set i (.cells l (os.filter fun j => !Nat.beq j off)) }))
    (h : K (c'.putOwn d (.sl k l'))) : XStep P n ⟨some d, .load t p, type, pos, after, guard⟩ c K := by
  intro W0 G0 a w g hi next Q hn
  have hm1 : p ∈ (Op.load t p).operands := by simp [Op.operands]
  have hrp := hi.eval (opsOk_mem ho hm1)
  obtain ⟨dd, hd⟩ := Option.isSome_iff_exists.1 ht
  have fin : ∀ (q b : Nat), g.bs[q]? = some b → a.eval p = .pointer (some ⟨b, off, none⟩) → c.mem[q]? = some (.cells l os) → c'.fr = c.fr → c'.os = c.os → c'.mem = c.mem.set q (.cells l (os.filter fun j => !Nat.beq j off)) → c'.base = c.base → (∀ y ∈ c'.env, Bx.cl c.base 0 y) →
      (Oper.wp P ⟨some d, .load t p, type, pos, after, guard⟩ a w next Q) := by
    intro q b hb ep hq e1 e2 e3 e4 e5
    obtain ⟨cs, e, hheap, hrl, hown⟩ := hi.good.box q _ b hq hb
    obtain ⟨k2, l2, y, f1, f2, f3⟩ := hown off hos
    rw [hl] at f1
    cases f1
    obtain ⟨v, hv, hrv, _, hone⟩ := hrl.get hl
    have hyv : y = v := by
      have : cs[off]? = some v := by simpa using hv
      rw [f2] at this; cases this; rfl
    subst hyv
    obtain ⟨hi', O⟩ := hi.takeCell (d := d) hq e1 e2 e3 e4 e5
    have hrep : Rep w g.hw g.bs c.base (.sl k l') y := rep_mk_leaf rfl (visAgg_of hone) hrv
    unfold Oper.wp
    have hcell : w.cell? ⟨b, off, none⟩ = some y := by
      simp only [World.cell?, hheap, Option.isSome_none, Bool.false_eq_true, if_false]; exact f2
    have hrun : (execOp a.eval ⟨some d, .load t p, type, pos, after, guard⟩).run P w = .ok (.value y) w := by
      simp [execOp, ep, Instr.loadAt, Instr.sureAddr, loadVar, run_isAgg hd, hta, hcell]
    rw [hrun]
    exact hn _ _ _ _ h (hi'.putOwn (opsOk_dst ho d rfl) (by rw [e4]; exact hrep) (O k y f3))
  rcases hp with ⟨i, em, hl', rfl⟩ | ⟨i, em, hl', rfl⟩
  · obtain ⟨b, hb, e⟩ := rep_bp (em ▸ hrp)
    exact fin _ b hb e (mem_own hl') rfl rfl set_own rfl hi.ecl
  · obtain ⟨_, b, hb, e⟩ := rep_xp (em ▸ hrp)
    have hil := (List.getElem?_eq_some_iff.1 hl').1
    refine fin i b hb e (mem_env hl') rfl rfl (set_env hil) (by simp [Cfg.base]) (ecl_set hi.ecl ?_)
    have := hi.ecl _ (List.mem_of_getElem? hl')
    exact this

def makeMapA (P : Program) (c : Cfg) (t : TypeId) (r : Option Operand) (dst : Option Tmp) (K : Cfg → Prop) : Prop :=
  match P.underlying t, dst with
  | some (.map _ _), some d => (match r with
    | none | some (.const (.int _ _)) => K (({ c with own := c.own ++ [.map []] } : Cfg).put (some d) (.mo c.own.length))
    | _ => False)
  | _, _ => False
theorem makeMapA_sound {t : TypeId} {r : Option Operand} (ho : opsOk n ⟨dst, .makeMap t r, type, pos, after, guard⟩ = true) (h : makeMapA P c t r dst K) : XStep P n ⟨dst, .makeMap t r, type, pos, after, guard⟩ c K := by
  unfold makeMapA at h
  split at h
  · rename_i kt et d hu
    split at h
    · exact XStep.makeMap ho hu (.inl rfl) h
    · exact XStep.makeMap ho hu (.inr ⟨_, _, rfl⟩) h
    · exact h.elim
  · exact h.elim

def mapUpdateA (P : Program) (c : Cfg) (t : TypeId) (m k x : Operand) (dst : Option Tmp) (K : Cfg → Prop) : Prop :=
  match P.underlying t, evA c k with
  | some (.map kt _), .v (.string s) => (match P.underlying kt with
    | some .string => bif pf1 (evA c x) && !(evA c x).isTup then (match evA c m with
      | .mo i => (match c.own[i]? with
        | some (.map l) => K (({ c with own := c.own.set i (.map (setM l s (evA c x))) } : Cfg).put dst (.v undef))
        | _ => False)
      | .mx i => (match c.env[i]? with
        | some (.map l) => K (({ c with env := c.env.set i (.map (setM l s (evA c x))) } : Cfg).put dst (.v undef))
        | _ => False)
      | _ => False) else False
    | _ => False)
  | _, _ => False
theorem mapUpdateA_sound {t : TypeId} {m k x : Operand} (ho : opsOk n ⟨dst, .mapUpdate t m k x, type, pos, after, guard⟩ = true) (h : mapUpdateA P c t m k x dst K) : XStep P n ⟨dst, .mapUpdate t m k x, type, pos, after, guard⟩ c K := by
  unfold mapUpdateA at h
  split at h
  · rename_i kt et s hu hk
    split at h
    · rename_i hkt
      cases hc : (pf1 (evA c x) && !(evA c x).isTup) with
      | false => rw [hc] at h; exact h.elim
      | true =>
        rw [hc] at h
        simp only [Bool.and_eq_true, Bool.not_eq_true'] at hc
        simp only [cond_true] at h
        split at h
        · rename_i i hm
          split at h
          · rename_i l hl; exact XStep.mapUpdate ho hu hkt hk (pf_of1 hc.1) hc.2 _ (.inl ⟨i, hm, hl, rfl⟩) h
          · exact h.elim
        · rename_i i hm
          split at h
          · rename_i l hl; exact XStep.mapUpdate ho hu hkt hk (pf_of1 hc.1) hc.2 _ (.inr ⟨i, hm, hl, rfl⟩) h
          · exact h.elim
        · exact h.elim
    · exact h.elim
  · exact h.elim
end
end Go.Ev
end
section
/- Written by this session: a slice is compared with nil; a cap of nothing. Conditions: none beyond those in each statement. -/
namespace Go.Ev
open Go

theorem run_nilEq {P : Program} {t e : TypeId} (hu : P.underlying t = some (.slice e)) (a : Option Addr) (n c n0 c0 : Nat) (w : World) :
    (Op.equal t (.slice a n c) (.slice none n0 c0)).run P w = .ok a.isNone w := by
  have : ∀ d : Nat, (Op.equalIn (d + 1) t (.slice a n c) (.slice none n0 c0)).run P w = .ok a.isNone w := fun d => by
    cases a <;> simp only [Op.equalIn, Sem.run_bind, run_und hu, Result.andThen_ok, Sem.run_pure] <;> rfl
  exact this 9999

theorem exec_nilEq {P : Program} {op : BinOp} {t yt e : TypeId} (hop : op = .eql ∨ op = .neq) (hu : P.underlying t = some (.slice e)) {ev : Operand → Value} {x y : Operand} {a : Option Addr} {n c n0 c0 : Nat} {dst : Option Tmp} {type : TypeId} {pos : String} {after : Array Edge} {guard : Option (Nat × Bool)}
    (hx : ev x = .slice a n c) (hy : ev y = .slice none n0 c0) (w : World) : (execOp ev ⟨dst, .binOp op t x y yt, type, pos, after, guard⟩).run P w = .ok (.value (.bool (bif decide (op = .eql) then a.isNone else !a.isNone))) w := by
  have he : (Op.equal t (.slice a n c) (.slice none n0 c0)).run P w = .ok a.isNone w := run_nilEq hu a n c n0 c0 w
  rcases hop with rfl | rfl <;> simp [execOp, hx, hy, eqGuard, binOp, he]

def nilEqA (P : Program) (c : Cfg) (op : BinOp) (t : TypeId) (x : AV) (dst : Option Tmp) (K : Cfg → Prop) : Prop :=
  match P.underlying t, x with
  | some (.slice _), .sl _ l => (l = [] → K (c.put dst (.v (.bool (bif decide (op = .eql) then true else false))))) ∧ K (c.put dst (.v (.bool (bif decide (op = .eql) then false else true))))
  | some (.slice _), .bs .. => K (c.put dst (.v (.bool (bif decide (op = .eql) then false else true))))
  | some (.slice _), .xs .. => K (c.put dst (.v (.bool (bif decide (op = .eql) then false else true))))
  | some (.slice _), .v (.slice none _ _) => K (c.put dst (.v (.bool (bif decide (op = .eql) then true else false))))
  | _, _ => False

section
variable {P : Program} {n : Nat} {c : Cfg} {K : Cfg → Prop} {dst : Option Tmp} {type : TypeId} {pos : String} {after : Array Edge} {guard : Option (Nat × Bool)}

theorem XStep.nilEq {op : BinOp} {t yt : TypeId} {x y : Operand} {n0 c0 : Nat} (hop : op = .eql ∨ op = .neq) (ho : opsOk n ⟨dst, .binOp op t x y yt, type, pos, after, guard⟩ = true) (hy : evA c y = .v (.slice none n0 c0)) (h : nilEqA P c op t (evA c x) dst K) :
    XStep P n ⟨dst, .binOp op t x y yt, type, pos, after, guard⟩ c K := by
  intro W0 G0 a w g hi next Q hn
  have hmx : x ∈ (Op.binOp op t x y yt).operands := by simp [Op.operands]
  have hmy : y ∈ (Op.binOp op t x y yt).operands := by simp [Op.operands]
  have ey := (rep_v (hy ▸ hi.eval (opsOk_mem ho hmy))).1
  have hr := hi.eval (opsOk_mem ho hmx)
  have go : ∀ (e : TypeId) (A : Option Addr) (m q : Nat), P.underlying t = some (.slice e) → a.eval x = .slice A m q → K (c.put dst (.v (.bool (bif decide (op = .eql) then A.isNone else !A.isNone)))) →
      Oper.wp P ⟨dst, .binOp op t x y yt, type, pos, after, guard⟩ a w next Q := by
    intro e A m q hu ex hk
    unfold Oper.wp
    rw [exec_nilEq hop hu ex ey]
    exact hn _ _ _ g hk (hi.putO (opsOk_dst ho) rep_bool)
  unfold nilEqA at h
  split at h
  · rename_i e k l hu hx
    obtain ⟨A, q, ex, _, _, hh⟩ := rep_sl (hx ▸ hr)
    cases A with
    | none =>
      refine go e none _ q hu ex (h.1 ?_)
      rcases hh with rfl | ⟨b, o, cs, e', _⟩
      · rfl
      · cases e'
    | some A => exact go e (some A) _ q hu ex h.2
  · rename_i e i off k m q hu hx
    obtain ⟨b, _, _, _, _, ex⟩ := rep_bs (hx ▸ hr)
    exact go e _ _ _ hu ex h
  · rename_i e i off k m q hu hx
    obtain ⟨_, b, _, _, _, _, ex⟩ := rep_xs (hx ▸ hr)
    exact go e _ _ _ hu ex h
  · rename_i e m q hu hx
    have ex := (rep_v (hx ▸ hr)).1
    exact go e none _ _ hu ex h
  · exact h.elim

end
end Go.Ev
end
section
/- Written by this session: slices that lie in boxes: copy, append, make. Conditions: none beyond those in each statement. -/
namespace Go.Ev
open Go

theorem leavesE {w : World} {hw : Hw} {k : Nat} : ∀ (l : List AV) (vs : List Value), RepE w hw k l vs → RepL w hw [] 0 (l.flatMap AV.leaves) vs
  | [], _, h => by simp only [RepE] at h; subst h; simp only [List.flatMap_nil, RepL]
  | x :: l, vs, h => by
    simp only [RepE] at h
    obtain ⟨_, h2, h3⟩ := h
    have h1 := repV_leaves h2.1 h2.2
    have := h1.append (leavesE l _ h3)
    rw [List.take_append_drop] at this
    simpa using this

theorem RepL.one {w : World} {hw : Hw} {bs : List Nat} {base : Nat} : ∀ {l : List AV} {vs : List Value}, RepL w hw bs base l vs → ∀ u ∈ vs, u.oneCell' = true
  | [], _, h, u, hu => by simp only [RepL] at h; subst h; simp at hu
  | x :: l, _, h, u, hu => by
    simp only [RepL] at h
    obtain ⟨v, vs', rfl, h1, h2⟩ := h
    rcases List.mem_cons.1 hu with rfl | hu
    · exact h1.2.2
    · exact RepL.one h2 u hu

theorem wrL_all {α : Type} (l : List α) (off : Nat) (xs : List α) : wrL l off xs = l.take off ++ xs ++ l.drop (off + xs.length) := rfl

section
variable {n : Nat} {W0 : World} {G0 : Gh} {c : Cfg} {a : Act} {w : World} {g : Gh} {P : Program}

/-- A row is written into a box. -/
theorem Inv.writeRow (hi : Inv n W0 G0 c a w g) {q off b : Nat} {l ls : List AV} {os : List Nat} {news : List Value} {cs : Array Value} {e : TypeId} (hb : g.bs[q]? = some b) (hbox : c.mem[q]? = some (.cells l os)) (hheap : w.heap[b]? = some (.cells cs e (0, 0)))
    (hr : RepL w g.hw g.bs c.base ls news) (hfit : off + ls.length ≤ l.length) (c' : Cfg) (e1 : c'.fr = c.fr) (e2 : c'.os = c.os)
    (e3 : c'.mem = c.mem.set q (.cells (wrL l off ls) (os.filter fun j => decide (j < off ∨ off + ls.length ≤ j)))) (e4 : c'.base = c.base) (e5 : ∀ x ∈ c'.env, Bx.cl c.base 0 x) :
    Inv n W0 G0 c' a (w.setRow b (wrL cs.toList off news).toArray) g := by
  obtain ⟨cs0, e0, hheap0, hrl, hos⟩ := hi.good.box q _ b hbox hb
  rw [hheap] at hheap0
  cases hheap0
  have hlen := RepL.length hrl
  simp only [Array.length_toList] at hlen
  have hL : news.length = ls.length := RepL.length hr
  have W := oneBlk_setRow (cs' := (wrL cs.toList off news).toArray) hheap
  refine hi.writeAt hbox hb W (fun hH hO => ?_) c' e1 e2 e3 e4 e5
  refine ⟨_, e, W.blk, ?_, fun j hj => ?_⟩
  · have h1 := RepL.mono hH (fun _ _ h => h) _ _ hrl
    have h2 := RepL.mono hH (fun _ _ h => h) _ _ hr
    rw [show (wrL cs.toList off news).toArray.toList = cs.toList.take off ++ news ++ cs.toList.drop (off + ls.length) from by simp only [wrL, hL]]
    exact ((h1.take off).append h2).append (h1.drop (off + ls.length))
  · have hj' := List.mem_filter.1 hj
    have hjr : j < off ∨ off + ls.length ≤ j := by simpa using hj'.2
    obtain ⟨k, l', v, f1, f2, f3⟩ := hos j hj'.1
    refine ⟨k, l', v, by rw [wrL_get hfit hjr]; exact f1, ?_, f3.mono fun b' e => hO _ b' e⟩
    rw [List.getElem?_toArray, wrL_get (by rw [hL]; simpa [hlen] using hfit) (by rw [hL]; exact hjr)]
    simpa using f2

/-- The elements of a slice, as leaves. -/
def srcA (c : Cfg) (k : Nat) (x : AV) (K : Nat → List AV → Prop) : Prop :=
  match x with
  | .sl k' l => bif Nat.beq k k' then K l.length (l.flatMap AV.leaves) else False
  | .bs i off k' m _ => bif Nat.beq k k' then (match c.own[i]? with
    | some (.cells l _) => off + m * k ≤ l.length ∧ K m ((l.drop off).take (m * k))
    | _ => False) else False
  | .xs i off k' m _ => bif Nat.beq k k' then (match c.env[i]? with
    | some (.cells l _) => off + m * k ≤ l.length ∧ K m ((l.drop off).take (m * k))
    | _ => False) else False
  | .v (.slice none 0 _) => K 0 []
  | _ => False

theorem src_run (hi : Inv n W0 G0 c a w g) {k : Nat} {x : AV} {y : Value} {K : Nat → List AV → Prop} (h : srcA c k x K) (hr : Rep w g.hw g.bs c.base x y) :
    ∃ m ls A cp cs, K m ls ∧ y = .slice A m cp ∧ RepL w g.hw g.bs c.base ls cs ∧ cs.length = m * k ∧ ∀ j, j ≤ m → ∀ w' : World, w'.heap = w.heap → (Builtin.firstCells k j y).run P w' = .ok (cs.take (j * k)).toArray w' := by
  have boxed : ∀ (q off m cp b : Nat) (l : List AV) (os : List Nat), c.mem[q]? = some (.cells l os) → g.bs[q]? = some b → y = .slice (some ⟨b, off, none⟩) m cp → off + m * k ≤ l.length → K m ((l.drop off).take (m * k)) →
      ∃ m ls A cp cs, K m ls ∧ y = .slice A m cp ∧ RepL w g.hw g.bs c.base ls cs ∧ cs.length = m * k ∧ ∀ j, j ≤ m → ∀ w' : World, w'.heap = w.heap → (Builtin.firstCells k j y).run P w' = .ok (cs.take (j * k)).toArray w' := by
    intro q off m cp b l os hbox hb ey hfit hk
    obtain ⟨cs, e, hheap, hrl, _⟩ := hi.good.box q _ b hbox hb
    have hlen := RepL.length hrl
    refine ⟨m, _, _, cp, (cs.toList.drop off).take (m * k), hk, ey, (hrl.drop off).take (m * k), by simp only [List.length_take, List.length_drop, hlen]; omega, fun j hj w' hw' => ?_⟩
    subst ey
    have hjk : j * k ≤ m * k := Nat.mul_le_mul_right _ hj
    have hc : CellsAt w' b off ((cs.toList.drop off).take (j * k)) := by
      have h0 := (cells_of_block (w := w') (b := b) (cs := cs) (e := e) (f := (0, 0)) (by rw [hw']; exact hheap)).sub off (j * k)
      simpa using h0
    simp only [Builtin.firstCells]
    have : (((cs.toList.drop off).take (m * k)).take (j * k)) = (cs.toList.drop off).take (j * k) := by rw [List.take_take, Nat.min_eq_left hjk]
    rw [this]
    unfold loadCells
    rw [run_loadCellsFrom (j * k) 0 #[] ((cs.toList.drop off).take (j * k)) (by simp only [List.length_take, List.length_drop, hlen]; omega) (fun i v hv => by simpa using hc i v hv)]
    simp
  unfold srcA at h
  split at h
  · rename_i k' l
    cases hb : Nat.beq k k' with
    | false => rw [hb] at h; exact h.elim
    | true =>
      rw [hb] at h
      have := Nat.eq_of_beq_eq_true hb
      subst this
      obtain ⟨A, cp, e, _, hk0, hh⟩ := rep_sl hr
      subst e
      rcases hh with rfl | ⟨b, o, cs, rfl, hc, hE⟩
      · refine ⟨0, _, A, cp, [], h, rfl, by simp [RepL], by simp, fun j hj w' _ => ?_⟩
        obtain rfl : j = 0 := by omega
        cases A <;> simp [Builtin.firstCells, loadCells, loadCellsFrom]
      · refine ⟨l.length, _, _, cp, cs, h, rfl, RepL.lift _ _ (leavesE l cs hE), RepE.len hE, fun j hj w' hw' => ?_⟩
        have hl := RepE.len hE
        have hjk : j * k ≤ l.length * k := Nat.mul_le_mul_right _ hj
        have hc' := hc.at
        simp only [Builtin.firstCells]
        unfold loadCells
        rw [run_loadCellsFrom (j * k) 0 #[] (cs.take (j * k)) (by simp only [List.length_take]; omega) (fun i v hv => by
          rw [List.getElem?_take] at hv
          split at hv
          · rw [show w'.cell? ⟨b, o + 0 + i, none⟩ = w.cell? ⟨b, o + i, none⟩ from cell?_same (by rw [hw'])]; exact hc' i v hv
          · cases hv)]
        simp
  · rename_i i off k' m cp
    cases hb : Nat.beq k k' with
    | false => rw [hb] at h; exact h.elim
    | true =>
      rw [hb] at h
      have := Nat.eq_of_beq_eq_true hb
      subst this
      simp only [cond_true] at h
      split at h
      · rename_i l os hbox
        obtain ⟨b, hb, _, _, _, ey⟩ := rep_bs hr
        exact boxed _ off m cp b l os (mem_own hbox) hb ey h.1 h.2
      · exact h.elim
  · rename_i i off k' m cp
    cases hb : Nat.beq k k' with
    | false => rw [hb] at h; exact h.elim
    | true =>
      rw [hb] at h
      have := Nat.eq_of_beq_eq_true hb
      subst this
      simp only [cond_true] at h
      split at h
      · rename_i l os hbox
        obtain ⟨_, b, hb, _, _, _, ey⟩ := rep_xs hr
        exact boxed _ off m cp b l os (mem_env hbox) hb ey h.1 h.2
      · exact h.elim
  · rename_i cp
    have ey := (rep_v hr).1
    subst ey
    refine ⟨0, [], none, cp, [], h, rfl, by simp only [RepL], by simp, fun j hj w' _ => ?_⟩
    simp [Builtin.firstCells]
  · exact h.elim

def setBox (c : Cfg) (own : Bool) (i : Nat) (x : Bx) : Cfg := bif own then { c with own := c.own.set i x } else { c with env := c.env.set i x }

def mkSl (ow : Bool) (i off k n c : Nat) : AV := bif ow then .bs i off k n c else .xs i off k n c

/-- The box and the row of it in which a slice lies. -/
def dstA (c : Cfg) (k : Nat) (x : AV) (K : Bool → Nat → Nat → Nat → Nat → List AV → List Nat → Prop) : Prop :=
  match x with
  | .bs i off k' m cp => bif Nat.beq k k' then (match c.own[i]? with
    | some (.cells l os) => K true i off m cp l os
    | _ => False) else False
  | .xs i off k' m cp => bif Nat.beq k k' then (match c.env[i]? with
    | some (.cells l os) => K false i off m cp l os
    | _ => False) else False
  | _ => False

theorem dst_run (hi : Inv n W0 G0 c a w g) {k : Nat} {x : AV} {y : Value} {K : Bool → Nat → Nat → Nat → Nat → List AV → List Nat → Prop} (h : dstA c k x K) (hr : Rep w g.hw g.bs c.base x y) :
    ∃ ow i off m cp l os q b cs e, K ow i off m cp l os ∧ y = .slice (some ⟨b, off, none⟩) m cp ∧ g.bs[q]? = some b ∧ c.mem[q]? = some (.cells l os) ∧ w.heap[b]? = some (.cells cs e (0, 0)) ∧ cs.size = l.length ∧ 0 < k ∧ m ≤ cp ∧ cp ≤ 9223372036854775807 ∧
      (∀ (w' : World) (hw' : Hw) (m' : Nat), m' ≤ cp → Rep w' hw' g.bs c.base (mkSl ow i off k m' cp) (.slice (some ⟨b, off, none⟩) m' cp)) ∧
      (∀ off' ls os', (ow = true ∨ pfL ls = true) → (setBox c ow i (.cells (wrL l off' ls) os')).mem = c.mem.set q (.cells (wrL l off' ls) os') ∧ (∀ x ∈ (setBox c ow i (.cells (wrL l off' ls) os')).env, Bx.cl c.base 0 x) ∧ (setBox c ow i (.cells (wrL l off' ls) os')).base = c.base) := by
  unfold dstA at h
  split at h
  · rename_i i off k' m cp
    cases hb : Nat.beq k k' with
    | false => rw [hb] at h; exact h.elim
    | true =>
      rw [hb] at h
      have := Nat.eq_of_beq_eq_true hb
      subst this
      simp only [cond_true] at h
      split at h
      · rename_i l os hbox
        obtain ⟨b, hb, hk0, hmc, hcp, ey⟩ := rep_bs hr
        obtain ⟨cs, e, hheap, hrl, _⟩ := hi.good.box _ _ b (mem_own hbox) hb
        have hlen := RepL.length hrl
        refine ⟨true, i, off, m, cp, l, os, _, b, cs, e, h, ey, hb, mem_own hbox, hheap, by simpa using hlen, hk0, hmc, hcp, fun w' hw' m' hm' => rep_mk_leaf rfl rfl (by simp only [mkSl, cond_true, RepV]; exact ⟨b, hb, hk0, hm', hcp, rfl⟩), fun off' ls os' _ => ⟨set_own, hi.ecl, rfl⟩⟩
      · exact h.elim
  · rename_i i off k' m cp
    cases hb : Nat.beq k k' with
    | false => rw [hb] at h; exact h.elim
    | true =>
      rw [hb] at h
      have := Nat.eq_of_beq_eq_true hb
      subst this
      simp only [cond_true] at h
      split at h
      · rename_i l os hbox
        obtain ⟨hib, b, hb, hk0, hmc, hcp, ey⟩ := rep_xs hr
        obtain ⟨cs, e, hheap, hrl, _⟩ := hi.good.box _ _ b (mem_env hbox) hb
        have hlen := RepL.length hrl
        have hil := (List.getElem?_eq_some_iff.1 hbox).1
        have hcl : ∀ off' ls os', pfL ls = true → Bx.cl c.base 0 (.cells (wrL l off' ls) os') := fun off' ls os' hp => by
          have := hi.ecl _ (List.mem_of_getElem? hbox)
          simp only [Bx.cl] at this ⊢
          exact clL_app (clL_app (clL_take _ this) (clL_of_pf _ hp)) (clL_drop _ this)
        refine ⟨false, i, off, m, cp, l, os, _, b, cs, e, h, ey, hb, mem_env hbox, hheap, by simpa using hlen, hk0, hmc, hcp, fun w' hw' m' hm' => rep_mk_leaf rfl rfl (by simp only [mkSl, cond_false, RepV]; exact ⟨hib, b, hb, hk0, hm', hcp, rfl⟩), fun off' ls os' hp => ⟨set_env hil, ecl_set hi.ecl (hcl _ _ _ (by simpa using hp)), by simp [setBox, Cfg.base]⟩⟩
      · exact h.elim
  · exact h.elim

/-- copy. -/
def copyA (P : Program) (c : Cfg) (cl : Call) (dst : Option Tmp) (K : Cfg → Prop) : Prop :=
  match cl.args.toList, cl.argTypes.toList with
  | [d, s], [t, _] => (match P.underlying t with
    | some (.slice e) => bif (P.underlying e).isSome then dstA c (P.cellsOf e) (evA c d) fun ow i off m _ l os => srcA c (P.cellsOf e) (evA c s) fun ms ls =>
        off + m * P.cellsOf e ≤ l.length ∧ (ow = true ∨ pfL ls = true) ∧
          K ((setBox c ow i (.cells (wrL l off (ls.take (Nat.min ms m * P.cellsOf e))) (os.filter fun j => decide (j < off ∨ off + (ls.take (Nat.min ms m * P.cellsOf e)).length ≤ j)))).put dst (.v (.int .i64 (Nat.min ms m)))) else False
    | _ => False)
  | _, _ => False
end

theorem pfL_take : ∀ {l : List AV} (k : Nat), pfL l = true → pfL (l.take k) = true
  | _, 0, _ => by simp [pfL]
  | [], k + 1, _ => by simp [pfL]
  | x :: l, k + 1, h => by simp only [List.take_succ_cons, pfL, Bool.and_eq_true] at h ⊢; exact ⟨h.1, pfL_take k h.2⟩

section
variable {P : Program} {n : Nat} {c : Cfg} {K : Cfg → Prop} {dst : Option Tmp} {type : TypeId} {pos : String} {after : Array Edge} {guard : Option (Nat × Bool)}

theorem copyA_sound {cl : Call} (hcl : cl.callee = .builtin .copy) (ho : opsOk n ⟨dst, .call cl, type, pos, after, guard⟩ = true) (h : copyA P c cl dst K) : XStep P n ⟨dst, .call cl, type, pos, after, guard⟩ c K := by
  obtain ⟨callee, args, argTypes⟩ := cl
  simp only at hcl
  subst hcl
  unfold copyA at h
  split at h
  · rename_i d s t t' ha ht
    have e1 : args = #[d, s] := by apply Array.toList_inj.1; simpa using ha
    have e2 : argTypes = #[t, t'] := by apply Array.toList_inj.1; simpa using ht
    subst e1 e2
    split at h
    · rename_i e hu
      cases hz : (P.underlying e).isSome with
      | false => rw [hz] at h; exact h.elim
      | true =>
        rw [hz] at h
        simp only [cond_true] at h
        intro W0 G0 a w g hi next Q hn
        have hmd : d ∈ (Op.call ⟨.builtin .copy, #[d, s], #[t, t']⟩).operands := by simp [Op.operands, Call.operands]
        have hms : s ∈ (Op.call ⟨.builtin .copy, #[d, s], #[t, t']⟩).operands := by simp [Op.operands, Call.operands]
        obtain ⟨ow, i, off, m, cp, l, os, q, b, cs, et, h, ed, hb, hbox, hheap, hsz, hk0, hmc, _, _, hset⟩ := dst_run hi h (hi.eval (opsOk_mem ho hmd))
        obtain ⟨ms, ls, A, cps, news, ⟨hfit, hpf, hK⟩, es, hrn, hnl, hfc⟩ := src_run (P := P) hi h (hi.eval (opsOk_mem ho hms))
        have hls := RepL.length hrn
        have hmm : Nat.min ms m * P.cellsOf e ≤ m * P.cellsOf e := Nat.mul_le_mul_right _ (Nat.min_le_right _ _)
        have hmm' : Nat.min ms m * P.cellsOf e ≤ ms * P.cellsOf e := Nat.mul_le_mul_right _ (Nat.min_le_left _ _)
        have hL : (ls.take (Nat.min ms m * P.cellsOf e)).length = Nat.min ms m * P.cellsOf e := by rw [List.length_take]; omega
        have hN : (news.take (Nat.min ms m * P.cellsOf e)).length = Nat.min ms m * P.cellsOf e := by rw [List.length_take]; omega
        have hst := run_storeCells_at P b off et (news.take (Nat.min ms m * P.cellsOf e)) 0 cs w hheap (by rw [hN]; omega) (fun v hv => RepL.one hrn v (List.mem_of_mem_take hv))
        simp only [Nat.add_zero] at hst
        have hpf' : ow = true ∨ pfL (ls.take (Nat.min ms m * P.cellsOf e)) = true := hpf.imp id (pfL_take _)
        obtain ⟨s1, s2, s3⟩ := hset off (ls.take (Nat.min ms m * P.cellsOf e)) (os.filter fun j => decide (j < off ∨ off + (ls.take (Nat.min ms m * P.cellsOf e)).length ≤ j)) hpf'
        have hi' := hi.writeRow hb hbox hheap (hrn.take _) (by rw [hL]; omega) (setBox c ow i (.cells (wrL l off (ls.take (Nat.min ms m * P.cellsOf e))) (os.filter fun j => decide (j < off ∨ off + (ls.take (Nat.min ms m * P.cellsOf e)).length ≤ j)))) (by cases ow <;> rfl) (by cases ow <;> rfl) s1 s3 s2
        unfold Oper.wp
        have hrun : (execOp a.eval ⟨dst, .call ⟨.builtin .copy, #[d, s], #[t, t']⟩, type, pos, after, guard⟩).run P w = .ok (.value (goInt (Nat.min ms m))) (w.setRow b (wrL cs.toList off (news.take (Nat.min ms m * P.cellsOf e))).toArray) := by
          have hfc' := hfc (Nat.min ms m) (Nat.min_le_left _ _) w rfl
          rw [es] at hfc'
          simp only [execOp, resolve, invoke, builtin, Sem.run_bind, Sem.run_pure, Result.andThen_ok, List.map_toArray, List.map_cons, List.map_nil, ed, es, Builtin.copy_, Builtin.lenOf]
          simp [hst, wrL_all, run_und hu, run_size (info_of_und hz), hfc']
        rw [hrun]
        exact hn _ _ _ g hK (hi'.putO (opsOk_dst ho) rep_int)
    · exact h.elim
  · exact h.elim
end
end Go.Ev
end
