/- Written by programs of this session: laws and contracts that the law's proof stands on, merged into one text. Conditions: none beyond those in each statement. -/
import Derived.Test.YtepdiooaoegpfaaGreatDoorPkEv8
section
/- Written by this session: the steps of a region, over trees. Conditions: none beyond those in each statement. -/
namespace Go.Ev
open Go

def dstOk (n : Nat) : Option Tmp → Bool
  | some d => Nat.blt d n
  | none => true

def XStep (P : Program) (n : Nat) (o : Oper) (c : Cfg) (K : Cfg → Prop) : Prop :=
  ∀ W0 G0 a w g, Inv n W0 G0 c a w g → ∀ (next : Act → World → Prop) (Q : Exit → Act → World → Prop), (∀ c' a' w' g', K c' → Inv n W0 G0 c' a' w' g' → next a' w') → o.wp P a w next Q

def opsOk (n : Nat) (o : Oper) : Bool := o.op.operands.toList.all (okTmp n) && dstOk n o.dst

theorem opsOk_dst {n : Nat} {o : Oper} (h : opsOk n o = true) : ∀ x, o.dst = some x → x < n := fun x e => by
  simp only [opsOk, Bool.and_eq_true, e, dstOk] at h
  rw [← Nat.blt_eq]; exact h.2
theorem opsOk_mem {n : Nat} {o : Oper} (h : opsOk n o = true) {x : Operand} (hx : x ∈ o.op.operands) : okTmp n x = true := by
  simp only [opsOk, Bool.and_eq_true, List.all_eq_true] at h
  exact h.1 x (by simpa using hx)

section
variable {P : Program} {n : Nat} {o : Oper} {c : Cfg} {K : Cfg → Prop}

theorem XStep.pure (ho : opsOk n o = true) (h : pureA P c.env c.own (evA c) o fun v => K (c.put o.dst v)) : XStep P n o c K := by
  intro W0 G0 a w g hi next Q hn
  obtain ⟨v, hk, hv⟩ := pureA_sound h
  obtain ⟨u, hu, hr⟩ := hv a.eval w g hi.good fun x hx => hi.eval (opsOk_mem ho hx)
  unfold Oper.wp
  rw [hu]
  exact hn _ _ _ g hk (hi.putO (opsOk_dst ho) hr)

/-- An assignment that hands on the right to append. -/
theorem XStep.give {s d : Nat} {type : TypeId} {pos : String} {after : Array Edge} {guard : Option (Nat × Bool)} {op : Op} (hop : op = .assign (.tmp s) ∨ op = .move (.tmp s)) (hs : s ∈ c.os) (hsn : s < n) (hd : d < n) (h : K (c.give s d)) :
    XStep P n ⟨some d, op, type, pos, after, guard⟩ c K := by
  intro W0 G0 a w g hi next Q hn
  have hrun : (execOp a.eval ⟨some d, op, type, pos, after, guard⟩).run P w = .ok (.value (a.tmps.getD s undef)) w := by
    rcases hop with rfl | rfl <;> simp [execOp, Act.eval]
  unfold Oper.wp
  rw [hrun]
  obtain ⟨g', hi'⟩ := hi.give hs hd hsn
  exact hn _ _ _ g' h hi'

def leavesOk (x : AV) : Bool := x.isAgg || x.isLeaf
theorem leavesOk_or {x : AV} (h : leavesOk x = true) : x.isAgg = true ∨ x.isLeaf = true := by simpa [leavesOk] using h

theorem XStep.box {e : TypeId} {x : Operand} {d : Nat} {type : TypeId} {pos : String} {after : Array Edge} {guard : Option (Nat × Bool)} (ho : opsOk n ⟨some d, .box e x, type, pos, after, guard⟩ = true) (hx : leavesOk (evA c x) = true)
    (h : K (({ c with own := c.own ++ [.cells (evA c x).leaves []] } : Cfg).put (some d) (.bp c.own.length 0))) : XStep P n ⟨some d, .box e x, type, pos, after, guard⟩ c K := by
  intro W0 G0 a w g hi next Q hn
  obtain ⟨hc, _⟩ := rep_cells (leavesOk_or hx) (hi.eval (opsOk_mem ho (by simp [Op.operands] : x ∈ _)))
  obtain ⟨g', hi', hb⟩ := hi.newBox (e := e) hc
  unfold Oper.wp
  have hrun : (execOp a.eval ⟨some d, .box e x, type, pos, after, guard⟩).run P w = .ok (.value (.pointer (some ⟨w.heap.size, 0, none⟩))) (push w (.cells (a.eval x).cells e)) := by
    simp [execOp, Instr.box, newVar, newRow, push]
  rw [hrun]
  exact hn _ _ _ g' h (hi'.put (opsOk_dst ho d rfl) (rep_bp_mk hb))

theorem XStep.alloc {e : TypeId} {d : Nat} {i : TypeInfo} {z : Value} {type : TypeId} {pos : String} {after : Array Edge} {guard : Option (Nat × Bool)} (hd : d < n) (hi0 : P.info? e = some i) (hz : i.zero = some z) (hok : okTmp n (.const z) = true) (hx : leavesOk (cst z) = true)
    (h : K (({ c with own := c.own ++ [.cells (cst z).leaves []] } : Cfg).put (some d) (.bp c.own.length 0))) : XStep P n ⟨some d, .alloc e, type, pos, after, guard⟩ c K := by
  intro W0 G0 a w g hi next Q hn
  obtain ⟨hc, _⟩ := rep_cells (leavesOk_or hx) (cst_rep (hw := g.hw) (bs := g.bs) (base := c.base) (w := w) z hok)
  obtain ⟨g', hi', hb⟩ := hi.newBox (e := e) hc
  unfold Oper.wp
  have hrun : (execOp a.eval ⟨some d, .alloc e, type, pos, after, guard⟩).run P w = .ok (.value (.pointer (some ⟨w.heap.size, 0, none⟩))) (push w (.cells z.cells e)) := by
    simp [execOp, Instr.alloc, zeroValue, typeInfo, hi0, hz, newVar, newRow, push]
  rw [hrun]
  exact hn _ _ _ g' h (hi'.put hd (rep_bp_mk hb))

theorem XStep.store {t : TypeId} {p x : Operand} {i off : Nat} {l : List AV} {os : List Nat} {dst : Option Tmp} {type : TypeId} {pos : String} {after : Array Edge} {guard : Option (Nat × Bool)} (ho : opsOk n ⟨dst, .store t p x, type, pos, after, guard⟩ = true)
    (hp : evA c p = .bp i off) (hbox : c.own[i]? = some (.cells l os)) (ht : (P.underlying t).isSome = true) (hx : leavesOk (evA c x) = true) (hsz : (evA c x).leaves.length = P.cellsOf t) (hfit : off + (evA c x).leaves.length ≤ l.length)
    (h : K (({ c with own := c.own.set i (.cells (wrL l off (evA c x).leaves) (os.filter fun j => decide (j < off ∨ off + (evA c x).leaves.length ≤ j))) } : Cfg).put dst (.v undef))) : XStep P n ⟨dst, .store t p x, type, pos, after, guard⟩ c K := by
  intro W0 G0 a w g hi next Q hn
  have hm1 : p ∈ (Op.store t p x).operands := by simp [Op.operands]
  have hm2 : x ∈ (Op.store t p x).operands := by simp [Op.operands]
  obtain ⟨b, hb, ep⟩ := rep_bp (hp ▸ hi.eval (opsOk_mem ho hm1))
  obtain ⟨w', hrun, hi', _⟩ := hi.store ht (leavesOk_or hx) hb hbox (hi.eval (opsOk_mem ho hm2)) hsz hfit
  unfold Oper.wp
  have hrun' : (execOp a.eval ⟨dst, .store t p x, type, pos, after, guard⟩).run P w = .ok .skip w' := by
    simp [execOp, Instr.storeAt, ep, Instr.sureAddr, hrun]
  rw [hrun']
  exact hn _ _ _ g h (hi'.putO (opsOk_dst ho) (rep_v_mk rfl))

/-- A store that hands on the right to append. -/
theorem XStep.storeOwn {t : TypeId} {p : Operand} {s i off k : Nat} {l l' : List AV} {os : List Nat} {dst : Option Tmp} {type : TypeId} {pos : String} {after : Array Edge} {guard : Option (Nat × Bool)} (ho : opsOk n ⟨dst, .store t p (.tmp s), type, pos, after, guard⟩ = true)
    (hp : evA c p = .bp i off) (hbox : c.own[i]? = some (.cells l os)) (ht : (P.underlying t).isSome = true) (hs : s ∈ c.os) (hx : Fr.get c.fr s = .sl k l') (hsz : 1 = P.cellsOf t) (hfit : off + 1 ≤ l.length)
    (h : K (({ c with os := c.os.filter (fun i => !Nat.beq i s), own := c.own.set i (.cells (wrL l off [.sl k l']) (off :: os.filter fun j => decide (j < off ∨ off + 1 ≤ j))) } : Cfg).put dst (.v undef))) : XStep P n ⟨dst, .store t p (.tmp s), type, pos, after, guard⟩ c K := by
  intro W0 G0 a w g hi next Q hn
  have hm1 : p ∈ (Op.store t p (.tmp s)).operands := by simp [Op.operands]
  have hm2 : (Operand.tmp s) ∈ (Op.store t p (.tmp s)).operands := by simp [Op.operands]
  have hev : evA c (.tmp s) = .sl k l' := hx
  obtain ⟨b, hb, ep⟩ := rep_bp (hp ▸ hi.eval (opsOk_mem ho hm1))
  obtain ⟨G', E', O1, O2⟩ := hi.good.relabel (s := s) (d := .cell (c.base + i) off)
  have hi1 : Inv n W0 G0 { c with os := c.os.filter (fun i => !Nat.beq i s) } a w { g with own := fun b => (g.own b).map (moved (.slot s) (.cell (c.base + i) off)) } :=
    ⟨hi.size, hi.defers, hi.fr, fun j hj => by
      have hj' := List.mem_filter.1 hj
      have hne : j ≠ s := by rintro rfl; simp at hj'
      obtain ⟨k, l, h1, h2⟩ := hi.os j hj'.1
      exact ⟨k, l, h1, O1 _ k _ (by simp [hne]) h2⟩, G', E' _ _ hi.ext, hi.ecl, hi.b0⟩
  obtain ⟨k', l'', e1, e2⟩ := hi.os s hs
  rw [hx] at e1
  cases e1
  have hrs := hi.eval (opsOk_mem ho hm2)
  rw [hev] at hrs
  obtain ⟨w', hrun, _, hi'⟩ := hi1.store (x := .sl k l') (y := a.eval (.tmp s)) ht (.inr rfl) hb hbox hrs hsz hfit
  unfold Oper.wp
  have hrun' : (execOp a.eval ⟨dst, .store t p (.tmp s), type, pos, after, guard⟩).run P w = .ok .skip w' := by
    simp [execOp, Instr.storeAt, ep, Instr.sureAddr, hrun]
  rw [hrun']
  exact hn _ _ _ _ h ((hi' k (O2 k _ e2) ⟨l', rfl⟩).putO (opsOk_dst ho) (rep_v_mk rfl))

def Cfg.putOwn (c : Cfg) (d : Nat) (v : AV) : Cfg := { c with fr := (d, v) :: c.fr, os := d :: c.os.filter fun i => !Nat.beq i d }
theorem Inv.putOwn {W0 : World} {G0 : Gh} {a : Act} {w : World} {g : Gh} (hi : Inv n W0 G0 c a w g) {d : Nat} (hd : d < n) {k : Nat} {l : List AV} {u : Value} (hr : Rep w g.hw g.bs c.base (.sl k l) u) (ho : OwnAt w g (.slot d) k u) :
    Inv n W0 G0 (c.putOwn d (.sl k l)) (a.put (some d) u) w g := by
  have h1 := hi.put hd hr
  refine ⟨h1.size, h1.defers, h1.fr, fun i hm => ?_, h1.good, h1.ext, h1.ecl, h1.b0⟩
  rcases List.mem_cons.1 hm with rfl | hm
  · refine ⟨k, l, by simp [Cfg.putOwn, Fr.get_cons], ?_⟩
    rw [getD_put (by rw [hi.size]; exact hd), if_pos rfl]
    exact ho
  · exact h1.os i hm

/-- A slice that may be nil. -/
def asSl (k : Nat) : AV → Option (List AV)
  | .sl k' l => bif Nat.beq k k' then some l else none
  | .v (.slice none 0 0) => some []
  | _ => none
theorem asSl_rep {w : World} {hw : Hw} {bs : List Nat} {base k : Nat} {x : AV} {l : List AV} {y : Value} (hk : 0 < k) (h : asSl k x = some l) (hr : Rep w hw bs base x y) : Rep w hw bs base (.sl k l) y := by
  unfold asSl at h
  split at h
  · rename_i k' l'
    cases hb : Nat.beq k k' with
    | false => rw [hb] at h; cases h
    | true =>
      have := Nat.eq_of_beq_eq_true hb
      subst this
      simp at h
      subst h
      exact hr
  · simp at h; subst h
    obtain ⟨rfl, _⟩ := rep_v hr
    exact rep_sl_mk rfl (Nat.le_refl _) ⟨hk, by simp⟩ (.inl rfl)
  · cases h

theorem XStep.append {t t' e e' : TypeId} {i : TypeInfo} {z : Value} {x0 x1 : Operand} {d k : Nat} {l0 l1 : List AV} {type : TypeId} {pos : String} {after : Array Edge} {guard : Option (Nat × Bool)}
    (ho : opsOk n ⟨some d, .call ⟨.builtin .append, #[x0, x1], #[t, t']⟩, type, pos, after, guard⟩ = true)
    (ht : P.underlying t = some (.slice e)) (ht' : P.underlying t' = some (.slice e')) (hin : P.info? e = some i) (hz : i.zero = some z) (hk : i.size = k) (hk0 : 0 < k) (hzk : z.cells.size = k)
    (h0 : asSl k (evA c x0) = some l0) (h1 : asSl k (evA c x1) = some l1) (s : Nat) (hown : (x0 = .tmp s ∧ s ∈ c.os) ∨ evA c x0 = .v (.slice none 0 0))
    (hb : (l0.length + l1.length) * i.bytes ≤ 140737488355328) (h63 : l0.length + l1.length ≤ 140737488355328)
    (h : K (({ c with os := c.os.filter fun i => !Nat.beq i s } : Cfg).putOwn d (.sl k (l0 ++ l1)))) :
    XStep P n ⟨some d, .call ⟨.builtin .append, #[x0, x1], #[t, t']⟩, type, pos, after, guard⟩ c K := by
  intro W0 G0 a w g hi next Q hn
  have hm0 : x0 ∈ (Op.call ⟨.builtin .append, #[x0, x1], #[t, t']⟩).operands := by simp [Op.operands, Call.operands]
  have hm1 : x1 ∈ (Op.call ⟨.builtin .append, #[x0, x1], #[t, t']⟩).operands := by simp [Op.operands, Call.operands]
  have hr0 := hi.eval (opsOk_mem ho hm0)
  have hr1 := asSl_rep hk0 h1 (hi.eval (opsOk_mem ho hm1))
  have hO : OwnAt w g (.slot s) k (a.eval x0) := by
    rcases hown with ⟨rfl, hs⟩ | hnil
    · obtain ⟨k', l', e1, e2⟩ := hi.os s hs
      have : evA c (.tmp s) = .sl k' l' := e1
      rw [this] at h0
      simp only [asSl] at h0
      cases hb : Nat.beq k k' with
      | false => simp [hb] at h0
      | true =>
        have := Nat.eq_of_beq_eq_true hb
        subst this
        exact e2
    · rw [hnil] at hr0
      obtain ⟨e, _⟩ := rep_v hr0
      rw [e]
      exact ⟨_, _, _, rfl, Nat.le_refl _, .inl rfl⟩
  obtain ⟨v', w', g', hrun, hi', hR, hO'⟩ := hi.append (ty := type) (d := d) ht ht' hin hz hk hzk (asSl_rep hk0 h0 hr0) hO hr1 hb h63
  unfold Oper.wp
  have hrun' : (execOp a.eval ⟨some d, .call ⟨.builtin .append, #[x0, x1], #[t, t']⟩, type, pos, after, guard⟩).run P w = .ok (.value v') w' := by
    simp [execOp, resolve, invoke, builtin, hrun]
  rw [hrun']
  exact hn _ _ _ g' h (hi'.putOwn (opsOk_dst ho d rfl) hR hO')
end
end Go.Ev
end
section
/- Written by this session: calls, and what is built, as steps of a region. Conditions: none beyond those in each statement. -/
namespace Go.Ev
open Go

def Callable (P : Program) (f : FuncId) : Prop := ∃ fn, P.funcs[f]? = some fn ∧ fn.body.isSome = true ∧ (fn.name == "runtime.NumGoroutine") = false

/-- A function that answers so, whatever memory is, and leaves it as it is. -/
def XPure (P : Program) (f : FuncId) (args : List AV) (r : AV) (ow : Bool) : Prop :=
  Callable P f ∧ r.pf = true ∧ ∀ env, XCalls P f args env fun r' ow' env' => r' = r ∧ ow' = ow ∧ env' = env

mutual
theorem up_pf (base : Nat) : ∀ x : AV, x.pf = true → x.up base = x
  | .top, _ => rfl
  | .v _, _ => rfl
  | .sl _ _, _ => rfl
  | .agg l, h => by simp only [AV.pf] at h; simp only [AV.up, upL_pf base l h]
  | .tup l, h => by simp only [AV.pf] at h; simp only [AV.up, upL_pf base l h]
  | .bp _ _, h => by simp [AV.pf] at h
  | .xp _ _, h => by simp [AV.pf] at h
  | .mo _, h => by simp [AV.pf] at h
  | .mx _, h => by simp [AV.pf] at h
  | .bs .., h => by simp [AV.pf] at h
  | .xs .., h => by simp [AV.pf] at h
  | .ep _, _ => rfl
  | .fn f a b, h => by simp only [AV.pf, Bool.and_eq_true] at h; simp only [AV.up, upL_pf base a h.1, upL_pf base b h.2]
  | .ifc _ _, _ => rfl
  | .gv _ _, _ => rfl
theorem upL_pf (base : Nat) : ∀ l : List AV, pfL l = true → upL base l = l
  | [], _ => rfl
  | x :: l, h => by simp only [pfL, Bool.and_eq_true] at h; simp only [upL, up_pf base x h.1, upL_pf base l h.2]
end

section
variable {P : Program} {n : Nat} {c : Cfg} {K : Cfg → Prop}

theorem run_callFunc {f : FuncId} (hf : Callable P f) (args : Array Value) (w : World) : (callFunc f args).run P w = .ok (.enter f args) w := by
  obtain ⟨fn, h1, h2, h3⟩ := hf
  have h4 : fn.body.isNone = false := by cases h : fn.body <;> simp_all
  simp only [callFunc, Sem.run_bind, run_program, Result.andThen_ok, h1, h3, h4, Bool.false_eq_true, if_false, Sem.run_pure]

/-- The operands of a call, as trees and as values. -/
theorem argsRep {W0 : World} {G0 : Gh} {a : Act} {w : World} {g : Gh} (hi : Inv n W0 G0 c a w g) : ∀ (l : List Operand), (∀ x ∈ l, okTmp n x = true) → (l.all fun x => !(evA c x).isTup) = true → RepT w g.hw g.bs c.base (l.map (evA c)) (l.map a.eval)
  | [], _, _ => rfl
  | x :: l, h, ht => by
    simp only [List.all_cons, Bool.and_eq_true, Bool.not_eq_true'] at ht
    simp only [List.map_cons, RepT]
    exact ⟨_, _, rfl, rep1_of ht.1 (hi.eval (h x (by simp))), argsRep hi l (fun y hy => h y (by simp [hy])) ht.2⟩

/-- Behind a call. -/
def Cfg.after (c : Cfg) (d : Option Nat) (r : AV) (ow : Bool) : Cfg :=
  match d, ow with
  | some d, true => c.putOwn d r
  | d, _ => c.put d r

theorem Inv.after {W0 : World} {G0 : Gh} {a : Act} {w : World} {g : Gh} (hi : Inv n W0 G0 c a w g) {d : Option Nat} (hd : ∀ x, d = some x → x < n) {r : AV} {ow : Bool} {u : Value} (hr : Rep w g.hw g.bs c.base r u)
    (ho : ow = true → ∃ k l, r = .sl k l ∧ OwnAt w g (.slot (d.getD 0)) k u) : Inv n W0 G0 (c.after d r ow) (a.put d u) w g := by
  cases d with
  | none => cases ow <;> exact hi.putO hd hr
  | some d =>
    cases ow with
    | false => exact hi.putO hd hr
    | true =>
      obtain ⟨k, l, rfl, h⟩ := ho rfl
      exact hi.putOwn (hd d rfl) hr h

def isPtrD : TypeDesc → Bool
  | .pointer _ => true
  | _ => false

/-- The target of a call, and what is handed in ahead of the arguments and behind them. -/
def targetA (P : Program) (c : Cfg) (n : Nat) : Callee → Option (FuncId × List AV × List AV)
  | .value (.func f) => some (f, [], [])
  | .value (.tmp t) => bif Nat.blt t n then (match Fr.get c.fr t with
    | .fn (.func f) a b => some (f, a, b)
    | _ => none) else none
  | .invoke recv name => bif okTmp n recv then (match evA c recv with
    | .ifc t x => (match P.info? t, P.underlying t with
      | some i, some d => (match i.methods.find? (·.name == name) with
        | some m => (match m.path.isEmpty, m.func with
          | true, some (f, p) => bif Bool.xor p (isPtrD d) || x.isTup then none else some (f, [x], [])
          | _, _ => none)
        | none => none)
      | _, _ => none)
    | _ => none) else none
  | _ => none

mutual
theorem cl_pf {base m : Nat} : ∀ x : AV, x.pf = true → x.cl base m
  | .top, _ | .v _, _ | .sl _ _, _ | .ep _, _ | .gv _ _, _ | .ifc _ _, _ => by simp only [AV.cl]
  | .bp _ _, h | .xp _ _, h | .mo _, h | .mx _, h | .bs .., h | .xs .., h => by simp [AV.pf] at h
  | .agg l, h => by simp only [AV.pf] at h; simp only [AV.cl]; exact clL_pf l h
  | .tup l, h => by simp only [AV.pf] at h; simp only [AV.cl]; exact clL_pf l h
  | .fn f a b, h => by simp only [AV.pf, Bool.and_eq_true] at h; simp only [AV.cl]; exact ⟨clL_pf a h.1, clL_pf b h.2⟩
theorem clL_pf {base m : Nat} : ∀ l : List AV, pfL l = true → clL base m l
  | [], _ => by simp only [clL]
  | x :: l, h => by simp only [pfL, Bool.and_eq_true] at h; simp only [clL]; exact ⟨cl_pf x h.1, clL_pf l h.2⟩
end

theorem clMem {W0 : World} {G0 : Gh} {a : Act} {w : World} {g : Gh} (hi : Inv n W0 G0 c a w g) : ∀ x ∈ c.mem, Bx.cl c.base (c.mem.length - c.base) x := by
  intro x hx
  obtain ⟨i, hi', rfl⟩ := List.mem_iff_getElem.1 hx
  have hib : i < g.bs.length := by rw [hi.good.len]; exact hi'
  have := hi.good.box i c.mem[i] g.bs[i] (List.getElem?_eq_getElem hi') (List.getElem?_eq_getElem hib)
  cases hx : c.mem[i] with
  | map l => trivial
  | cells l os =>
    rw [hx] at this
    obtain ⟨cs, e, _, h2, _⟩ := this
    have := RepL.toCl _ _ h2
    rw [hi.good.len] at this
    exact this

theorem RepT_append {w : World} {hw : Hw} {bs : List Nat} {base : Nat} : ∀ {l1 l2 : List AV} {v1 v2 : List Value}, RepT w hw bs base l1 v1 → RepT w hw bs base l2 v2 → RepT w hw bs base (l1 ++ l2) (v1 ++ v2)
  | [], _, _, _, h1, h2 => by simp only [RepT] at h1; subst h1; simpa using h2
  | x :: l1, l2, _, v2, h1, h2 => by
    simp only [RepT] at h1
    obtain ⟨v, vs', rfl, h3, h4⟩ := h1
    simp only [List.cons_append, RepT]
    exact ⟨v, _, rfl, h3, RepT_append h4 h2⟩
theorem RepT_of_RepL {w : World} {hw : Hw} {bs : List Nat} {base : Nat} : ∀ {l : List AV} {vs : List Value}, RepL w hw bs base l vs → RepT w hw bs base l vs
  | [], _, h => by simpa only [RepL, RepT] using h
  | x :: l, _, h => by
    simp only [RepL] at h
    obtain ⟨v, vs', rfl, h3, h4⟩ := h
    simp only [RepT]
    exact ⟨v, _, rfl, .inr ⟨by rw [cells_toList_of (visAgg_of h3.2.2)]; exact h3.1, by rw [visAgg_of h3.2.2, h3.2.1]⟩, RepT_of_RepL h4⟩

theorem run_method {t : TypeId} {i : TypeInfo} {m : Method} {f : FuncId} {p : Bool} {d : TypeDesc} {name : String} (hi : P.info? t = some i) (hd : P.underlying t = some d) (hm : i.methods.find? (·.name == name) = some m) (hp : m.path.isEmpty = true) (hf : m.func = some (f, p))
    (hx : Bool.xor p (isPtrD d) = false) (v : Value) (w : World) : (method (P.types.size + Made.depth) t v name).run P w = .ok (f, v) w := by
  have hpl : m.path.toList = [] := by simpa using hp
  rw [show P.types.size + Made.depth = (P.types.size + 99) + 1 from rfl]
  have hr : (receiverAt t (.val v) p (some ((name.splitOn ".").getLastD name))).run P w = .ok v w := by
    unfold receiverAt
    simp only [Sem.run_bind, run_und hd, Result.andThen_ok]
    cases p <;> cases d <;> simp [isPtrD] at hx <;> rfl
  unfold method
  simp only [Sem.run_bind, typeInfo, run_program, hi, Result.andThen_ok, Sem.run_pure, hm, hpl, follow, hf, hp, if_true, hr]

/-- How a call comes to the function. -/
theorem target_run {W0 : World} {G0 : Gh} {a : Act} {w : World} {g : Gh} (hi : Inv n W0 G0 c a w g) {callee : Callee} {args : Array Operand} {ts : Array TypeId} {ty : TypeId} {f : FuncId} {a1 a2 : List AV} (ht : targetA P c n callee = some (f, a1, a2)) (hf : Callable P f)
    (hargs : ∀ x ∈ args.toList, okTmp n x = true) (htup : (args.toList.all fun x => !(evA c x).isTup) = true) :
    ∃ vs : List Value, (do let d ← resolve a.eval ⟨callee, args, ts⟩ ty; invoke d.target d.args : Sem Next).run P w = .ok (.enter f vs.toArray) w ∧ RepT w g.hw g.bs c.base (a1 ++ args.toList.map (evA c) ++ a2) vs := by
  have hA := argsRep hi args.toList hargs htup
  have plain : ∀ q, a.eval q = .func (.func f) #[] #[] → callee = .value q → a1 = [] → a2 = [] → ∃ vs : List Value, (do let d ← resolve a.eval ⟨callee, args, ts⟩ ty; invoke d.target d.args : Sem Next).run P w = .ok (.enter f vs.toArray) w ∧ RepT w g.hw g.bs c.base (a1 ++ args.toList.map (evA c) ++ a2) vs := by
    rintro q hq rfl rfl rfl
    refine ⟨args.toList.map a.eval, ?_, by simpa using hA⟩
    simp only [Sem.run_bind, resolve, hq, Deferred.ofValue, Sem.run_pure, Result.andThen_ok, invoke]
    rw [run_callFunc hf]
    congr 2
    apply Array.toList_inj.1; simp
  unfold targetA at ht
  split at ht
  · simp at ht; obtain ⟨rfl, rfl, rfl⟩ := ht; exact plain _ rfl rfl rfl rfl
  · rename_i t
    cases hb : Nat.blt t n with
    | false => rw [hb] at ht; cases ht
    | true =>
      rw [hb] at ht
      simp only [cond_true] at ht
      split at ht
      · rename_i f' b1 b2 hx
        simp only [Option.some.injEq, Prod.mk.injEq] at ht
        obtain ⟨rfl, rfl, rfl⟩ := ht
        have hr := hi.fr t (by rw [← Nat.blt_eq]; exact hb)
        rw [hx] at hr
        obtain ⟨h1, _⟩ := rep_leaf rfl (by simp) (by simp) hr
        simp only [RepV] at h1
        obtain ⟨fs, cs, e, q1, q2⟩ := h1
        simp only [List.cons.injEq, and_true] at e
        refine ⟨fs.toList ++ args.toList.map a.eval ++ cs.toList, ?_, RepT_append (RepT_append (RepT_of_RepL q1) hA) (RepT_of_RepL q2)⟩
        have hq : a.eval (.tmp t) = .func (.func f') fs cs := e
        simp only [Sem.run_bind, resolve, hq, Deferred.ofValue, Sem.run_pure, Result.andThen_ok, invoke]
        rw [run_callFunc hf]
        congr 2
        apply Array.toList_inj.1; simp
      · cases ht
  · rename_i recv name
    cases hb : okTmp n recv with
    | false => rw [hb] at ht; cases ht
    | true =>
      rw [hb] at ht
      simp only [cond_true] at ht
      split at ht
      · rename_i t x hx
        split at ht
        · rename_i i d hi0 hd
          split at ht
          · rename_i m hm
            split at ht
            · rename_i f' p hp hfn
              cases hc : (Bool.xor p (isPtrD d) || x.isTup) with
              | true => rw [hc] at ht; cases ht
              | false =>
                rw [hc] at ht
                simp only [cond_false, Option.some.injEq, Prod.mk.injEq] at ht
                obtain ⟨rfl, rfl, rfl⟩ := ht
                simp only [Bool.or_eq_false_iff] at hc
                have hr := hi.eval hb
                rw [hx] at hr
                obtain ⟨q1, _⟩ := rep_leaf rfl (by simp) (by simp) hr
                simp only [RepV] at q1
                obtain ⟨u, e, q2, q3⟩ := q1
                simp only [List.cons.injEq, and_true] at e
                refine ⟨u :: args.toList.map a.eval, ?_, ?_⟩
                · simp only [Sem.run_bind, resolve, Sem.run_pure, Result.andThen_ok, invoke]
                  have h0 : (#[a.eval recv] ++ Array.map a.eval args)[0]? = some (a.eval recv) := by
                    rw [Array.getElem?_append_left (by simp)]; rfl
                  rw [h0]
                  simp only [callMethod, e, Sem.run_bind, run_program, Result.andThen_ok, run_method hi0 hd hm hp hfn hc.1 u w]
                  rw [run_callFunc hf]
                  congr 2
                  apply Array.toList_inj.1
                  simp
                  exact List.take_of_length_le (by simp)
                · simp only [List.append_nil, List.singleton_append, RepT]
                  exact ⟨u, _, rfl, .inr ⟨RepV.lift x _ q2, q3⟩, hA⟩
            · cases ht
          · cases ht
        · cases ht
      · cases ht
  · cases ht

theorem XStep.callPure {callee : Callee} {args : Array Operand} {ts : Array TypeId} {dst : Option Tmp} {type : TypeId} {pos : String} {after : Array Edge} {guard : Option (Nat × Bool)} {f : FuncId} {a1 a2 : List AV} {r : AV} {ow : Bool}
    (ho : opsOk n ⟨dst, .call ⟨callee, args, ts⟩, type, pos, after, guard⟩ = true) (ht : targetA P c n callee = some (f, a1, a2)) (htup : (args.toList.all fun x => !(evA c x).isTup) = true) (hpf : pfL (a1 ++ args.toList.map (evA c) ++ a2) = true)
    (hx : XPure P f (a1 ++ args.toList.map (evA c) ++ a2) r ow) (h : K (c.after dst r ow)) : XStep P n ⟨dst, .call ⟨callee, args, ts⟩, type, pos, after, guard⟩ c K := by
  intro W0 G0 a w g hi next Q hn
  have hargs : ∀ x ∈ args.toList, okTmp n x = true := fun x hx => opsOk_mem ho (by simp [Op.operands, Call.operands]; exact .inr (by simpa using hx))
  obtain ⟨vs, hrun, hvs⟩ := target_run (P := P) (ts := ts) (ty := type) hi ht hx.1 hargs htup
  unfold Oper.wp
  have hrun' : (execOp a.eval ⟨dst, .call ⟨callee, args, ts⟩, type, pos, after, guard⟩).run P w = .ok (.enter f vs.toArray) w := hrun
  rw [hrun']
  have hup : (a1 ++ args.toList.map (evA c) ++ a2).map (AV.up c.base) = a1 ++ args.toList.map (evA c) ++ a2 := by rw [← upL_eq]; exact upL_pf _ _ hpf
  refine (hi.call hvs (hup ▸ hx.2.2 _) (dst.getD 0)).mono ?_
  rintro e w' ⟨u, r', ow', env', rfl, ⟨rfl, rfl, rfl⟩, hcont⟩
  obtain ⟨g', hi', hr', ho'⟩ := hcont r' c.mem (up_pf _ _ hx.2.1).symm rfl (cl_pf _ hx.2.1) (clMem hi) c rfl rfl rfl rfl hi.ecl
  exact hn _ _ _ g' h (hi'.after (opsOk_dst ho) hr' ho')

/-- A call that may change boxes. -/
theorem XStep.callAny {callee : Callee} {args : Array Operand} {ts : Array TypeId} {dst : Option Tmp} {type : TypeId} {pos : String} {after : Array Edge} {guard : Option (Nat × Bool)} {f : FuncId} {a1 a2 : List AV} {R : AV → Bool → List Bx → Prop}
    (ho : opsOk n ⟨dst, .call ⟨callee, args, ts⟩, type, pos, after, guard⟩ = true) (ht : targetA P c n callee = some (f, a1, a2)) (htup : (args.toList.all fun x => !(evA c x).isTup) = true) (hc : Callable P f)
    (hx : XCalls P f ((a1 ++ args.toList.map (evA c) ++ a2).map (AV.up c.base)) (c.env ++ c.own.map (Bx.up c.base)) R)
    (h : (∀ x ∈ c.env, Bx.cl c.base 0 x) → (∀ x ∈ c.env ++ c.own, Bx.cl c.base c.own.length x) → ∀ r ow env', R r ow env' → ∃ r2 env2 own2, r = AV.up c.base r2 ∧ env' = env2 ++ own2.map (Bx.up c.base) ∧ env2.length = c.env.length ∧ r2.cl c.base own2.length ∧ (∀ x ∈ env2, Bx.cl c.base 0 x) ∧ (∀ x ∈ env2 ++ own2, Bx.cl c.base own2.length x) ∧ K (({ c with env := env2, own := own2 } : Cfg).after dst r2 ow)) :
    XStep P n ⟨dst, .call ⟨callee, args, ts⟩, type, pos, after, guard⟩ c K := by
  intro W0 G0 a w g hi next Q hn
  have hargs : ∀ x ∈ args.toList, okTmp n x = true := fun x hx => opsOk_mem ho (by simp [Op.operands, Call.operands]; exact .inr (by simpa using hx))
  obtain ⟨vs, hrun, hvs⟩ := target_run (P := P) (ts := ts) (ty := type) hi ht hc hargs htup
  unfold Oper.wp
  have hrun' : (execOp a.eval ⟨dst, .call ⟨callee, args, ts⟩, type, pos, after, guard⟩).run P w = .ok (.enter f vs.toArray) w := hrun
  rw [hrun']
  have hmem : c.env ++ c.own.map (Bx.up c.base) = c.mem.map (Bx.up c.base) := by simp only [Cfg.mem, List.map_append, mapUp_cl hi.ecl]
  rw [hmem] at hx
  refine (hi.call hvs hx (dst.getD 0)).mono ?_
  rintro e w' ⟨u, r', ow', env', rfl, hR, hcont⟩
  obtain ⟨r2, env2, own2, hr2, he, hl, hrc, hecl, hcl, hk⟩ := h hi.ecl (by have := clMem hi; simpa [Cfg.mem, Cfg.base] using this) r' ow' env' hR
  have hlen : (env2 ++ own2).length - c.base = own2.length := by simp [Cfg.base, hl]
  obtain ⟨g', hi', hr', ho'⟩ := hcont r2 (env2 ++ own2) hr2 (by rw [he, List.map_append, mapUp_cl hecl]) (by rw [hlen]; exact hrc) (by rw [hlen]; exact hcl) { c with env := env2, own := own2 } rfl rfl rfl hl hecl
  refine hn _ _ _ g' hk (hi'.after (opsOk_dst ho) ?_ ho')
  have : (({ c with env := env2, own := own2 } : Cfg).base) = c.base := hl
  rw [this]; exact hr'
end
end Go.Ev
end
section
/- Written by this session: slices and structs out of parts, as steps of a region. Conditions: none beyond those in each statement. -/
namespace Go.Ev
open Go

theorem rep_elem {w : World} {hw : Hw} {bs : List Nat} {base : Nat} {x : AV} {y : Value} (hx : leavesOk x = true) (hp : x.pf = true) (h : Rep w hw bs base x y) :
    RepV w hw [] 0 x y.cells.toList ∧ (x.isAgg = false → ∀ v ∈ y.cells.toList, v.oneCell' = true) ∧ y.cells.size = x.leaves.length := by
  have h' := h.pf hp
  obtain ⟨h1, h2⟩ := rep_cells (leavesOk_or hx) h'
  refine ⟨?_, fun _ => oneCells h1, h2⟩
  rcases leavesOk_or hx with hx | hx
  · cases x <;> simp only [AV.isAgg] at hx <;> try cases hx
    simpa only [RepV, AV.leaves] using h1
  · obtain ⟨q1, _, q3⟩ := rep_isLeaf hx h'
    rw [cells_toList_of (visAgg_of q3)]; exact q1

theorem repE_flat {w : World} {hw : Hw} {bs : List Nat} {base k : Nat} : ∀ (l : List AV) (ys : List Value), RepT w hw bs base l ys → (∀ x ∈ l, leavesOk x = true ∧ x.pf = true ∧ x.leaves.length = k) →
    RepE w hw k l (ys.flatMap fun v => v.cells.toList) ∧ (∀ y ∈ ys, y.cells.size = k) ∧ ys.length = l.length
  | [], _, h, _ => by simp only [RepT] at h; subst h; simp [RepE]
  | x :: l, _, h, hl => by
    simp only [RepT] at h
    obtain ⟨y, ys, rfl, h1, h2⟩ := h
    obtain ⟨q1, q2, q3⟩ := hl x (by simp)
    obtain ⟨r1, r2, r3⟩ := rep_elem q1 q2 (rep_of h1)
    obtain ⟨i1, i2, i3⟩ := repE_flat l ys h2 fun z hz => hl z (by simp [hz])
    have hk : y.cells.toList.length = k := by simp [r3, q3]
    refine ⟨?_, fun z hz => ?_, by simp [i3]⟩
    · simp only [List.flatMap_cons, RepE]
      refine ⟨by simp [hk], ⟨?_, ?_⟩, ?_⟩
      · rw [List.take_append_of_le_length (by rw [hk]; exact Nat.le_refl _), List.take_of_length_le (by rw [hk]; exact Nat.le_refl _)]; exact r1
      · rw [List.take_append_of_le_length (by rw [hk]; exact Nat.le_refl _), List.take_of_length_le (by rw [hk]; exact Nat.le_refl _)]; exact r2
      · rw [List.drop_append_of_le_length (by rw [hk]; exact Nat.le_refl _), List.drop_of_length_le (by rw [hk]; exact Nat.le_refl _)]; exact i1
    · rcases List.mem_cons.1 hz with rfl | hz
      · rw [r3, q3]
      · exact i2 z hz

section
variable {P : Program} {n : Nat} {c : Cfg} {K : Cfg → Prop}

theorem XStep.buildSlice {t e : TypeId} {len k : Nat} {parts : Array (Nat × Operand)} {xs : List Operand} {i : TypeInfo} {z : Value} {d : Nat} {type : TypeId} {pos : String} {after : Array Edge} {guard : Option (Nat × Bool)}
    (ho : opsOk n ⟨some d, .buildSlice t len parts, type, pos, after, guard⟩ = true) (ht : P.underlying t = some (.slice e)) (hin : P.info? e = some i) (hz : i.zero = some z) (hk : i.size = k) (hk0 : 0 < k)
    (hlen : len = xs.length) (hparts : parts.toList = xs.zipIdx.map fun (x, j) => (j, x)) (hsm : len * k ≤ 16777216)
    (hxs : ∀ x ∈ xs, leavesOk (evA c x) = true ∧ (evA c x).pf = true ∧ (evA c x).isTup = false ∧ (evA c x).leaves.length = k)
    (h : K (c.putOwn d (.sl k (xs.map (evA c))))) : XStep P n ⟨some d, .buildSlice t len parts, type, pos, after, guard⟩ c K := by
  intro W0 G0 a w g hi next Q hn
  have hmem : ∀ x ∈ xs, x ∈ (Op.buildSlice t len parts).operands := fun x hx => by
    obtain ⟨j, hj, rfl⟩ := List.mem_iff_getElem.1 hx
    simp only [Op.operands, List.mem_toArray, List.mem_map, hparts]
    exact ⟨(j, xs[j]), ⟨(xs[j], j), by simp [List.mem_zipIdx_iff_getElem?, List.getElem?_eq_getElem hj], rfl⟩, rfl⟩
  have hT := argsRep hi xs (fun x hx => opsOk_mem ho (hmem x hx)) (by
    rw [List.all_eq_true]; intro x hx; rw [(hxs x hx).2.2.1]; rfl)
  obtain ⟨hE, hcs, hl⟩ := repE_flat (k := k) _ _ hT (by
    intro y hy
    obtain ⟨x, hx, rfl⟩ := List.mem_map.1 hy
    exact ⟨(hxs x hx).1, (hxs x hx).2.1, (hxs x hx).2.2.2⟩)
  simp only [List.length_map] at hl
  subst hlen
  let cells0 : Array Value := (Array.range (xs.length * k)).map fun j => (if xs.length * k = 0 then (#[] : Array Value) else z.cells)[j % (if xs.length * k = 0 then (#[] : Array Value) else z.cells).size]!
  obtain ⟨cells', hfill, hcl⟩ := fill_row hk0 (xs.map a.eval) 0 cells0 [] hcs (by simp) (by simp [cells0])
  have hcells : cells' = ((xs.map a.eval).flatMap fun v => v.cells.toList).toArray := by apply Array.toList_inj.1; rw [hcl]; simp
  have hps : (parts.map fun (p : Nat × Operand) => (p.1, a.eval p.2)).toList = ((xs.map a.eval).zipIdx 0).map fun (v, j) => (j, v) := by
    rw [Array.toList_map, hparts]
    simp [List.zipIdx_map]
  have hlenE := RepE.len hE
  obtain ⟨g', hi', hR, hO⟩ := hi.newArr (rest := []) (e := e) hk0 hE d xs.length (by simp; exact Nat.le_trans (Nat.le_mul_of_pos_right _ hk0) (Nat.le_trans hsm (by decide))) (by simp) (by simp at hlenE ⊢; omega)
  simp only [List.append_nil, List.length_map] at hi' hR hO
  rw [← hcells] at hi' hR hO
  unfold Oper.wp
  have hsz : (sizeOf e).run P w = .ok k w := by simp [sizeOf, typeInfo, hin, hk]
  have hrun : (execOp a.eval ⟨some d, .buildSlice t xs.length parts, type, pos, after, guard⟩).run P w = .ok (.value (.slice (some ⟨w.heap.size, 0, none⟩) xs.length xs.length)) (push w (.cells cells' e)) := by
    have hc0 : ∀ zz : Array Value, zz = (if xs.length * k = 0 then (#[] : Array Value) else z.cells) → (Array.range (xs.length * k)).map (fun x => zz[x % zz.size]!) = cells0 := by rintro _ rfl; rfl
    simp only [execOp, Instr.buildSlice, Sem.run_bind, run_und ht, Result.andThen_ok, hsz]
    rw [if_neg (by omega : ¬ xs.length * k > 2 ^ 24)]
    simp only [hps]
    by_cases h0 : xs.length * k = 0
    · rw [if_pos h0]
      simp only [Sem.run_bind, Sem.run_pure, Result.andThen_ok]
      rw [hc0 #[] (by rw [if_pos h0]), hfill]
      simp [newRow, push]
    · rw [if_neg h0]
      have hzv : (zeroValue e).run P w = .ok z w := by simp [zeroValue, typeInfo, hin, hz]
      simp only [Sem.run_bind, Sem.run_pure, Result.andThen_ok, hzv]
      rw [hc0 z.cells (by rw [if_neg h0]), hfill]
      simp [newRow, push]
  rw [hrun]
  exact hn _ _ _ g' h (hi'.putOwn (opsOk_dst ho d rfl) hR hO)
end
end Go.Ev
end
