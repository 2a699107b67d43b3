/- Written by programs of this session: laws and contracts that the law's proof stands on, merged into one text. Conditions: none beyond those in each statement. -/
import Derived.Test.YtepdiooaoegpfaaGreatDoorPkEv14
section
/- Written by this session: a region that draws its order, over trees. Conditions: none beyond those in each statement. -/
namespace Go.Ev
open Go

abbrev FS := Nat → AV
def evF (F : FS) : Operand → AV
  | .tmp t => F t
  | .const v => cst v
  | .func f => .fn (.func f) [] []
  | .global g => globA g
def updO (F : FS) (d : Option Nat) (v : AV) : FS :=
  match d with
  | some d => upd F d v
  | none => F

theorem evF_get (c : Cfg) : evF (Fr.get c.fr) = evA c := by funext x; cases x <;> rfl
theorem get_put (c : Cfg) (d : Option Nat) (v : AV) : Fr.get (c.put d v).fr = updO (Fr.get c.fr) d v := by
  cases d with
  | none => rfl
  | some d =>
    funext i
    simp only [Cfg.put, Fr.get_cons, updO, upd]
    by_cases h : d = i
    · subst h; simp
    · rw [if_neg h, if_neg (Ne.symm h)]

/-- What an operation gives, whatever else memory is, boxes being as they are. -/
def Yield (P : Program) (env own : List Bx) (ρA : Operand → AV) (o : Oper) (v : AV) : Prop :=
  ∀ (a : Act) (w : World) (g : Gh), Good w g (env ++ own) env.length → (∀ x ∈ env, Bx.cl env.length 0 x) → (∀ x, x ∈ o.op.operands → Rep w g.hw g.bs env.length (ρA x) (a.eval x)) →
    ∀ (next : Act → World → Prop) (Q : Exit → Act → World → Prop), (∀ u w' g', Good w' g' (env ++ own) env.length → Ext KeepS w g w' g' → Rep w' g'.hw g'.bs env.length v u → next (a.put o.dst u) w') → o.wp P a w next Q

theorem Yield.congr {P : Program} {env own : List Bx} {ρA ρA' : Operand → AV} {o : Oper} {v : AV} (h : Yield P env own ρA o v) (he : ∀ x, x ∈ o.op.operands → ρA' x = ρA x) : Yield P env own ρA' o v :=
  fun a w g G E hr => h a w g G E fun x hx => by rw [← he x hx]; exact hr x hx

theorem Yield.pure {P : Program} {env own : List Bx} {ρA : Operand → AV} {o : Oper} {v : AV} (h : PureAt P env own ρA o v) : Yield P env own ρA o v := by
  intro a w g G _ hr next Q hn
  obtain ⟨u, hu, hrep⟩ := h a.eval w g G hr
  unfold Oper.wp
  rw [hu]
  exact hn u w g G (Ext.refl _ _ _) hrep

/-- Is the operation wanted? -/
def wantF (ops : List Oper) (F : FS) (o : Oper) : Option Bool :=
  match o.guard with
  | none => some true
  | some (j, want) => match (ops[j]?).bind (·.dst) with
    | none => some false
    | some t => match F t with
      | .v (.bool b) => some (b == want)
      | .v (.tuple _) => some false
      | _ => none

def okF (n : Nat) (ops : List Oper) (o : Oper) : Bool :=
  opsOk n o && (match o.guard with
    | none => true
    | some (j, _) => ((ops[j]?).bind (·.dst)).all (Nat.blt · n))

def Seq (P : Program) (n : Nat) (env own : List Bx) (ops : List Oper) : List Nat → FS → (FS → Prop) → Prop
  | [], F, K => K F
  | i :: r, F, K => ∃ o v, ops[i]? = some o ∧ okF n ops o = true ∧ ((wantF ops F o = some true ∧ Yield P env own (evF F) o v) ∨ (wantF ops F o = some false ∧ v = .v undef)) ∧ Seq P n env own ops r (updO F o.dst v) K

section
variable {P : Program} {n : Nat} {env own : List Bx} {ops : Array Oper}

theorem evF_upd {F : FS} {d : Option Nat} {v : AV} {x : Operand} (h : ∀ t, d = some t → x ≠ .tmp t) : evF (updO F d v) x = evF F x := by
  cases d with
  | none => rfl
  | some d =>
    cases x with
    | tmp t =>
      have : t ≠ d := fun e => h d rfl (by rw [e])
      simp only [evF, updO, upd, if_neg this]
    | _ => rfl

theorem wantF_upd {F : FS} {d : Option Nat} {v : AV} {o : Oper} (h : ∀ t, d = some t → t ∉ o.looksAt ops) : wantF ops.toList (updO F d v) o = wantF ops.toList F o := by
  cases d with
  | none => rfl
  | some d =>
    unfold wantF
    cases hg : o.guard with
    | none => rfl
    | some gw =>
      obtain ⟨j, want⟩ := gw
      simp only
      cases ht : (ops.toList[j]?).bind (·.dst) with
      | none => rfl
      | some t =>
        have hne : t ≠ d := fun e => h d rfl (by
          subst e
          have : (ops[j]?).bind (·.dst) = some t := by simpa using ht
          simp [Oper.looksAt, hg, this])
        simp only [updO, upd, if_neg hne]

theorem updO_comm {F : FS} {d e : Option Nat} {v u : AV} (h : ∀ t, d = some t → e ≠ some t) : updO (updO F d v) e u = updO (updO F e u) d v := by
  cases d with
  | none => rfl
  | some d =>
    cases e with
    | none => rfl
    | some e =>
      have hne : e ≠ d := fun he => h d rfl (by rw [he])
      funext i
      simp only [updO, upd]
      by_cases h1 : i = e
      · subst h1; simp [hne]
      · by_cases h2 : i = d
        · subst h2; simp [h1]
        · simp [h1, h2]

theorem looks_mem {o : Oper} {t : Nat} (h : (Operand.tmp t) ∈ o.op.operands) : t ∈ o.looksAt ops := by
  unfold Oper.looksAt
  exact List.mem_append_left _ (List.mem_filterMap.2 ⟨.tmp t, by simpa using h, rfl⟩)

/-- An operation that hangs on none of those ahead of it may go first. -/
theorem Seq.first {j : Nat} {oj : Oper} (hj : ops[j]? = some oj) : ∀ (r1 r2 : List Nat) (F : FS) (K : FS → Prop), (∀ i ∈ r1, ∀ oi, ops[i]? = some oi → oi.apart ops oj = true) → Seq P n env own ops.toList (r1 ++ j :: r2) F K →
    ∃ v, okF n ops.toList oj = true ∧ ((wantF ops.toList F oj = some true ∧ Yield P env own (evF F) oj v) ∨ (wantF ops.toList F oj = some false ∧ v = .v undef)) ∧ Seq P n env own ops.toList (r1 ++ r2) (updO F oj.dst v) K
  | [], r2, F, K, _, h => by
    simp only [List.nil_append, Seq] at h
    obtain ⟨o, v, h1, h2, h3, h4⟩ := h
    have : o = oj := by
      have : ops.toList[j]? = some oj := by simpa using hj
      rw [this] at h1; cases h1; rfl
    subst this
    exact ⟨v, h2, h3, h4⟩
  | i :: r1, r2, F, K, hap, h => by
    simp only [List.cons_append, Seq] at h
    obtain ⟨oi, vi, h1, h2, h3, h4⟩ := h
    have hoi : ops[i]? = some oi := by simpa using h1
    obtain ⟨p1, p2, p3⟩ := Oper.apart_spec (hap i (by simp) oi hoi)
    obtain ⟨v, k1, k2, k3⟩ := Seq.first hj r1 r2 _ K (fun i hi => hap i (by simp [hi])) h4
    refine ⟨v, k1, ?_, ?_⟩
    · rw [wantF_upd p1] at k2
      refine k2.imp (fun ⟨q1, q2⟩ => ⟨q1, q2.congr fun x hx => ?_⟩) id
      refine (evF_upd fun t ht e => ?_).symm
      subst e
      exact p1 t ht (looks_mem hx)
    · simp only [List.cons_append, Seq]
      refine ⟨oi, vi, h1, h2, ?_, ?_⟩
      · rw [wantF_upd p3]
        refine h3.imp (fun ⟨q1, q2⟩ => ⟨q1, q2.congr fun x hx => ?_⟩) id
        refine evF_upd fun t ht e => ?_
        subst e
        exact p3 t ht (looks_mem hx)
      · rw [← updO_comm p2]; exact k3
end
end Go.Ev
end
section
/- Written by this session: a region that draws its order: in whatever order its operations go, it comes to what the order of its text comes to. Conditions: none beyond those in each statement. -/
namespace Go.Ev
open Go

section
variable {P : Program} {n : Nat}

theorem argsRepF {w : World} {g : Gh} {base : Nat} {a : Act} {ρA : Operand → AV} : ∀ (l : List Operand), (∀ x ∈ l, Rep w g.hw g.bs base (ρA x) (a.eval x)) → (l.all fun x => !(ρA x).isTup) = true → RepT w g.hw g.bs base (l.map ρA) (l.map a.eval)
  | [], _, _ => rfl
  | x :: l, h, ht => by
    simp only [List.all_cons, Bool.and_eq_true, Bool.not_eq_true'] at ht
    simp only [List.map_cons, RepT]
    exact ⟨_, _, rfl, rep1_of ht.1 (h x (by simp)), argsRepF l (fun y hy => h y (by simp [hy])) ht.2⟩

/-- A call of a function that leaves memory as it is. -/
theorem Yield.call {env own : List Bx} {ρA : Operand → AV} {f : FuncId} {args : Array Operand} {ts : Array TypeId} {dst : Option Tmp} {type : TypeId} {pos : String} {after : Array Edge} {guard : Option (Nat × Bool)} {r : AV} {ow : Bool}
    (htup : (args.toList.all fun x => !(ρA x).isTup) = true) (hpf : pfL (args.toList.map ρA) = true) (hx : XPure P f (args.toList.map ρA) r ow) : Yield P env own ρA ⟨dst, .call ⟨.value (.func f), args, ts⟩, type, pos, after, guard⟩ r := by
  intro a w g G E hr next Q hn
  have hA := argsRepF (ρA := ρA) (a := a) args.toList (fun x hx => hr x (by simp [Op.operands, Call.operands]; exact .inr (by simpa using hx))) htup
  have hrun : (execOp a.eval ⟨dst, .call ⟨.value (.func f), args, ts⟩, type, pos, after, guard⟩).run P w = .ok (.enter f (args.toList.map a.eval).toArray) w := by
    have hq : a.eval (.func f) = .func (.func f) #[] #[] := rfl
    simp only [execOp, Sem.run_bind, resolve, hq, Deferred.ofValue, Sem.run_pure, Result.andThen_ok, invoke]
    rw [run_callFunc hx.1]
    congr 2
    apply Array.toList_inj.1; simp
  unfold Oper.wp
  rw [hrun]
  have hup : (args.toList.map ρA).map (AV.up env.length) = args.toList.map ρA := by rw [← upL_eq]; exact upL_pf _ _ hpf
  have hcl : ∀ x ∈ env ++ own, Bx.cl env.length ((env ++ own).length - env.length) x := by
    intro x hx
    obtain ⟨i, hi', rfl⟩ := List.mem_iff_getElem.1 hx
    have hib : i < g.bs.length := by rw [G.len]; exact hi'
    have := G.box i (env ++ own)[i] g.bs[i] (List.getElem?_eq_getElem hi') (List.getElem?_eq_getElem hib)
    cases hx : (env ++ own)[i] with
    | map l => trivial
    | cells l os =>
      rw [hx] at this
      obtain ⟨cs, e, _, h2, _⟩ := this
      have := RepL.toCl _ _ h2
      rw [G.len] at this
      exact this
  refine (Good.call (c := ⟨[], [], own, env⟩) (g := g) G hA (R := fun r' ow' env' => r' = r ∧ ow' = ow ∧ env' = (env ++ own).map (Bx.up env.length)) (by
    have := hx.2.2 ((env ++ own).map (Bx.up env.length))
    show XCalls P f ((args.toList.map ρA).map (AV.up env.length)) _ _
    rw [hup]; exact this) 0).mono ?_
  rintro e w' ⟨u, r', ow', env', rfl, ⟨rfl, rfl, rfl⟩, hcont⟩
  obtain ⟨g', h1, h2, h3, _⟩ := hcont r' (env ++ own) (up_pf _ _ hx.2.1).symm rfl (cl_pf _ hx.2.1) hcl
  exact hn u w' g' h1 h2 h3

/-- A slice that is built of values that hang on no box. -/
theorem Yield.buildSlice {env own : List Bx} {ρA : Operand → AV} {t e : TypeId} {len k : Nat} {parts : Array (Nat × Operand)} {xs : List Operand} {i : TypeInfo} {z : Value} {dst : Option Tmp} {type : TypeId} {pos : String} {after : Array Edge} {guard : Option (Nat × Bool)}
    (ht : P.underlying t = some (.slice e)) (hin : P.info? e = some i) (hz : i.zero = some z) (hk : i.size = k) (hk0 : 0 < k)
    (hlen : len = xs.length) (hparts : parts.toList = xs.zipIdx.map fun (x, j) => (j, x)) (hsm : len * k ≤ 16777216)
    (hxs : ∀ x ∈ xs, leavesOk (ρA x) = true ∧ (ρA x).pf = true ∧ (ρA x).isTup = false ∧ (ρA x).leaves.length = k) :
    Yield P env own ρA ⟨dst, .buildSlice t len parts, type, pos, after, guard⟩ (.sl k (xs.map ρA)) := by
  intro a w g G E hr next Q hn
  have hmem : ∀ x ∈ xs, x ∈ (Op.buildSlice t len parts).operands := fun x hx => by
    obtain ⟨j, hj, rfl⟩ := List.mem_iff_getElem.1 hx
    simp only [Op.operands, List.mem_toArray, List.mem_map, hparts]
    exact ⟨(j, xs[j]), ⟨(xs[j], j), by simp [List.mem_zipIdx_iff_getElem?, List.getElem?_eq_getElem hj], rfl⟩, rfl⟩
  have hT := argsRepF (ρA := ρA) (a := a) xs (fun x hx => hr x (hmem x hx)) (by
    rw [List.all_eq_true]; intro x hx; rw [(hxs x hx).2.2.1]; rfl)
  obtain ⟨hE, hcs, hl⟩ := repE_flat (k := k) _ _ hT (by
    intro y hy
    obtain ⟨x, hx, rfl⟩ := List.mem_map.1 hy
    exact ⟨(hxs x hx).1, (hxs x hx).2.1, (hxs x hx).2.2.2⟩)
  simp only [List.length_map] at hl
  subst hlen
  let cells0 : Array Value := (Array.range (xs.length * k)).map fun j => (if xs.length * k = 0 then (#[] : Array Value) else z.cells)[j % (if xs.length * k = 0 then (#[] : Array Value) else z.cells).size]!
  obtain ⟨cells', hfill, hcl⟩ := fill_row hk0 (xs.map a.eval) 0 cells0 [] hcs (by simp) (by simp [cells0])
  have hcells : cells' = ((xs.map a.eval).flatMap fun v => v.cells.toList).toArray := by apply Array.toList_inj.1; rw [hcl]; simp
  have hps : (parts.map fun (p : Nat × Operand) => (p.1, a.eval p.2)).toList = ((xs.map a.eval).zipIdx 0).map fun (v, j) => (j, v) := by
    rw [Array.toList_map, hparts]
    simp [List.zipIdx_map]
  have hlenE := RepE.len hE
  obtain ⟨G1, E1⟩ := G.push (.cells cells' e) (some cells'.size) none (by intro h e; simp at e; subst e; exact ⟨_, _, _, rfl, by simp⟩) (by simp)
  unfold Oper.wp
  have hsz : (sizeOf e).run P w = .ok k w := by simp [sizeOf, typeInfo, hin, hk]
  have hrun : (execOp a.eval ⟨dst, .buildSlice t xs.length parts, type, pos, after, guard⟩).run P w = .ok (.value (.slice (some ⟨w.heap.size, 0, none⟩) xs.length xs.length)) (push w (.cells cells' e)) := by
    have hc0 : ∀ zz : Array Value, zz = (if xs.length * k = 0 then (#[] : Array Value) else z.cells) → (Array.range (xs.length * k)).map (fun x => zz[x % zz.size]!) = cells0 := by rintro _ rfl; rfl
    simp only [execOp, Instr.buildSlice, Sem.run_bind, run_und ht, Result.andThen_ok, hsz]
    rw [if_neg (by omega : ¬ xs.length * k > 2 ^ 24)]
    simp only [hps]
    by_cases h0 : xs.length * k = 0
    · rw [if_pos h0]
      simp only [Sem.run_bind, Sem.run_pure, Result.andThen_ok]
      rw [hc0 #[] (by rw [if_pos h0]), hfill]
      simp [newRow, push]
    · rw [if_neg h0]
      have hzv : (zeroValue e).run P w = .ok z w := by simp [zeroValue, typeInfo, hin, hz]
      simp only [Sem.run_bind, Sem.run_pure, Result.andThen_ok, hzv]
      rw [hc0 z.cells (by rw [if_neg h0]), hfill]
      simp [newRow, push]
  rw [hrun]
  refine hn _ _ _ G1 E1 ?_
  have hfit : xs.length ≤ 140737488355328 := Nat.le_trans (Nat.le_mul_of_pos_right _ hk0) (Nat.le_trans hsm (by decide))
  refine rep_sl_mk (by simp) (by simp) ⟨hk0, by simpa using hfit⟩ (.inr ⟨w.heap.size, 0, _, rfl, ⟨cells'.size, upd_same _ _ _, by rw [hcells]; simp, fun j v hj => ?_⟩, RepE.mono E1.hw _ _ hE⟩)
  simp only [World.cell?, heap_push_new, Option.isSome_none, Bool.false_eq_true, if_false, Nat.zero_add]
  rw [hcells, List.getElem?_toArray]; exact hj

def steadySl (P : Program) (ρA : Operand → AV) (t : TypeId) (len : Nat) (parts : Array (Nat × Operand)) (K : AV → Prop) : Prop :=
  match P.underlying t, sliceParts 0 parts.toList with
  | some (.slice e), some xs => match P.info? e with
    | some i => match i.zero with
      | some _ => bif Nat.blt 0 i.size && Nat.beq len xs.length && Nat.ble (len * i.size) 16777216 && xs.all (fun x => leavesOk (ρA x) && !(ρA x).isTup && Nat.beq (ρA x).leaves.length i.size) && xs.all (fun x => pf1 (ρA x)) then K (.sl i.size (xs.map ρA)) else False
      | none => False
    | none => False
  | _, _ => False
theorem steadySl_sound {env own : List Bx} {ρA : Operand → AV} {t : TypeId} {len : Nat} {parts : Array (Nat × Operand)} {dst : Option Tmp} {type : TypeId} {pos : String} {after : Array Edge} {guard : Option (Nat × Bool)} {K : AV → Prop} (h : steadySl P ρA t len parts K) :
    ∃ v, Yield P env own ρA ⟨dst, .buildSlice t len parts, type, pos, after, guard⟩ v ∧ K v := by
  unfold steadySl at h
  split at h
  · rename_i e xs hu hp
    split at h
    · rename_i i hi
      split at h
      · rename_i z hz
        cases hc : (Nat.blt 0 i.size && Nat.beq len xs.length && Nat.ble (len * i.size) 16777216 && xs.all (fun x => leavesOk (ρA x) && !(ρA x).isTup && Nat.beq (ρA x).leaves.length i.size) && xs.all (fun x => pf1 (ρA x))) with
        | false => rw [hc] at h; exact h.elim
        | true =>
          rw [hc] at h
          simp only [Bool.and_eq_true] at hc
          obtain ⟨⟨⟨⟨c1, c2⟩, c3⟩, c4⟩, c5⟩ := hc
          refine ⟨_, Yield.buildSlice hu hi hz rfl (by rw [← Nat.blt_eq]; exact c1) (Nat.eq_of_beq_eq_true c2) (sliceParts_eq _ _ _ hp) (Nat.le_of_ble_eq_true c3) (fun x hx => ?_), h⟩
          have := List.all_eq_true.1 c4 x hx
          simp only [Bool.and_eq_true, Bool.not_eq_true'] at this
          exact ⟨this.1.1, pf_of1 (List.all_eq_true.1 c5 x hx), this.1.2, Nat.eq_of_beq_eq_true this.2⟩
      · exact h.elim
    · exact h.elim
  · exact h.elim

def steadyA (P : Program) (c : Cfg) (o : Oper) (K : AV → Prop) : Prop :=
  match o.op with
  | .call cl => (match cl.callee with
    | .value (.func f) => bif (cl.args.toList.all fun x => !(evA c x).isTup) && pf1L (cl.args.toList.map (evA c)) then ∃ r ow, XPure P f (cl.args.toList.map (evA c)) r ow ∧ K r else False
    | _ => pureA P c.env c.own (evA c) o K)
  | .buildSlice t len parts => steadySl P (evA c) t len parts K
  | _ => pureA P c.env c.own (evA c) o K

theorem steadyA_sound {c : Cfg} {o : Oper} {K : AV → Prop} (h : steadyA P c o K) : ∃ v, Yield P c.env c.own (evA c) o v ∧ K v := by
  have pure : pureA P c.env c.own (evA c) o K → ∃ v, Yield P c.env c.own (evA c) o v ∧ K v := fun h => by
    obtain ⟨v, h1, h2⟩ := pureA_sound h
    exact ⟨v, Yield.pure h2, h1⟩
  obtain ⟨dst, op, type, pos, after, guard⟩ := o
  unfold steadyA at h
  split at h
  · rename_i cl hop
    simp only at hop
    subst hop
    split at h
    · rename_i f hc
      obtain ⟨callee, args, ts⟩ := cl
      simp only at hc
      subst hc
      cases hb : ((args.toList.all fun x => !(evA c x).isTup) && pf1L (args.toList.map (evA c))) with
      | false => rw [hb] at h; exact h.elim
      | true =>
        rw [hb] at h
        simp only [Bool.and_eq_true] at hb
        obtain ⟨r, ow, h1, h2⟩ := h
        exact ⟨r, Yield.call hb.1 (pfL_of1 hb.2) h1, h2⟩
    · exact pure h
  · rename_i hop
    simp only at hop
    subst hop
    exact steadySl_sound h
  · exact pure h

def preA (P : Program) (n : Nat) (ops : List Oper) : List Oper → Cfg → (Cfg → Prop) → Prop
  | [], c, K => K c
  | o :: r, c, K => bif okF n ops o then guardA n ops c o (steadyA P c o fun v => normA (c.put o.dst v) fun c' => preA P n ops r c' K) (normA (c.put o.dst (.v undef)) fun c' => preA P n ops r c' K) else False

theorem guard_wantF {ops : List Oper} {c : Cfg} {o : Oper} {yes no : Prop} (h : guardA n ops c o yes no) : (wantF ops (Fr.get c.fr) o = some true ∧ yes) ∨ (wantF ops (Fr.get c.fr) o = some false ∧ no) := by
  unfold guardA at h
  unfold wantF
  split at h
  · rename_i hg; (try rw [hg]); exact .inl ⟨rfl, h⟩
  · rename_i j want hg
    (try rw [hg])
    (try simp only)
    split at h
    · rename_i hd; (try rw [hd]); exact .inr ⟨rfl, h⟩
    · rename_i t ht
      (try rw [ht])
      (try simp only)
      cases hb : Nat.blt t n with
      | false => rw [hb] at h; exact h.elim
      | true =>
        rw [hb] at h
        simp only [cond_true] at h
        split at h
        · rename_i b hx
          (try rw [hx])
          (try simp only)
          by_cases hw : b = want
          · subst hw; exact .inl ⟨by simp, h.1 rfl⟩
          · exact .inr ⟨by simp [hw], h.2 hw⟩
        · rename_i vs hx; (try rw [hx]); exact .inr ⟨rfl, h⟩
        · exact h.elim

theorem put_own (c : Cfg) (d : Option Nat) (v : AV) : (c.put d v).own = c.own ∧ (c.put d v).env = c.env := by cases d <;> exact ⟨rfl, rfl⟩

theorem preA_seq {ops : List Oper} {K : Cfg → Prop} : ∀ (l : List Oper) (i : Nat) (c : Cfg), (∀ j : Nat, j < l.length → l[j]? = ops[i + j]?) → preA P n ops l c K →
    Seq P n c.env c.own ops (List.range' i l.length) (Fr.get c.fr) fun F => ∃ c', Fr.get c'.fr = F ∧ c'.own = c.own ∧ c'.env = c.env ∧ K c'
  | [], _, c, _, h => ⟨c, rfl, rfl, rfl, h⟩
  | o :: l, i, c, hl, h => by
    simp only [preA, normA_iff] at h
    cases ho : okF n ops o with
    | false => rw [ho] at h; exact h.elim
    | true =>
      rw [ho] at h
      simp only [cond_true] at h
      have h0 : ops[i]? = some o := by simpa using (hl 0 (by simp)).symm
      have hl' : ∀ j : Nat, j < l.length → l[j]? = ops[i + 1 + j]? := fun j hj => by
        have := hl (j + 1) (by simp; omega)
        simpa [Nat.add_assoc, Nat.add_comm 1 j] using this
      simp only [List.length_cons, List.range'_succ, Seq]
      rcases guard_wantF h with ⟨hw, h⟩ | ⟨hw, h⟩
      · obtain ⟨v, hv, h⟩ := steadyA_sound h
        have ih := preA_seq l (i + 1) _ hl' h
        rw [(put_own c o.dst v).1, (put_own c o.dst v).2, get_put] at ih
        exact ⟨o, v, h0, ho, .inl ⟨hw, by rw [evF_get]; exact hv⟩, ih⟩
      · have ih := preA_seq l (i + 1) _ hl' h
        rw [(put_own c o.dst _).1, (put_own c o.dst _).2, get_put] at ih
        exact ⟨o, _, h0, ho, .inr ⟨hw, rfl⟩, ih⟩

/-- What an operation waits for, and what that waits for. -/
def befN (ops : List Oper) : Nat → Nat → List Nat
  | 0, _ => []
  | f + 1, j => match ops[j]? with
    | some o => ((o.after.toList.filter (Region.binds .any)).flatMap fun e => e.on :: befN ops f e.on).eraseDups
    | none => []

def drawB (ops : List Oper) (m : Nat) : Bool :=
  (List.range ops.length).all fun j => match ops[j]? with
    | some o => (o.after.toList.all fun e => !Region.binds .any e || Nat.blt e.on j) &&
        (List.range j).all fun i => (befN ops ops.length j).contains i || (Nat.blt j m && (match ops[i]? with
          | some oi => oi.apart ops.toArray o
          | none => false))
    | none => true
end

structure InvF (n : Nat) (W0 : World) (G0 : Gh) (F : FS) (os : List Nat) (own env : List Bx) (a : Act) (w : World) (g : Gh) : Prop where
  size : a.tmps.size = n
  defers : a.defers = []
  fr : ∀ i, i < n → Rep w g.hw g.bs env.length (F i) (a.tmps.getD i undef)
  os : ∀ i ∈ os, ∃ k l, F i = .sl k l ∧ OwnAt w g (.slot i) k (a.tmps.getD i undef)
  good : Good w g (env ++ own) env.length
  ext : Ext (· = .ext) W0 G0 w g
  ecl : ∀ x ∈ env, Bx.cl env.length 0 x
  b0 : G0.bs.length = env.length

section
variable {P : Program} {n : Nat} {W0 : World} {G0 : Gh} {F : FS} {os : List Nat} {own env : List Bx} {a : Act} {w : World} {g : Gh} {ops : Array Oper}

theorem InvF.step (hi : InvF n W0 G0 F os own env a w g) {d : Option Nat} (hd : ∀ t, d = some t → t < n ∧ t ∉ os) {v : AV} {u : Value} {w' : World} {g' : Gh} (G : Good w' g' (env ++ own) env.length) (E : Ext KeepS w g w' g') (hr : Rep w' g'.hw g'.bs env.length v u) :
    InvF n W0 G0 (updO F d v) os own env (a.put d u) w' g' := by
  have hE := hi.ext.trans (E.weaken (by rintro L rfl; intro i j; simp))
  have hos : ∀ i ∈ os, ∃ k l, F i = .sl k l ∧ OwnAt w' g' (.slot i) k (a.tmps.getD i undef) := fun i hm => by
    obtain ⟨k, l, h1, h2⟩ := hi.os i hm
    exact ⟨k, l, h1, h2.mono fun b hb => E.ext b _ hb (by intro i j; simp)⟩
  cases d with
  | none => exact ⟨hi.size, hi.defers, fun i h => (hi.fr i h).mono E.hw E.bs, hos, G, hE, hi.ecl, hi.b0⟩
  | some d =>
    obtain ⟨hd1, hd2⟩ := hd d rfl
    refine ⟨by simpa [Act.put] using hi.size, hi.defers, fun i h => ?_, fun i hm => ?_, G, hE, hi.ecl, hi.b0⟩
    · rw [getD_put (by rw [hi.size]; exact hd1)]
      simp only [updO, upd]
      by_cases e : i = d
      · subst e; simpa using hr
      · rw [if_neg e, if_neg (Ne.symm e)]; exact (hi.fr i h).mono E.hw E.bs
    · have hne : i ≠ d := fun e => hd2 (e ▸ hm)
      rw [getD_put (by rw [hi.size]; exact hd1), if_neg (Ne.symm hne)]
      simp only [updO, upd, if_neg hne]
      exact hos i hm

theorem InvF.eval (hi : InvF n W0 G0 F os own env a w g) {x : Operand} (hx : okTmp n x = true) : Rep w g.hw g.bs env.length (evF F x) (a.eval x) := by
  cases x with
  | tmp t => exact hi.fr t (by rw [← Nat.blt_eq]; exact hx)
  | const v => exact cst_rep v hx
  | func f =>
    have : Rep w g.hw g.bs env.length (.fn (.func f) [] []) (.func (.func f) #[] #[]) := rep_mk_leaf rfl rfl (by simp only [RepV]; exact ⟨#[], #[], rfl, by simp only [RepL], by simp only [RepL]⟩)
    exact this
  | global g => exact hi.good.glob.rep g

theorem InvF.wanted (hi : InvF n W0 G0 F os own env a w g) {o : Oper} {b : Bool} (ho : okF n ops.toList o = true) (h : wantF ops.toList F o = some b) : Region.wanted o (yielded ops a.tmps) = b := by
  unfold wantF at h
  unfold Region.wanted
  simp only [okF, Bool.and_eq_true] at ho
  split at h
  · rename_i hg; rw [hg]; simpa using h
  · rename_i j want hg
    rw [hg] at ho ⊢
    simp only at ho ⊢
    unfold yielded
    have hj : (ops[j]?).bind (·.dst) = (ops.toList[j]?).bind (·.dst) := by simp
    rw [hj]
    split at h
    · rename_i hd; rw [hd]; simp at h; subst h; rfl
    · rename_i t ht
      rw [ht] at ho ⊢
      have htn : t < n := by rw [← Nat.blt_eq]; simpa using ho.2
      have hr := hi.fr t htn
      have hget : a.tmps[t]? = some (a.tmps.getD t undef) := by
        rw [Array.getD_eq_getD_getElem?, Array.getElem?_eq_getElem (by rw [hi.size]; exact htn)]; rfl
      simp only [Option.bind_some]
      rw [hget]
      split at h
      · rename_i b' hx
        rw [hx] at hr
        obtain ⟨e, _⟩ := rep_v hr
        rw [e]
        simp only [Option.some.injEq] at h
        rw [← h]
        simp only
        cases b' <;> cases want <;> rfl
      · rename_i vs hx
        rw [hx] at hr
        obtain ⟨e, _⟩ := rep_v hr
        rw [e]
        simp only [Option.some.injEq] at h
        rw [← h]; rfl
      · cases h

/-- One operation that goes when it is ready. -/
theorem InvF.op (hi : InvF n W0 G0 F os own env a w g) {j : Nat} {o : Oper} {v : AV} {Q : Exit → Act → World → Prop} {K : Act → World → Prop} (hj : ops[j]? = some o) (ho : okF n ops.toList o = true) (hd : ∀ t, o.dst = some t → t ∉ os)
    (h : (wantF ops.toList F o = some true ∧ Yield P env own (evF F) o v) ∨ (wantF ops.toList F o = some false ∧ v = .v undef))
    (hK : ∀ a' w' g', InvF n W0 G0 (updO F o.dst v) os own env a' w' g' → K a' w') : wpOp P ops Q j K a w := by
  have hok : opsOk n o = true := by simp only [okF, Bool.and_eq_true] at ho; exact ho.1
  have hdd : ∀ t, o.dst = some t → t < n ∧ t ∉ os := fun t e => ⟨opsOk_dst hok t e, hd t e⟩
  unfold wpOp
  simp only [hj]
  rcases h with ⟨hw, hy⟩ | ⟨hw, rfl⟩
  · rw [if_pos (hi.wanted ho hw)]
    exact .inl (hy a w g hi.good hi.ecl (fun x hx => hi.eval (opsOk_mem hok hx)) K Q fun u w' g' h1 h2 h3 => hK _ _ g' (hi.step hdd h1 h2 h3))
  · rw [if_neg (by rw [hi.wanted ho hw]; simp)]
    exact hK _ _ g (hi.step hdd hi.good (Ext.refl _ _ _) (rep_v_mk rfl))

def Closed (ops : Array Oper) (listed : Array Bool) : Prop := ∀ j, j < ops.size → listed.getD j true = true → ∀ f k, k ∈ befN ops.toList f j → listed.getD k false = true

theorem bef_ready {listed : Array Bool} (hc : Closed ops listed) (hsz : listed.size = ops.size) {j : Nat} (hj : j ∈ Region.ready .any ops listed) (hlt : ∀ o, ops[j]? = some o → ∀ e ∈ o.after, Region.binds .any e = true → e.on < ops.size) :
    ∀ f k, k ∈ befN ops.toList f j → listed.getD k false = true := by
  obtain ⟨hun, o, ho, hall⟩ := mem_ready.1 hj
  intro f k hk
  cases f with
  | zero => cases hk
  | succ f =>
    have ho' : ops.toList[j]? = some o := by simpa using ho
    simp only [befN, ho', List.mem_eraseDups, List.mem_flatMap, List.mem_filter] at hk
    obtain ⟨e, ⟨he, hb⟩, hk⟩ := hk
    have he' : e ∈ o.after := by simpa using he
    have hl := hall e he' hb
    rcases List.mem_cons.1 hk with rfl | hk
    · exact hl
    · refine hc e.on (hlt o ho e he' hb) ?_ f k hk
      have := hlt o ho e he' hb
      simp only [Array.getD_eq_getD_getElem?, Array.getElem?_eq_getElem (show e.on < listed.size by omega), Option.getD_some] at hl ⊢
      exact hl

theorem drawB_spec {m : Nat} (h : drawB ops.toList m = true) {j : Nat} {o : Oper} (ho : ops[j]? = some o) :
    (∀ e ∈ o.after, Region.binds .any e = true → e.on < j) ∧ ∀ i, i < j → i ∈ befN ops.toList ops.size j ∨ (j < m ∧ ∀ oi, ops[i]? = some oi → oi.apart ops o = true) := by
  have hj : j < ops.size := (Array.getElem?_eq_some_iff.1 ho).1
  have ho' : ops.toList[j]? = some o := by simpa using ho
  unfold drawB at h
  have := List.all_eq_true.1 h j (by simpa using hj)
  simp only [ho', Bool.and_eq_true, List.all_eq_true, Bool.or_eq_true, Bool.not_eq_true'] at this
  refine ⟨fun e he hb => ?_, fun i hij => ?_⟩
  · rcases this.1 e (by simpa using he) with h | h
    · rw [hb] at h; cases h
    · rw [← Nat.blt_eq]; exact h
  · rcases this.2 i (by simpa using hij) with h | h
    · exact .inl (by simpa using h)
    · refine .inr ⟨by rw [← Nat.blt_eq]; exact h.1, fun oi hoi => ?_⟩
      have hoi' : ops.toList[i]? = some oi := by simpa using hoi
      rw [hoi'] at h
      simpa using h.2

theorem closed_set {m : Nat} (hB : drawB ops.toList m = true) {listed : Array Bool} (hc : Closed ops listed) (hsz : listed.size = ops.size) {j : Nat} (hj : j ∈ Region.ready .any ops listed) : Closed ops (listed.setIfInBounds j true) := by
  have hbr := bef_ready hc hsz hj (fun o ho e he hb => Nat.lt_trans ((drawB_spec hB ho).1 e he hb) (Array.getElem?_eq_some_iff.1 ho).1)
  intro i hi hl f k hk
  by_cases hij : i = j
  · subst hij; exact getD_set_true (hbr f k hk)
  · rw [getD_set_ne true (Ne.symm hij)] at hl
    exact getD_set_true (hc i hi hl f k hk)
end
end Go.Ev
end
