/- Written by programs of this session: laws and contracts that the law's proof stands on, merged into one text. Conditions: none beyond those in each statement. -/
import Derived.Test.YtepdiooaoegpfaaGreatDoorPkEv17
section
/- Written by this session: a region that draws its order, in which one call may make boxes; which of these are kept. Conditions: none beyond those in each statement. -/
namespace Go.Ev
open Go

theorem Rep1.take {w : World} {hw : Hw} {bs : List Nat} {base m : Nat} {a : AV} {y : Value} (c : a.cl base m) (h : Rep1 w hw bs base a y) : Rep1 w hw (bs.take (base + m)) base a y := h.imp id fun ⟨h, e⟩ => ⟨RepV.takeV _ _ c h, e⟩
theorem RepT.take {w : World} {hw : Hw} {bs : List Nat} {base m : Nat} : ∀ (l : List AV) (vs : List Value), clL base m l → RepT w hw bs base l vs → RepT w hw (bs.take (base + m)) base l vs
  | [], _, _, h => h
  | x :: xs, _, c, h => by
    simp only [RepT] at h ⊢
    simp only [clL] at c
    obtain ⟨v, vs', e, h1, h2⟩ := h
    exact ⟨v, vs', e, h1.take c.1, RepT.take xs _ c.2 h2⟩
theorem Rep.take {w : World} {hw : Hw} {bs : List Nat} {base m : Nat} {a : AV} {y : Value} (c : a.cl base m) (h : Rep w hw bs base a y) : Rep w hw (bs.take (base + m)) base a y := by
  cases a with
  | tup l => obtain ⟨vs, e, h⟩ := h; simp only [AV.cl] at c; exact ⟨vs, e, RepT.take l _ c h⟩
  | _ => exact Rep1.take c h

def Gh.down (g : Gh) (k : Nat) : Gh := { g with bs := g.bs.take k, own := fun b => match g.own b with
  | some (.cell i j) => if i < k then some (.cell i j) else none
  | x => x }

theorem down_own {g : Gh} {k : Nat} {b : Nat} {L : Loc} (h : (g.down k).own b = some L) : g.own b = some L := by
  unfold Gh.down at h
  simp only at h
  cases hb : g.own b with
  | none => rw [hb] at h; cases h
  | some L' =>
    rw [hb] at h
    cases L' with
    | slot i => exact h
    | ext => exact h
    | cell i j =>
      simp only at h
      split at h
      · exact h
      · cases h

/-- Without the last boxes. -/
theorem Good.down {w : World} {g : Gh} {env own new : List Bx} (G : Good w g (env ++ (own ++ new)) env.length) (hcl : ∀ x ∈ env ++ own, Bx.cl env.length own.length x) : Good w (g.down (env.length + own.length)) (env ++ own) env.length where
  len := by
    have := G.len
    simp only [Gh.down, List.length_take, List.length_append] at this ⊢; omega
  nd := G.nd.sublist (List.take_sublist _ _)
  nohw b hb := G.nohw b (List.mem_of_mem_take hb)
  box i x b hx hb := by
    have hil : i < env.length + own.length := by have := (List.getElem?_eq_some_iff.1 hx).1; simpa using this
    have hx' : (env ++ (own ++ new))[i]? = some x := by rw [← List.append_assoc, List.getElem?_append_left (by simpa using hil)]; exact hx
    have hb' : g.bs[i]? = some b := by
      have hb : (g.bs.take (env.length + own.length))[i]? = some b := hb
      rw [List.getElem?_take, if_pos hil] at hb; exact hb
    have := G.box i x b hx' hb'
    have hc := hcl x (List.mem_of_getElem? hx)
    cases x with
    | cells l os =>
      obtain ⟨cs, e, h1, h2, h3⟩ := this
      refine ⟨cs, e, h1, RepL.takeL l _ hc h2, fun j hj => ?_⟩
      obtain ⟨k, l', y, f1, f2, f3⟩ := h3 j hj
      exact ⟨k, l', y, f1, f2, f3.mono fun b hb => ⟨by simp [Gh.down, hb, hil], rfl, rfl⟩⟩
    | map l => exact this
  hw := G.hw
  own b L h := G.own b L (down_own h)
  glob := G.glob

theorem PureAt.more {P : Program} {env own : List Bx} {ρA : Operand → AV} {o : Oper} {v : AV} (hcl : ∀ x ∈ env ++ own, Bx.cl env.length own.length x) (hop : ∀ x ∈ o.op.operands, (ρA x).cl env.length own.length) (h : PureAt P env own ρA o v) (new : List Bx) :
    PureAt P env (own ++ new) ρA o v := by
  intro ρ w g G hr
  obtain ⟨u, h1, h2⟩ := h ρ w _ (G.down hcl) fun x hx => (hr x hx).take (hop x hx)
  exact ⟨u, h1, h2.mono (HwLe.refl _ _) fun i b hb => by
    have hb : (g.bs.take (env.length + own.length))[i]? = some b := hb
    rw [List.getElem?_take] at hb
    split at hb
    · exact hb
    · cases hb⟩

section
variable {P : Program} {n : Nat} {env own : List Bx}

def YieldM (P : Program) (env own : List Bx) (ρA : Operand → AV) (o : Oper) (v : AV) : Prop := ∀ new, Yield P env (own ++ new) ρA o v
def WildAt (P : Program) (env own : List Bx) (ρA : Operand → AV) (o : Oper) (Out : AV → List Bx → Prop) : Prop :=
  ∀ (a : Act) (w : World) (g : Gh), Good w g (env ++ own) env.length → (∀ x ∈ env, Bx.cl env.length 0 x) → (∀ x, x ∈ o.op.operands → Rep w g.hw g.bs env.length (ρA x) (a.eval x)) →
    ∀ (next : Act → World → Prop) (Q : Exit → Act → World → Prop), (∀ u w' g' v own', Out v own' → Good w' g' (env ++ own') env.length → Ext KeepS w g w' g' → Rep w' g'.hw g'.bs env.length v u → next (a.put o.dst u) w') → o.wp P a w next Q
theorem WildAt.congr {ρA ρA' : Operand → AV} {o : Oper} {Out : AV → List Bx → Prop} (h : WildAt P env own ρA o Out) (he : ∀ x, x ∈ o.op.operands → ρA' x = ρA x) : WildAt P env own ρA' o Out :=
  fun a w g G E hr => h a w g G E fun x hx => by rw [← he x hx]; exact hr x hx

theorem WildAt.call {ρA : Operand → AV} {f : FuncId} {args : Array Operand} {ts : Array TypeId} {dst : Option Tmp} {type : TypeId} {pos : String} {after : Array Edge} {guard : Option (Nat × Bool)} {R : AV → Bool → List Bx → Prop} {Out : AV → List Bx → Prop}
    (hc : Callable P f) (htup : (args.toList.all fun x => !(ρA x).isTup) = true) (hx : XCalls P f ((args.toList.map ρA).map (AV.up env.length)) ((env ++ own).map (Bx.up env.length)) R)
    (hR : (∀ x ∈ env, Bx.cl env.length 0 x) → (∀ x ∈ env ++ own, Bx.cl env.length own.length x) → ∀ r ow env', R r ow env' → ∃ v own', r = AV.up env.length v ∧ env' = (env ++ own').map (Bx.up env.length) ∧ v.cl env.length own'.length ∧ (∀ x ∈ env ++ own', Bx.cl env.length own'.length x) ∧ Out v own') :
    WildAt P env own ρA ⟨dst, .call ⟨.value (.func f), args, ts⟩, type, pos, after, guard⟩ Out := by
  intro a w g G E hr next Q hn
  have hA := argsRepF (ρA := ρA) (a := a) args.toList (fun x hx => hr x (by simp [Op.operands, Call.operands]; exact .inr (by simpa using hx))) htup
  have hrun : (execOp a.eval ⟨dst, .call ⟨.value (.func f), args, ts⟩, type, pos, after, guard⟩).run P w = .ok (.enter f (args.toList.map a.eval).toArray) w := by
    have hq : a.eval (.func f) = .func (.func f) #[] #[] := rfl
    simp only [execOp, Sem.run_bind, resolve, hq, Deferred.ofValue, Sem.run_pure, Result.andThen_ok, invoke]
    rw [run_callFunc hc]
    congr 2
    apply Array.toList_inj.1; simp
  unfold Oper.wp
  rw [hrun]
  have hcl : ∀ x ∈ env ++ own, Bx.cl env.length own.length x := by
    intro x hx
    obtain ⟨i, hi', rfl⟩ := List.mem_iff_getElem.1 hx
    have hib : i < g.bs.length := by rw [G.len]; exact hi'
    have := G.box i (env ++ own)[i] g.bs[i] (List.getElem?_eq_getElem hi') (List.getElem?_eq_getElem hib)
    cases hx : (env ++ own)[i] with
    | map l => trivial
    | cells l os =>
      rw [hx] at this
      obtain ⟨cs, e, _, h2, _⟩ := this
      have := RepL.toCl _ _ h2
      rw [G.len] at this
      have e : (env ++ own).length - env.length = own.length := by simp
      rw [e] at this
      exact this
  refine (Good.call (c := ⟨[], [], own, env⟩) (g := g) G hA (R := R) hx 0).mono ?_
  rintro e w' ⟨u, r', ow', env', rfl, hR', hcont⟩
  obtain ⟨v, own', h1, h2, h3, h4, h5⟩ := hR E hcl r' ow' env' hR'
  have hlen : (env ++ own').length - env.length = own'.length := by simp
  obtain ⟨g', k1, k2, k3, _⟩ := hcont v (env ++ own') h1 h2 (by rw [show (Cfg.base ⟨[], [], own, env⟩) = env.length from rfl, hlen]; exact h3) (by rw [show (Cfg.base ⟨[], [], own, env⟩) = env.length from rfl, hlen]; exact h4)
  exact hn u w' g' v own' h5 k1 k2 k3

def SeqM (P : Program) (n : Nat) (env own : List Bx) (ops : List Oper) : List Nat → FS → (FS → Prop) → Prop
  | [], F, K => K F
  | i :: r, F, K => ∃ o v, ops[i]? = some o ∧ okF n ops o = true ∧ ((wantF ops F o = some true ∧ YieldM P env own (evF F) o v) ∨ (wantF ops F o = some false ∧ v = .v undef)) ∧ SeqM P n env own ops r (updO F o.dst v) K

variable {ops : Array Oper}

theorem YieldM.congr {ρA ρA' : Operand → AV} {o : Oper} {v : AV} (h : YieldM P env own ρA o v) (he : ∀ x, x ∈ o.op.operands → ρA' x = ρA x) : YieldM P env own ρA' o v := fun new => (h new).congr he

theorem SeqM.first {j : Nat} {oj : Oper} (hj : ops[j]? = some oj) : ∀ (r1 r2 : List Nat) (F : FS) (K : FS → Prop), (∀ i ∈ r1, ∀ oi, ops[i]? = some oi → oi.apart ops oj = true) → SeqM P n env own ops.toList (r1 ++ j :: r2) F K →
    ∃ v, okF n ops.toList oj = true ∧ ((wantF ops.toList F oj = some true ∧ YieldM P env own (evF F) oj v) ∨ (wantF ops.toList F oj = some false ∧ v = .v undef)) ∧ SeqM P n env own ops.toList (r1 ++ r2) (updO F oj.dst v) K
  | [], r2, F, K, _, h => by
    simp only [List.nil_append, SeqM] at h
    obtain ⟨o, v, h1, h2, h3, h4⟩ := h
    have : o = oj := by
      have : ops.toList[j]? = some oj := by simpa using hj
      rw [this] at h1; cases h1; rfl
    subst this
    exact ⟨v, h2, h3, h4⟩
  | i :: r1, r2, F, K, hap, h => by
    simp only [List.cons_append, SeqM] at h
    obtain ⟨oi, vi, h1, h2, h3, h4⟩ := h
    have hoi : ops[i]? = some oi := by simpa using h1
    obtain ⟨p1, p2, p3⟩ := Oper.apart_spec (hap i (by simp) oi hoi)
    obtain ⟨v, k1, k2, k3⟩ := SeqM.first hj r1 r2 _ K (fun i hi => hap i (by simp [hi])) h4
    refine ⟨v, k1, ?_, ?_⟩
    · rw [wantF_upd p1] at k2
      refine k2.imp (fun ⟨q1, q2⟩ => ⟨q1, q2.congr fun x hx => ?_⟩) id
      refine (evF_upd fun t ht e => ?_).symm
      subst e
      exact p1 t ht (looks_mem hx)
    · simp only [List.cons_append, SeqM]
      refine ⟨oi, vi, h1, h2, ?_, ?_⟩
      · rw [wantF_upd p3]
        refine h3.imp (fun ⟨q1, q2⟩ => ⟨q1, q2.congr fun x hx => ?_⟩) id
        refine evF_upd fun t ht e => ?_
        subst e
        exact p3 t ht (looks_mem hx)
      · rw [← updO_comm p2]; exact k3

def Apart3 (ops : Array Oper) (x y : Oper) : Prop :=
  (∀ d, x.dst = some d → d ∉ y.looksAt ops) ∧ (∀ d, x.dst = some d → y.dst ≠ some d) ∧ (∀ d, y.dst = some d → d ∉ x.looksAt ops)
theorem Apart3.symm {ops : Array Oper} {x y : Oper} (h : Apart3 ops x y) : Apart3 ops y x := ⟨h.2.2, fun d e e' => h.2.1 d e' e, h.1⟩

/-- What makes boxes, in whatever order it goes. -/
def HA (P : Program) (n : Nat) (env : List Bx) (ops : Array Oper) (pre : List Bx) (K : List Bx → FS → Prop) : Nat → List Nat → List Bx → FS → Prop
  | 0, _, own, F => K own F
  | k + 1, W, own, F => ∀ w ∈ W, (∀ u ∈ W, u ∉ befN ops.toList ops.size w) → ∃ o Out, ops[w]? = some o ∧ okF n ops.toList o = true ∧ o.guard = none ∧ WildAt P env own (evF F) o Out ∧
      ∀ v own', Out v own' → (∃ rest, own' = pre ++ rest) ∧ HA P n env ops pre K k (W.erase w) own' (updO F o.dst v)

/-- What makes boxes goes ahead of what is left. -/
theorem SeqM.wild {o : Oper} {w k : Nat} {W : List Nat} {pre : List Bx} {K : List Bx → FS → Prop} (ho : ops[w]? = some o) (hw : w ∈ W) (hready : ∀ u ∈ W, u ∉ befN ops.toList ops.size w) : ∀ (R : List Nat) (F : FS), (∀ i ∈ R, ∀ oi, ops[i]? = some oi → Apart3 ops oi o) →
    SeqM P n env pre ops.toList R F (HA P n env ops pre K (k + 1) W own) →
    ∃ Out, okF n ops.toList o = true ∧ o.guard = none ∧ WildAt P env own (evF F) o Out ∧ ∀ v own', Out v own' → (∃ rest, own' = pre ++ rest) ∧ SeqM P n env pre ops.toList R (updO F o.dst v) (HA P n env ops pre K k (W.erase w) own')
  | [], F, _, h => by
    obtain ⟨o', Out, h1, h2, h3, h4, h5⟩ := h w hw hready
    rw [ho] at h1
    cases h1
    exact ⟨Out, h2, h3, h4, h5⟩
  | i :: R, F, hap, h => by
    simp only [SeqM] at h
    obtain ⟨oi, vi, h1, h2, h3, h4⟩ := h
    have hoi : ops[i]? = some oi := by simpa using h1
    obtain ⟨p1, p2, p3⟩ := hap i (by simp) oi hoi
    obtain ⟨Out, g1, g2, k1, k2⟩ := SeqM.wild ho hw hready R _ (fun i hi => hap i (by simp [hi])) h4
    refine ⟨Out, g1, g2, k1.congr fun x hx => (evF_upd fun t ht e => by subst e; exact p1 t ht (looks_mem hx)).symm, fun v own' hO => ⟨(k2 v own' hO).1, ?_⟩⟩
    simp only [SeqM]
    refine ⟨oi, vi, h1, h2, ?_, ?_⟩
    · rw [wantF_upd p3]
      refine h3.imp (fun ⟨q1, q2⟩ => ⟨q1, fun rest => ?_⟩) id
      refine (q2 rest).congr fun x hx => ?_
      refine evF_upd fun t ht e => ?_
      subst e
      exact p3 t ht (looks_mem hx)
    · rw [← updO_comm p2]; exact (k2 v own' hO).2
end

section
variable {P : Program} {n : Nat} {W0 : World} {G0 : Gh} {ops : Array Oper} {Q : Exit → Act → World → Prop}

theorem InvF.stepN {F : FS} {os : List Nat} {own env own' : List Bx} {a : Act} {w : World} {g : Gh} (hi : InvF n W0 G0 F os own env a w g) {d : Option Nat} (hd : ∀ t, d = some t → t < n ∧ t ∉ os) {v : AV} {u : Value} {w' : World} {g' : Gh} (G : Good w' g' (env ++ own') env.length) (E : Ext KeepS w g w' g') (hr : Rep w' g'.hw g'.bs env.length v u) :
    InvF n W0 G0 (updO F d v) os own' env (a.put d u) w' g' := by
  have hE := hi.ext.trans (E.weaken (by rintro L rfl; intro i j; simp))
  have hos : ∀ i ∈ os, ∃ k l, F i = .sl k l ∧ OwnAt w' g' (.slot i) k (a.tmps.getD i undef) := fun i hm => by
    obtain ⟨k, l, h1, h2⟩ := hi.os i hm
    exact ⟨k, l, h1, h2.mono fun b hb => E.ext b _ hb (by intro i j; simp)⟩
  cases d with
  | none => exact ⟨hi.size, hi.defers, fun i h => (hi.fr i h).mono E.hw E.bs, hos, G, hE, hi.ecl, hi.b0⟩
  | some d =>
    obtain ⟨hd1, hd2⟩ := hd d rfl
    refine ⟨by simpa [Act.put] using hi.size, hi.defers, fun i h => ?_, fun i hm => ?_, G, hE, hi.ecl, hi.b0⟩
    · rw [getD_put (by rw [hi.size]; exact hd1)]
      simp only [updO, upd]
      by_cases e : i = d
      · subst e; simpa using hr
      · rw [if_neg e, if_neg (Ne.symm e)]; exact (hi.fr i h).mono E.hw E.bs
    · have hne : i ≠ d := fun e => hd2 (e ▸ hm)
      rw [getD_put (by rw [hi.size]; exact hd1), if_neg (Ne.symm hne)]
      simp only [updO, upd, if_neg hne]
      exact hos i hm


theorem any_of_wilds {M : Nat} (hB : drawB ops.toList M = true) (hM : M ≤ ops.size) {os : List Nat} {env pre : List Bx} {K : List Bx → FS → Prop}
    (hdst : ∀ j o, j < M → ops[j]? = some o → ∀ t, o.dst = some t → t ∉ os)
    (hsuf : ∀ own F a w g, K own F → InvF n W0 G0 F os own env a w g → wpOps P ops Q (List.range' M (ops.size - M)) a w) :
    ∀ (N : Nat) (R W : List Nat) (listed : Array Bool) (own : List Bx) (F : FS) (a : Act) (w : World) (g : Gh), R.length + W.length = N → listed.size = ops.size → Closed ops listed →
      (∀ i, i < M → (listed.getD i true = false ↔ i ∈ R ∨ i ∈ W)) → R.Pairwise (· < ·) → W.Nodup → (∀ i ∈ R, i < M ∧ i ∉ W) → (∀ i ∈ W, i < M) → (∀ i ∈ R, ∀ w ∈ W, w ∉ befN ops.toList ops.size i) →
      (∀ j, M ≤ j → j < ops.size → listed.getD j true = false) → (∃ rest, own = pre ++ rest) → SeqM P n env pre ops.toList R F (HA P n env ops pre K W.length W own) → InvF n W0 G0 F os own env a w g →
      wpAny P .any ops Q (N + (ops.size - M)) listed a w := by
  intro N
  induction N with
  | zero =>
    intro R W listed own F a w g hN hsz hc hRW hsort hnd hR hW hdep hs hpre hseq hi
    have hR0 : R = [] := List.eq_nil_of_length_eq_zero (by omega)
    have hW0 : W = [] := List.eq_nil_of_length_eq_zero (by omega)
    subst hR0 hW0
    simp only [SeqM, List.length_nil, HA] at hseq
    have : listed = upTo ops.size M := by
      apply Array.ext
      · rw [hsz, upTo_size]
      · intro i h1 h2
        have hi' : i < ops.size := by rw [← hsz]; exact h1
        have e1 : listed.getD i true = listed[i] := by rw [Array.getD_eq_getD_getElem?, Array.getElem?_eq_getElem h1]; rfl
        have e2 : (upTo ops.size M).getD i true = (upTo ops.size M)[i] := by rw [Array.getD_eq_getD_getElem?, Array.getElem?_eq_getElem h2]; rfl
        rw [← e1, ← e2, upTo_get hi']
        rcases Nat.lt_or_ge i M with h | h
        · have := hRW i h
          simp only [List.not_mem_nil, or_self, iff_false, Bool.not_eq_false] at this
          simp [h, this]
        · rw [hs i h hi']; simp; omega
    subst this
    rw [Nat.zero_add]
    exact any_of_ops hB _ M a w (Nat.le_refl _) (by omega) (hsuf own F a w g hseq hi)
  | succ N ih =>
    intro R W listed own F a w g hN hsz hc hRW hsort hnd hR hW hdep hs hpre hseq hi
    have edge : ∀ (o : Oper) (j : Nat), ops[j]? = some o → ∀ e ∈ o.after, Region.binds .any e = true → e.on < ops.size := fun o j ho e he hb => Nat.lt_trans ((drawB_spec hB ho).1 e he hb) (Array.getElem?_eq_some_iff.1 ho).1
    have get2 : ∀ i, i < ops.size → listed.getD i true = listed.getD i false := fun i hi => by
      have hil : i < listed.size := by omega
      rw [Array.getD_eq_getD_getElem?, Array.getD_eq_getD_getElem?, Array.getElem?_eq_getElem hil]; rfl
    -- the least that is left is ready
    have hsome : ∃ i0, i0 < M ∧ listed.getD i0 true = false ∧ ∀ i, i < i0 → listed.getD i true = true := by
      have hex : ∃ i, i < M ∧ listed.getD i true = false := by
        cases R with
        | cons i R => exact ⟨i, (hR i (by simp)).1, (hRW i (hR i (by simp)).1).2 (.inl (by simp))⟩
        | nil =>
          cases W with
          | cons i W => exact ⟨i, hW i (by simp), (hRW i (hW i (by simp))).2 (.inr (by simp))⟩
          | nil => simp at hN
      have find : ∀ (m : Nat) (i : Nat), i < m → i < M → listed.getD i true = false → ∃ i0, i0 < M ∧ listed.getD i0 true = false ∧ ∀ q, q < i0 → listed.getD q true = true := by
        intro m
        induction m with
        | zero => intro i h; omega
        | succ m im =>
          intro i him hiM hif
          by_cases hall : ∀ q, q < i → listed.getD q true = true
          · exact ⟨i, hiM, hif, hall⟩
          · have : ∃ q, q < i ∧ listed.getD q true = false := by
              refine Classical.byContradiction fun hno => hall fun q hq => ?_
              cases h : listed.getD q true with
              | true => rfl
              | false => exact absurd ⟨q, hq, h⟩ hno
            obtain ⟨q, hq, hqf⟩ := this
            exact im q (by omega) (by omega) hqf
      obtain ⟨i, h1, h2⟩ := hex
      exact find (i + 1) i (by omega) h1 h2
    obtain ⟨i0, q1, q2, q3⟩ := hsome
    have hready0 : i0 ∈ Region.ready .any ops listed := by
      have hi0l : i0 < ops.size := by omega
      exact mem_ready.2 ⟨q2, _, Array.getElem?_eq_getElem hi0l, fun e he hb => by
        have hlt := (drawB_spec hB (Array.getElem?_eq_getElem hi0l)).1 e he hb
        rw [← get2 _ (by omega)]; exact q3 _ hlt⟩
    rw [show N + 1 + (ops.size - M) = (N + (ops.size - M)) + 1 from by omega]
    refine ⟨(fun h0 => by rw [h0] at hready0; cases hready0), fun j hj => ?_⟩
    obtain ⟨hjun, oj, hoj, hall⟩ := mem_ready.1 hj
    have hjl := (Array.getElem?_eq_some_iff.1 hoj).1
    have hbr := bef_ready hc hsz hj (fun o ho => edge o j ho)
    have hjM : j < M := by
      rcases Nat.lt_or_ge j M with h | h
      · exact h
      · rcases (drawB_spec hB hoj).2 i0 (by omega) with h' | ⟨h', _⟩
        · have := hbr _ _ h'
          rw [← get2 _ (by omega), q2] at this; cases this
        · omega
    have apartBelow : ∀ i, i < j → listed.getD i true = false → ∀ oi, ops[i]? = some oi → oi.apart ops oj = true := by
      intro i hlt hif oi hoi
      rcases (drawB_spec hB hoj).2 i hlt with h | ⟨_, h⟩
      · have := hbr _ _ h
        rw [← get2 _ (by omega), hif] at this; cases this
      · exact h oi hoi
    have unl : ∀ i, i < M → i ≠ j → ((listed.setIfInBounds j true).getD i true = false ↔ listed.getD i true = false) := fun i _ hij => by
      rw [getD_set_ne true (Ne.symm hij)]
    have unlj : (listed.setIfInBounds j true).getD j true = true := by
      have hil : j < listed.size := by omega
      simp [Array.getD_eq_getD_getElem?, hil]
    rcases (hRW j hjM).1 hjun with hjR | hjW
    · obtain ⟨r1, r2, hsplit⟩ := List.append_of_mem hjR
      have hap : ∀ i ∈ r1, ∀ oi, ops[i]? = some oi → oi.apart ops oj = true := by
        intro i hi1 oi hoi
        have hiR : i ∈ R := by rw [hsplit]; simp [hi1]
        have hlt : i < j := by
          rw [hsplit, List.pairwise_append] at hsort
          exact hsort.2.2 i hi1 j (by simp)
        exact apartBelow i hlt ((hRW i (hR i hiR).1).2 (.inl hiR)) oi hoi
      have hseq' := hseq
      rw [hsplit] at hseq'
      obtain ⟨v, k1, k2, k3⟩ := SeqM.first hoj r1 r2 F _ hap hseq'
      have hndR : R.Nodup := hsort.imp (fun h => Nat.ne_of_lt h)
      have hj12 : j ∉ r1 ++ r2 := by
        rw [hsplit, List.nodup_append] at hndR
        obtain ⟨n1, n2, n3⟩ := hndR
        rw [List.nodup_cons] at n2
        intro hm
        rcases List.mem_append.1 hm with h | h
        · exact n3 j h j (by simp) rfl
        · exact n2.1 h
      have hmem : ∀ i, i ∈ R ↔ i = j ∨ i ∈ r1 ++ r2 := fun i => by rw [hsplit]; simp; grind
      refine hi.op hoj k1 (fun t ht => hdst j oj hjM hoj t ht) (k2.imp (fun ⟨q1, q2⟩ => ⟨q1, by obtain ⟨rest, rfl⟩ := hpre; exact q2 rest⟩) id) fun a' w' g' hi' => ?_
      refine ih (r1 ++ r2) W (listed.setIfInBounds j true) own _ a' w' g' ?_ (by simpa using hsz) (closed_set hB hc hsz hj) (fun i him => ?_) ?_ hnd (fun i hi => hR i ((hmem i).2 (.inr hi))) hW (fun i hi => hdep i ((hmem i).2 (.inr hi))) (fun q hq hql => ?_) hpre k3 hi'
      · rw [hsplit] at hN; simp at hN ⊢; omega
      · by_cases hij : i = j
        · subst hij
          rw [unlj]
          simp only [Bool.true_eq_false, false_iff, not_or]
          exact ⟨hj12, (hR i hjR).2⟩
        · rw [unl i him hij, hRW i him, hmem i]; simp [hij]
      · rw [hsplit] at hsort
        exact hsort.sublist (List.Sublist.append (List.Sublist.refl _) (List.sublist_cons_self ..))
      · rw [getD_set_ne true (by omega)]; exact hs q hq hql
    · have hlenW : W.length = (W.length - 1) + 1 := by have := List.length_pos_of_mem hjW; omega
      have hap : ∀ i ∈ R, ∀ oi, ops[i]? = some oi → Apart3 ops oi oj := by
        intro i hiR oi hoi
        have hif := (hRW i (hR i hiR).1).2 (.inl hiR)
        rcases Nat.lt_trichotomy i j with h | rfl | h
        · exact Oper.apart_spec (apartBelow i h hif oi hoi)
        · exact absurd hjW (hR i hiR).2
        · rcases (drawB_spec hB hoi).2 j h with h' | ⟨_, h'⟩
          · exact absurd h' (hdep i hiR j hjW)
          · exact Apart3.symm (Oper.apart_spec (h' oj hoj))
      have hready : ∀ u ∈ W, u ∉ befN ops.toList ops.size j := fun u hu h => by
        have := hbr _ _ h
        rw [← get2 _ (by have := hW u hu; omega), (hRW u (hW u hu)).2 (.inr hu)] at this; cases this
      rw [hlenW] at hseq
      obtain ⟨Out, hok, hg, k1, k2⟩ := SeqM.wild hoj hjW hready R F hap hseq
      unfold wpOp
      simp only [hoj]
      have hopo : opsOk n oj = true := by simp only [okF, Bool.and_eq_true] at hok; exact hok.1
      rw [if_pos (by unfold Region.wanted; rw [hg])]
      refine .inl (k1 a w g hi.good hi.ecl (fun x hx => hi.eval (opsOk_mem hopo hx)) _ _ fun u w' g' v own' hO q1 q2 q3 => ?_)
      have hi' := hi.stepN (d := oj.dst) (fun t e => ⟨opsOk_dst hopo t e, hdst j oj hjM hoj t e⟩) q1 q2 q3
      have hlenE : (W.erase j).length = W.length - 1 := List.length_erase_of_mem hjW
      refine ih R (W.erase j) (listed.setIfInBounds j true) own' _ _ w' g' (by omega) (by simpa using hsz) (closed_set hB hc hsz hj) (fun i him => ?_) hsort (hnd.erase j) (fun i hi => ⟨(hR i hi).1, fun h => (hR i hi).2 (List.mem_of_mem_erase h)⟩) (fun i hi => hW i (List.mem_of_mem_erase hi)) (fun i hi u hu => hdep i hi u (List.mem_of_mem_erase hu)) (fun q hq hql => ?_) (k2 v own' hO).1 (by rw [hlenE]; exact (k2 v own' hO).2) hi'
      · by_cases hij : i = j
        · subst hij
          rw [unlj]
          simp only [Bool.true_eq_false, false_iff, not_or]
          exact ⟨fun h => (hR i h).2 hjW, fun h => by rw [hnd.mem_erase_iff] at h; exact h.1 rfl⟩
        · rw [unl i him hij, hRW i him, List.mem_erase_of_ne hij]
      · rw [getD_set_ne true (by omega)]; exact hs q hq hql

/-- A new box. -/
theorem goodBox {w : World} {g : Gh} {env own : List Bx} (G : Good w g (env ++ own) env.length) {l : List AV} {cs : Array Value} {e : TypeId} (hr : RepL w g.hw g.bs env.length l cs.toList) :
    ∃ g', Good (push w (.cells cs e)) g' (env ++ (own ++ [.cells l []])) env.length ∧ Ext KeepS w g (push w (.cells cs e)) g' ∧ g'.bs[env.length + own.length]? = some w.heap.size := by
  obtain ⟨G1, E1⟩ := G.push (.cells cs e) none none (by simp) (by simp)
  have hlen : g.bs.length = env.length + own.length := by rw [G.len]; simp
  have hnew : w.heap.size ∉ g.bs := fun h => Nat.lt_irrefl _ (G.box_lt h)
  have hB : ∀ (i b : Nat), g.bs[i]? = some b → (g.bs ++ [w.heap.size])[i]? = some b := fun i b h => by
    rw [List.getElem?_append_left (List.getElem?_eq_some_iff.1 h).1]; exact h
  let g1 : Gh := { g with hw := upd g.hw w.heap.size none, own := upd g.own w.heap.size none }
  let g' : Gh := { g1 with bs := g.bs ++ [w.heap.size] }
  have E : Ext KeepS w g (push w (.cells cs e)) g' := ⟨E1.size, rfl, rfl, rfl, E1.hw, E1.ext, hB, fun b hb => by
      rcases List.mem_append.1 hb with h | h
      · exact .inl h
      · simp at h; exact .inr (by omega), E1.orig, E1.old⟩
  refine ⟨g', ?_, E, by simp only [g']; rw [← hlen]; simp⟩
  refine ⟨by simp [g', hlen]; omega, ?_, fun b hb => ?_, fun i x b hx hb => ?_, G1.hw, G1.own, G1.glob⟩
  · refine List.nodup_append.2 ⟨G.nd, by simp, ?_⟩
    intro x hx y hy hxy
    simp at hy; subst hy; subst hxy; exact hnew hx
  · rcases List.mem_append.1 hb with h | h
    · exact G1.nohw b h
    · simp at h; subst h; exact upd_same _ _ _
  · rw [← List.append_assoc] at hx
    rcases Nat.lt_or_ge i (env ++ own).length with h | h
    · rw [List.getElem?_append_left h] at hx
      have hb' : g.bs[i]? = some b := by
        simp only [g'] at hb
        rwa [List.getElem?_append_left (by rw [G.len]; exact h)] at hb
      exact RepB.mono (g := g1) (g' := g') (HwLe.refl _ _) hB rfl (fun j b e => ⟨e, rfl, rfl⟩) (G1.box i x b hx hb')
    · rw [List.getElem?_append_right h] at hx
      have hi0 : i - (env ++ own).length = 0 := by
        rcases Nat.eq_zero_or_pos (i - (env ++ own).length) with h | h
        · exact h
        · rw [List.getElem?_eq_none (by exact h)] at hx; cases hx
      rw [hi0] at hx
      simp at hx; subst hx
      have : i = g.bs.length := by rw [G.len]; exact Nat.le_antisymm (by omega) h
      simp only [g'] at hb
      rw [this] at hb
      simp at hb; subst hb
      exact ⟨cs, e, heap_push_new, RepL.mono E.hw hB l _ hr, fun j hj => by cases hj⟩

theorem WildAt.alloc {env own : List Bx} {ρA : Operand → AV} {d : Nat} {e : TypeId} {i : TypeInfo} {z : Value} {type : TypeId} {pos : String} {after : Array Edge} {guard : Option (Nat × Bool)} (hi0 : P.info? e = some i) (hz : i.zero = some z) (hok : okTmp n (.const z) = true) (hx : leavesOk (cst z) = true) :
    WildAt P env own ρA ⟨some d, .alloc e, type, pos, after, guard⟩ fun v own' => v = .bp own.length 0 ∧ own' = own ++ [.cells (cst z).leaves []] := by
  intro a w g G E hr next Q hn
  obtain ⟨hc, _⟩ := rep_cells (leavesOk_or hx) (cst_rep (hw := g.hw) (bs := g.bs) (base := env.length) (w := w) z hok)
  obtain ⟨g', h1, h2, h3⟩ := goodBox G (e := e) hc
  unfold Oper.wp
  have hrun : (execOp a.eval ⟨some d, .alloc e, type, pos, after, guard⟩).run P w = .ok (.value (.pointer (some ⟨w.heap.size, 0, none⟩))) (push w (.cells z.cells e)) := by
    simp [execOp, Instr.alloc, zeroValue, typeInfo, hi0, hz, newVar, newRow, push]
  rw [hrun]
  exact hn _ _ g' _ _ ⟨rfl, rfl⟩ h1 h2 (rep_bp_mk h3)

theorem WildAt.steady {env own : List Bx} {ρA : Operand → AV} {o : Oper} {v : AV} (h : Yield P env own ρA o v) : WildAt P env own ρA o fun v' own' => v' = v ∧ own' = own := by
  intro a w g G E hr next Q hn
  refine h a w g G E hr next Q fun u w' g' q1 q2 q3 => ?_
  exact hn u w' g' v own ⟨rfl, rfl⟩ q1 q2 q3

theorem WildAt.store {c : Cfg} {t : TypeId} {p x : Operand} {i off : Nat} {l : List AV} {os : List Nat} {dst : Option Tmp} {type : TypeId} {pos : String} {after : Array Edge} {guard : Option (Nat × Bool)}
    (hp : evA c p = .bp i off) (hbox : c.own[i]? = some (.cells l os)) (ht : (P.underlying t).isSome = true) (hx : leavesOk (evA c x) = true) (hsz : (evA c x).leaves.length = P.cellsOf t) (hfit : off + (evA c x).leaves.length ≤ l.length) :
    WildAt P c.env c.own (evA c) ⟨dst, .store t p x, type, pos, after, guard⟩ fun v own' => v = .v undef ∧ own' = c.own.set i (.cells (wrL l off (evA c x).leaves) (os.filter fun j => decide (j < off ∨ off + (evA c x).leaves.length ≤ j))) := by
  intro a w g G E hr next Q hn
  obtain ⟨b, hb, ep⟩ := rep_bp (hp ▸ hr p (by simp [Op.operands]))
  have hbox' : (c.env ++ c.own)[c.env.length + i]? = some (.cells l os) := by rw [List.getElem?_append_right (by omega)]; simpa using hbox
  obtain ⟨cs, e, hheap, hrl, hos⟩ := G.box _ _ b hbox' hb
  obtain ⟨hc, hcs⟩ := rep_cells (leavesOk_or hx) (hr x (by simp [Op.operands]))
  have hlen := RepL.length hrl
  simp only [Array.length_toList] at hlen
  have hrun := run_storeVar (P := P) (w := w) (off := off) ht (by rw [hcs]; exact hsz) hheap (by rw [hcs, hlen]; exact hfit) (oneCells hc)
  have W := oneBlk_setRow (cs' := (wrL cs.toList off (a.eval x).cells.toList).toArray) hheap
  have hL : (a.eval x).cells.toList.length = (evA c x).leaves.length := by simpa using hcs
  obtain ⟨G', E'⟩ := G.write (x' := .cells (wrL l off (evA c x).leaves) (os.filter fun j => decide (j < off ∨ off + (evA c x).leaves.length ≤ j))) hbox' hb W fun hH hO => by
    refine ⟨_, e, W.blk, ?_, fun j hj => ?_⟩
    · have h1 := RepL.mono hH (fun _ _ h => h) _ _ hrl
      have h2 := RepL.mono hH (fun _ _ h => h) _ _ hc
      rw [show (wrL cs.toList off (a.eval x).cells.toList).toArray.toList = cs.toList.take off ++ (a.eval x).cells.toList ++ cs.toList.drop (off + (evA c x).leaves.length) from by simp only [wrL, hL]]
      exact ((h1.take off).append h2).append (h1.drop (off + (evA c x).leaves.length))
    · have hj' := List.mem_filter.1 hj
      have hjr : j < off ∨ off + (evA c x).leaves.length ≤ j := by simpa using hj'.2
      obtain ⟨k, l', v, e1, e2, e3⟩ := hos j hj'.1
      refine ⟨k, l', v, by rw [wrL_get hfit hjr]; exact e1, ?_, e3.mono fun b' e => hO _ b' e⟩
      rw [List.getElem?_toArray, wrL_get (by rw [hL]; simpa [hlen] using hfit) (by rw [hL]; exact hjr)]
      simpa using e2
  rw [List.set_append_right _ _ (by omega), show c.env.length + i - c.env.length = i from by omega] at G'
  unfold Oper.wp
  have hrun' : (execOp a.eval ⟨dst, .store t p x, type, pos, after, guard⟩).run P w = .ok .skip (w.setRow b (wrL cs.toList off (a.eval x).cells.toList).toArray) := by
    simp only [wrL] at *
    simp [execOp, Instr.storeAt, ep, Instr.sureAddr, hrun]
  rw [hrun']
  exact hn _ _ g _ _ ⟨rfl, rfl⟩ G' E' (rep_v_mk rfl)


def cl2 (b m : Nat) (x : AV) : Bool :=
  match x with
  | .bp i _ => Nat.blt i m
  | .mo i => Nat.blt i m
  | .bs i _ _ _ _ => Nat.blt i m
  | .xs i _ _ _ _ => Nat.blt i b
  | x => pf1 x
theorem cl_of2 {base m : Nat} {x : AV} (h : cl2 base m x = true) : x.cl base m := by
  unfold cl2 at h
  split at h
  · simp only [AV.cl]; rw [← Nat.blt_eq]; exact h
  · simp only [AV.cl]; rw [← Nat.blt_eq]; exact h
  · simp only [AV.cl]; rw [← Nat.blt_eq]; exact h
  · simp only [AV.cl]; rw [← Nat.blt_eq]; exact h
  · exact cl_pf _ (pf_of1 h)

def steadyM (P : Program) (c : Cfg) (o : Oper) (K : AV → Prop) : Prop :=
  match o.op with
  | .call cl => (match cl.callee with
    | .value (.func f) => bif (cl.args.toList.all fun x => !(evA c x).isTup) && pf1L (cl.args.toList.map (evA c)) then ∃ r ow, XPure P f (cl.args.toList.map (evA c)) r ow ∧ K r else False
    | _ => bif o.op.operands.toList.all fun x => cl2 c.env.length c.own.length (evA c x) then pureA P c.env c.own (evA c) o K else False)
  | _ => bif o.op.operands.toList.all fun x => cl2 c.env.length c.own.length (evA c x) then pureA P c.env c.own (evA c) o K else False

theorem steadyM_sound {c : Cfg} {o : Oper} {K : AV → Prop} (hcl : ∀ x ∈ c.env ++ c.own, Bx.cl c.env.length c.own.length x) (h : steadyM P c o K) : ∃ v, YieldM P c.env c.own (evA c) o v ∧ K v := by
  have pure : (bif o.op.operands.toList.all fun x => cl2 c.env.length c.own.length (evA c x) then pureA P c.env c.own (evA c) o K else False) → ∃ v, YieldM P c.env c.own (evA c) o v ∧ K v := by
    intro h
    cases hb : (o.op.operands.toList.all fun x => cl2 c.env.length c.own.length (evA c x)) with
    | false => rw [hb] at h; exact h.elim
    | true =>
      rw [hb] at h
      obtain ⟨v, h1, h2⟩ := pureA_sound h
      exact ⟨v, fun new => Yield.pure (h2.more hcl (fun x hx => cl_of2 (List.all_eq_true.1 hb x (by simpa using hx))) new), h1⟩
  obtain ⟨dst, op, type, pos, after, guard⟩ := o
  unfold steadyM at h
  split at h
  · rename_i cl hop
    simp only at hop
    subst hop
    split at h
    · rename_i f hc
      obtain ⟨callee, args, ts⟩ := cl
      simp only at hc
      subst hc
      cases hb : ((args.toList.all fun x => !(evA c x).isTup) && pf1L (args.toList.map (evA c))) with
      | false => rw [hb] at h; exact h.elim
      | true =>
        rw [hb] at h
        simp only [Bool.and_eq_true] at hb
        obtain ⟨r, ow, h1, h2⟩ := h
        exact ⟨r, fun new => Yield.call hb.1 (pfL_of1 hb.2) h1, h2⟩
    · exact pure h
  · exact pure h

def preM (P : Program) (n : Nat) (ops : List Oper) : List Nat → Cfg → (Cfg → Prop) → Prop
  | [], c, K => K c
  | i :: r, c, K => match ops[i]? with
    | some o => bif okF n ops o then guardA n ops c o (steadyM P c o fun v => normA (c.put o.dst v) fun c' => preM P n ops r c' K) (normA (c.put o.dst (.v undef)) fun c' => preM P n ops r c' K) else False
    | none => False

theorem preM_seq {ops : List Oper} {K : Cfg → Prop} : ∀ (l : List Nat) (c : Cfg), (∀ x ∈ c.env ++ c.own, Bx.cl c.env.length c.own.length x) → preM P n ops l c K →
    SeqM P n c.env c.own ops l (Fr.get c.fr) fun F => ∃ c', Fr.get c'.fr = F ∧ c'.own = c.own ∧ c'.env = c.env ∧ K c'
  | [], c, _, h => ⟨c, rfl, rfl, rfl, h⟩
  | i :: l, c, hcl, h => by
    unfold preM at h
    split at h
    · rename_i o h0
      simp only [normA_iff] at h
      cases ho : okF n ops o with
      | false => rw [ho] at h; exact h.elim
      | true =>
        rw [ho] at h
        simp only [cond_true] at h
        simp only [SeqM]
        rcases guard_wantF h with ⟨hw, h⟩ | ⟨hw, h⟩
        · obtain ⟨v, hv, h⟩ := steadyM_sound hcl h
          have ih := preM_seq l (c.put o.dst v) (by rw [(put_own c o.dst v).1, (put_own c o.dst v).2]; exact hcl) h
          rw [(put_own c o.dst v).1, (put_own c o.dst v).2, get_put] at ih
          exact ⟨o, v, h0, ho, .inl ⟨hw, by rw [evF_get]; exact hv⟩, ih⟩
        · have ih := preM_seq l (c.put o.dst (.v undef)) (by rw [(put_own c o.dst _).1, (put_own c o.dst _).2]; exact hcl) h
          rw [(put_own c o.dst _).1, (put_own c o.dst _).2, get_put] at ih
          exact ⟨o, _, h0, ho, .inr ⟨hw, rfl⟩, ih⟩
    · exact h.elim

theorem buildFold_one {c : Cfg} {fs : Array Field} : ∀ (ps : List (Nat × Operand)) (l : List AV) (K : List AV → Prop), buildFold P c fs ps l K → ∃ l', K l' ∧ buildFold P c fs ps l (· = l')
  | [], l, K, h => ⟨l, h, rfl⟩
  | (i, x) :: ps, l, K, h => by
    simp only [buildFold] at h ⊢
    split at h
    · rename_i f hf
      cases hc : (leavesOk (evA c x) && !(evA c x).isTup && Nat.beq (evA c x).leaves.length (P.cellsOf f.type) && Nat.ble (f.offset + P.cellsOf f.type) l.length) with
      | false => rw [hc] at h; exact h.elim
      | true =>
        rw [hc] at h
        exact buildFold_one ps _ K h
    · exact h.elim

theorem buildFold_rep {c : Cfg} {fs : Array Field} {ρ : Operand → Value} {w : World} {g : Gh} : ∀ (ps : List (Nat × Operand)) (l : List AV) (cells : Array Value) (K : List AV → Prop),
    (∀ p ∈ ps, Rep w g.hw g.bs c.env.length (evA c p.2) (ρ p.2)) → RepL w g.hw g.bs c.env.length l cells.toList → buildFold P c fs ps l K →
    ∃ l' cells', K l' ∧ Instr.fill ((fs.map fun f => (f.offset, P.cellsOf f.type))[·]?) cells (ps.map fun p => (p.1, ρ p.2)) = some cells' ∧ RepL w g.hw g.bs c.env.length l' cells'.toList
  | [], l, cells, K, _, hr, h => ⟨l, cells, h, by simp [Instr.fill], hr⟩
  | (i, x) :: ps, l, cells, K, hok, hr, h => by
    simp only [buildFold] at h
    split at h
    · rename_i f hf
      cases hc : (leavesOk (evA c x) && !(evA c x).isTup && Nat.beq (evA c x).leaves.length (P.cellsOf f.type) && Nat.ble (f.offset + P.cellsOf f.type) l.length) with
      | false => rw [hc] at h; exact h.elim
      | true =>
        rw [hc] at h
        simp only [cond_true] at h
        simp only [Bool.and_eq_true] at hc
        obtain ⟨⟨⟨h1, _⟩, h3⟩, h4⟩ := hc
        have h3' := Nat.eq_of_beq_eq_true h3
        have h4' := Nat.le_of_ble_eq_true h4
        obtain ⟨q1, q2⟩ := rep_cells (leavesOk_or h1) (hok (i, x) (by simp))
        have hlen := RepL.length hr
        obtain ⟨c1, e1, e2⟩ := fill_one (place := ((fs.map fun f => (f.offset, P.cellsOf f.type))[·]?)) (cells := cells) (i := i) (off := f.offset) (size := P.cellsOf f.type) (v := ρ x) (rest := ps.map fun p => (p.1, ρ p.2))
          (by simp [hf]) (by rw [q2, h3']) (by rw [q2, h3']; simp only [Array.length_toList] at hlen; omega)
        have hL : (ρ x).cells.toList.length = (evA c x).leaves.length := by simpa using q2
        obtain ⟨l', cells', k1, k2, k3⟩ := buildFold_rep ps _ c1 K (fun p hp => hok p (by simp [hp])) (by
          rw [e1]
          simp only [wrL]
          rw [hL]
          exact ((hr.take f.offset).append q1).append (hr.drop _)) h
        refine ⟨l', cells', k1, ?_, k3⟩
        simp only [List.map_cons]
        rw [e2]; exact k2
    · exact h.elim

theorem build_pure {c : Cfg} {t : TypeId} {fs : Array Field} {parts : Array (Nat × Operand)} {i : TypeInfo} {z : Value} {dst : Option Tmp} {type : TypeId} {pos : String} {after : Array Edge} {guard : Option (Nat × Bool)} {K : List AV → Prop}
    (ht : P.underlying t = some (.struct fs)) (hfs : (fs.toList.all fun f => (P.underlying f.type).isSome) = true) (hin : P.info? t = some i) (hz : i.zero = some z) (hok : okTmp n (.const z) = true) (hx : leavesOk (cst z) = true)
    (h : buildFold P c fs parts.toList (cst z).leaves K) : ∃ l, K l ∧ PureAt P c.env c.own (evA c) ⟨dst, .build t parts, type, pos, after, guard⟩ (.agg l) := by
  obtain ⟨l', hk, h⟩ := buildFold_one _ _ _ h
  refine ⟨l', hk, fun ρ w g G hρ => ?_⟩
  obtain ⟨hc, _⟩ := rep_cells (leavesOk_or hx) (cst_rep (hw := g.hw) (bs := g.bs) (base := c.env.length) (w := w) z hok)
  obtain ⟨l2, cells', k1, k2, k3⟩ := buildFold_rep parts.toList _ z.cells _ (fun p hp => hρ _ (by
    simp only [Op.operands, List.mem_toArray, List.mem_map]
    exact ⟨p, by simpa using hp, rfl⟩)) hc h
  subst k1
  refine ⟨.agg cells', ?_, rep_agg_mk k3⟩
  have hp := run_places (P := P) fs.toList w hfs
  have hps : (parts.map fun (p : Nat × Operand) => (p.1, ρ p.2)).toList = parts.toList.map fun p => (p.1, ρ p.2) := by simp
  simp only [execOp, Instr.build, Sem.run_bind, zeroValue, typeInfo, run_program, hin, Result.andThen_ok, Sem.run_pure, hz, run_und ht, Array.mapM_eq_mapM_toList, Sem.run_map, hp, hps]
  have hpl : (fs.toList.map fun f => (f.offset, P.cellsOf f.type)).toArray = fs.map fun f => (f.offset, P.cellsOf f.type) := by apply Array.toList_inj.1; simp
  rw [hpl, k2]
  simp

/-- What makes boxes: a call, a new variable; or what hangs on these. -/
def wildS (P : Program) (n : Nat) (ops : List Oper) (o : Option Oper) (p : Nat) (c : Cfg) (K : Option Nat → AV → List Bx → Prop) : Prop :=
  match o with
  | some o => bif okF n ops o && o.guard.isNone then
      (match o.op with
        | .call cl => (match cl.callee with
          | .value (.func f) => bif cl.args.toList.all fun x => !(evA c x).isTup then
              Callable P f ∧ ∃ R, XCalls P f ((cl.args.toList.map (evA c)).map (AV.up c.env.length)) ((c.env ++ c.own).map (Bx.up c.env.length)) R ∧
                ((∀ x ∈ c.env, Bx.cl c.env.length 0 x) → (∀ x ∈ c.env ++ c.own, Bx.cl c.env.length c.own.length x) → ∀ r ow env', R r ow env' → ∃ v own', r = AV.up c.env.length v ∧ env' = (c.env ++ own').map (Bx.up c.env.length) ∧ v.cl c.env.length own'.length ∧ (∀ x ∈ c.env ++ own', Bx.cl c.env.length own'.length x) ∧ ((∃ new, own' = c.own ++ new) ∨ ∃ i x, p ≤ i ∧ own' = c.own.set i x) ∧ K o.dst v own')
            else False
          | _ => False)
        | .alloc e => (match o.dst, P.info? e with
          | some d, some i => (match i.zero with
            | some z => bif okTmp n (.const z) && leavesOk (cst z) then K (some d) (.bp c.own.length 0) (c.own ++ [.cells (cst z).leaves []]) else False
            | none => False)
          | _, _ => False)
        | .build t parts => (match P.underlying t, P.info? t with
          | some (.struct fs), some i => (match i.zero with
            | some z => bif (fs.toList.all fun f => (P.underlying f.type).isSome) && okTmp n (.const z) && leavesOk (cst z) then buildFold P c fs parts.toList (cst z).leaves fun l => K o.dst (.agg l) c.own else False
            | none => False)
          | _, _ => False)
        | .store t q x => (match evA c q with
          | .bp i off => (match c.own[i]? with
            | some (.cells l os) => bif Nat.ble p i && (P.underlying t).isSome && leavesOk (evA c x) && Nat.beq (evA c x).leaves.length (P.cellsOf t) && Nat.ble (off + (evA c x).leaves.length) l.length then
                K o.dst (.v undef) (c.own.set i (.cells (wrL l off (evA c x).leaves) (os.filter fun j => decide (j < off ∨ off + (evA c x).leaves.length ≤ j)))) else False
            | _ => False)
          | _ => False)
        | _ => steadyA P c o fun v => K o.dst v c.own) else False
  | none => False

theorem wildS_sound {p : Nat} {c : Cfg} {o : Option Oper} {K : Option Nat → AV → List Bx → Prop} (h : wildS P n ops.toList o p c K) : ∃ o' Out, o = some o' ∧ okF n ops.toList o' = true ∧ o'.guard = none ∧ WildAt P c.env c.own (evA c) o' Out ∧ ∀ v own', Out v own' → K o'.dst v own' ∧ ((∃ new, own' = c.own ++ new) ∨ ∃ i x, p ≤ i ∧ own' = c.own.set i x) := by
  unfold wildS at h
  split at h
  · rename_i o
    cases hb : (okF n ops.toList o && o.guard.isNone) with
    | false => rw [hb] at h; exact h.elim
    | true =>
      rw [hb] at h
      simp only [cond_true] at h
      simp only [Bool.and_eq_true] at hb
      have hg : o.guard = none := by
        cases hg : o.guard with
        | none => rfl
        | some _ => rw [hg] at hb; simp at hb
      obtain ⟨dst, op, type, pos, after, guard⟩ := o
      simp only at h
      split at h
      · rename_i cl
        split at h
        · rename_i f hc
          obtain ⟨callee, args, ts⟩ := cl
          simp only at hc
          subst hc
          cases ht : (args.toList.all fun x => !(evA c x).isTup) with
          | false => rw [ht] at h; exact h.elim
          | true =>
            rw [ht] at h
            simp only [cond_true] at h
            obtain ⟨h1, R, h2, h3⟩ := h
            exact ⟨_, _, rfl, hb.1, hg, WildAt.call (Out := fun v own' => K dst v own' ∧ ((∃ new, own' = c.own ++ new) ∨ ∃ i x, p ≤ i ∧ own' = c.own.set i x)) h1 ht h2 (fun p q r ow env' hr => by obtain ⟨v, own', k1, k2, k3, k4, k5, k6⟩ := h3 p q r ow env' hr; exact ⟨v, own', k1, k2, k3, k4, k6, k5⟩), fun v own' h => h⟩
        · exact h.elim
      · rename_i e
        split at h
        · rename_i d i hi
          split at h
          · rename_i z hz
            cases hc : (okTmp n (.const z) && leavesOk (cst z)) with
            | false => rw [hc] at h; exact h.elim
            | true =>
              rw [hc] at h
              simp only [Bool.and_eq_true] at hc
              exact ⟨_, _, rfl, hb.1, hg, WildAt.alloc hi hz hc.1 hc.2, by rintro v own' ⟨rfl, rfl⟩; exact ⟨h, .inl ⟨_, rfl⟩⟩⟩
          · exact h.elim
        · exact h.elim
      · rename_i t parts
        split at h
        · rename_i fs i hu hi
          split at h
          · rename_i z hz
            cases hc : ((fs.toList.all fun f => (P.underlying f.type).isSome) && okTmp n (.const z) && leavesOk (cst z)) with
            | false => rw [hc] at h; exact h.elim
            | true =>
              rw [hc] at h
              simp only [Bool.and_eq_true] at hc
              obtain ⟨l, h1, h2⟩ := build_pure (n := n) (dst := dst) (type := type) (pos := pos) (after := after) (guard := guard) hu hc.1.1 hi hz hc.1.2 hc.2 h
              exact ⟨_, _, rfl, hb.1, hg, WildAt.steady (Yield.pure h2), by rintro v' own' ⟨rfl, rfl⟩; exact ⟨h1, .inl ⟨[], by simp⟩⟩⟩
          · exact h.elim
        · exact h.elim
      · rename_i t q x
        split at h
        · rename_i i off hq
          split at h
          · rename_i l os hbox
            cases hc : (Nat.ble p i && (P.underlying t).isSome && leavesOk (evA c x) && Nat.beq (evA c x).leaves.length (P.cellsOf t) && Nat.ble (off + (evA c x).leaves.length) l.length) with
            | false => rw [hc] at h; exact h.elim
            | true =>
              rw [hc] at h
              simp only [Bool.and_eq_true] at hc
              exact ⟨_, _, rfl, hb.1, hg, WildAt.store hq hbox hc.1.1.1.2 hc.1.1.2 (Nat.eq_of_beq_eq_true hc.1.2) (Nat.le_of_ble_eq_true hc.2), by rintro v own' ⟨rfl, rfl⟩; exact ⟨h, .inr ⟨i, _, Nat.le_of_ble_eq_true hc.1.1.1.1, rfl⟩⟩⟩
          · exact h.elim
        · exact h.elim
      · obtain ⟨v, h1, h2⟩ := steadyA_sound h
        exact ⟨_, _, rfl, hb.1, hg, WildAt.steady h1, by rintro v' own' ⟨rfl, rfl⟩; exact ⟨h2, .inl ⟨[], by simp⟩⟩⟩
  · exact h.elim

def allW (K : Nat → Prop) : List Nat → Prop
  | [] => True
  | w :: r => K w ∧ allW K r
theorem allW_iff {K : Nat → Prop} : ∀ {l : List Nat}, allW K l ↔ ∀ w ∈ l, K w
  | [] => by simp [allW]
  | w :: r => by simp [allW, allW_iff (l := r)]

def wildsA (P : Program) (n : Nat) (ops : List Oper) (p : Nat) (K : Cfg → Prop) : Nat → List Nat → Cfg → Prop
  | 0, _, c => K c
  | k + 1, W, c => allW (fun w => bif W.all fun u => !(befN ops ops.length w).contains u then wildS P n ops ops[w]? p c fun d v own' => normA (({ c with own := own' } : Cfg).put d v) fun c' => wildsA P n ops p K k (W.erase w) c' else True) W

theorem wildsA_sound {pre : List Bx} {K : Cfg → Prop} {env : List Bx} : ∀ (k : Nat) (W : List Nat) (c : Cfg), c.env = env → (∃ rest, c.own = pre ++ rest) → wildsA P n ops.toList pre.length K k W c → HA P n env ops pre (fun own F => ∃ c' : Cfg, Fr.get c'.fr = F ∧ c'.own = own ∧ c'.env = env ∧ K c') k W c.own (Fr.get c.fr)
  | 0, W, c, he, _, h => ⟨c, rfl, rfl, he, h⟩
  | k + 1, W, c, he, hpre, h => by
    intro w hw hready
    have := allW_iff.1 h w hw
    have hb : (W.all fun u => !(befN ops.toList ops.toList.length w).contains u) = true := by
      rw [List.all_eq_true]
      intro u hu
      have := hready u hu
      simpa using this
    rw [hb, cond_true] at this
    obtain ⟨o, Out, h1, h2, h3, h4, h5⟩ := wildS_sound this
    refine ⟨o, Out, by simpa using h1, h2, h3, by rw [← he, evF_get]; exact h4, fun v own' hO => ?_⟩
    obtain ⟨h6, h7⟩ := h5 v own' hO
    have hpre' : ∃ rest, own' = pre ++ rest := by
      obtain ⟨rest, hrest⟩ := hpre
      rcases h7 with ⟨new, rfl⟩ | ⟨i, x, hi, rfl⟩
      · exact ⟨rest ++ new, by rw [hrest, List.append_assoc]⟩
      · exact ⟨rest.set (i - pre.length) x, by rw [hrest, List.set_append_right _ _ hi]⟩
    refine ⟨hpre', ?_⟩
    have h6 := (normA_iff _ _).1 h6
    have ih := wildsA_sound (K := K) (env := env) (pre := pre) k (W.erase w) (({ c with own := own' } : Cfg).put o.dst v) ((put_own _ _ _).2.trans he) (by rw [(put_own _ _ _).1]; exact hpre') h6
    rw [(put_own _ _ _).1, get_put] at ih
    exact ih

def wildB (ops : List Oper) (M : Nat) (W : List Nat) : Bool :=
  drawB ops M && W.all (fun w => Nat.blt w M) && decide W.Nodup && ((List.range M).all fun s => W.contains s || W.all fun w => !(befN ops ops.length s).contains w) && Nat.ble M ops.length

def boxOk (b p : Nat) : Bx → Bool
  | .cells l _ => l.all (cl2 b p)
  | .map _ => true
theorem boxOk_cl {base p : Nat} {x : Bx} (h : boxOk base p x = true) : Bx.cl base p x := by
  cases x with
  | map l => trivial
  | cells l os =>
    simp only [boxOk] at h
    simp only [Bx.cl]
    induction l with
    | nil => trivial
    | cons y l ih =>
      simp only [List.all_cons, Bool.and_eq_true] at h
      simp only [clL]
      exact ⟨cl_of2 h.1, ih h.2⟩

/-- Where the first M operations may go in any order; of these, W make or write boxes (none below p). -/
def drawW (P : Program) (n : Nat) (ops : List Oper) (M p : Nat) (W : List Nat) (c : Cfg) (K : Cfg → Prop) : Prop :=
  bif Nat.beq p c.own.length || ((c.own.take p).all (boxOk c.env.length p) && Nat.ble p c.own.length) then
    preM P n ops ((List.range M).filter fun i => !W.contains i) { c with os := [], own := c.own.take p } fun c' =>
      wildsA P n ops p (fun c' => opsA P n ops (ops.drop M) { c' with os := c.os.filter fun i => (ops.take M).all fun o => match o.dst with
        | some d => !Nat.beq i d
        | none => true } K) W.length W { c' with own := c.own }
  else False

theorem SeqM.mono {P : Program} {n : Nat} {env own : List Bx} {ops : List Oper} {K K' : FS → Prop} (h : ∀ F, K F → K' F) : ∀ (R : List Nat) (F : FS), SeqM P n env own ops R F K → SeqM P n env own ops R F K'
  | [], F, hh => h F hh
  | i :: R, F, hh => by
    simp only [SeqM] at hh ⊢
    obtain ⟨o, v, q1, q2, q3, q4⟩ := hh
    exact ⟨o, v, q1, q2, q3, SeqM.mono h R _ q4⟩

theorem XW.drawW {id M p : Nat} {W : List Nat} {c : Cfg} {Q : Exit → Cfg → Prop} (hmix : P.follows .mixedOrders = true) (hB : wildB ops.toList M W = true) (h : drawW P n ops.toList M p W c fun c' => Q .normal c') : XW P n (.region id ops true) Q c := ⟨fun W0 G0 a w g hi => by
  unfold wildB at hB
  simp only [Bool.and_eq_true] at hB
  obtain ⟨⟨⟨⟨hB, hWM⟩, hnd⟩, hdep⟩, hMl⟩ := hB
  have hnd : W.Nodup := of_decide_eq_true hnd
  have hWM : ∀ w ∈ W, w < M := fun w hw => by have := List.all_eq_true.1 hWM w hw; rw [← Nat.blt_eq]; exact this
  have hM : M ≤ ops.size := by simpa using Nat.le_of_ble_eq_true hMl
  refine wp_region_any hmix ?_
  have hi1 := hi.drew
  let os' := c.os.filter fun i => (ops.toList.take M).all fun o => match o.dst with
      | some d => !Nat.beq i d
      | none => true
  have hF : InvF n W0 G0 (Fr.get c.fr) os' c.own c.env a w.drew g := ⟨hi1.size, hi1.defers, hi1.fr, fun i hm => hi1.os i (List.mem_filter.1 hm).1, hi1.good, hi1.ext, hi1.ecl, hi1.b0⟩
  have hcl : ∀ x ∈ c.env ++ c.own, Bx.cl c.env.length c.own.length x := by
    intro x hx
    have G := hi1.good
    obtain ⟨i, hi', rfl⟩ := List.mem_iff_getElem.1 hx
    have hib : i < g.bs.length := by rw [G.len]; exact hi'
    have := G.box i (c.env ++ c.own)[i] g.bs[i] (List.getElem?_eq_getElem hi') (List.getElem?_eq_getElem hib)
    cases hx : (c.env ++ c.own)[i] with
    | map l => trivial
    | cells l os =>
      rw [hx] at this
      obtain ⟨cs, e, _, h2, _⟩ := this
      have := RepL.toCl _ _ h2
      rw [G.len] at this
      have e : c.mem.length - c.base = c.own.length := by simp [Cfg.mem, Cfg.base]
      rw [e] at this
      exact this
  unfold Ev.drawW at h
  cases hbx : (Nat.beq p c.own.length || ((c.own.take p).all (boxOk c.env.length p) && Nat.ble p c.own.length)) with
  | false => rw [hbx] at h; exact h.elim
  | true =>
  rw [hbx] at h
  simp only [cond_true] at h
  have hpl : (c.own.take p).length = p := by
    simp only [Bool.or_eq_true, Bool.and_eq_true] at hbx
    rcases hbx with hbx | ⟨_, hbx⟩
    · have := Nat.eq_of_beq_eq_true hbx; rw [List.length_take]; omega
    · have := Nat.le_of_ble_eq_true hbx; rw [List.length_take]; omega
  have hclp : ∀ x ∈ c.env ++ c.own.take p, Bx.cl c.env.length (c.own.take p).length x := by
    intro x hx
    simp only [Bool.or_eq_true, Bool.and_eq_true] at hbx
    rcases hbx with hbx | ⟨hbx, _⟩
    · have := Nat.eq_of_beq_eq_true hbx
      rw [this, List.take_length] at hx ⊢
      exact hcl x hx
    · rcases List.mem_append.1 hx with hx | hx
      · have h0 := hi1.ecl x hx
        cases x with
        | map l => trivial
        | cells l os =>
          simp only [Bx.cl, Cfg.base] at h0 ⊢
          have gen : ∀ (l : List AV) (m : Nat), clL c.env.length 0 l → clL c.env.length m l := by
            intro l m
            have gV : ∀ x : AV, x.cl c.env.length 0 → x.cl c.env.length m := by
              intro x
              refine AV.rec (motive_1 := fun x => x.cl c.env.length 0 → x.cl c.env.length m) (motive_2 := fun l => clL c.env.length 0 l → clL c.env.length m l) ?_ ?_ ?_ ?_ ?_ ?_ ?_ ?_ ?_ ?_ ?_ ?_ ?_ ?_ ?_ ?_ ?_ x
              all_goals intros
              all_goals simp only [AV.cl, clL] at *
              all_goals first | trivial | omega | (rename_i h1 h2; exact h1 h2) | grind
            induction l with
            | nil => exact fun h => h
            | cons x l ih => intro h; simp only [clL] at h ⊢; exact ⟨gV x h.1, ih h.2⟩
          exact gen l _ h0
      · rw [hpl]; exact boxOk_cl (List.all_eq_true.1 hbx x hx)
  have hseq := preM_seq (P := P) (n := n) (ops := ops.toList) ((List.range M).filter fun i => !W.contains i) { c with os := [], own := c.own.take p } hclp h
  let K : List Bx → FS → Prop := fun own F => ∃ c' : Cfg, Fr.get c'.fr = F ∧ c'.own = own ∧ c'.env = c.env ∧ opsA P n ops.toList (ops.toList.drop M) { c' with os := os' } fun c' => Q .normal c'
  have hseq2 : SeqM P n c.env (c.own.take p) ops.toList ((List.range M).filter fun i => !W.contains i) (Fr.get c.fr) (HA P n c.env ops (c.own.take p) K W.length W c.own) := by
    refine SeqM.mono (fun F hF' => ?_) _ _ hseq
    obtain ⟨c', rfl, e2, e3, hw⟩ := hF'
    have := wildsA_sound (P := P) (n := n) (ops := ops) (pre := c.own.take p) (env := c.env) W.length W { c' with own := c.own } e3 ⟨c.own.drop p, (List.take_append_drop p c.own).symm⟩ (by rw [hpl]; exact hw)
    exact this
  have hmemS : ∀ i, i ∈ ((List.range M).filter fun i => !W.contains i) ↔ i < M ∧ i ∉ W := fun i => by simp
  have := any_of_wilds (P := P) (n := n) (W0 := W0) (G0 := G0) (ops := ops) (os := os') (env := c.env) (K := K) (Q := fun e a' w' => ∃ c' g', Q e c' ∧ Inv n W0 G0 c' a' w' g') hB hM ?_ ?_ _ _ W (upTo ops.size 0) c.own (Fr.get c.fr) a w.drew g rfl (upTo_size _ _) ?_ (fun i him => ?_) (List.pairwise_lt_range.sublist List.filter_sublist) hnd (fun i hi => (hmemS i).1 hi) hWM (fun i hi u hu => ?_) ?_ ⟨c.own.drop p, (List.take_append_drop p c.own).symm⟩ hseq2 hF
  · have hlen : ((List.range M).filter fun i => !W.contains i).length + W.length = M := by
      have hsub : W.Perm ((List.range M).filter fun i => W.contains i) := by
        rw [List.perm_ext_iff_of_nodup hnd (List.nodup_range.sublist List.filter_sublist)]
        intro i; simp; exact fun h => hWM i h
      have h1 := hsub.length_eq
      have h2 := (List.filter_append_perm (fun i => W.contains i) (List.range M)).length_eq
      simp only [List.length_append, List.length_range] at h2
      omega
    rw [hlen, show M + (ops.size - M) = ops.size from by omega] at this
    have e : upTo ops.size 0 = Array.replicate ops.size false := by
      apply Array.ext
      · simp [upTo]
      · intro i h1 h2; simp [upTo]
    rw [e] at this
    exact this
  · intro j o hj ho t ht hmem
    have := (List.mem_filter.1 hmem).2
    have hjo : o ∈ ops.toList.take M := by
      refine List.mem_of_getElem? (i := j) ?_
      rw [List.getElem?_take, if_pos hj]; simpa using ho
    have := List.all_eq_true.1 this o hjo
    rw [ht] at this
    simp at this
  · rintro own F a' w' g' ⟨c', rfl, e1, e2, hk⟩ hf
    have hI : Inv n W0 G0 { c' with os := os' } a' w' g' := by
      refine ⟨hf.size, hf.defers, ?_, hf.os, ?_, hf.ext, ?_, ?_⟩
      · simpa only [Cfg.base, e2] using hf.fr
      · simpa only [Cfg.mem, Cfg.base, e1, e2] using hf.good
      · simpa only [Cfg.base, e2] using hf.ecl
      · simpa only [Cfg.base, e2] using hf.b0
    have hd := opsA_sound (P := P) (n := n) (ops := ops) (W0 := W0) (G0 := G0) (Q := fun e a' w' => ∃ c' g', Q e c' ∧ Inv n W0 G0 c' a' w' g') (fun c' a' w' g' hk hi' => ⟨c', g', hk, hi'⟩) (ops.toList.drop M) M _ a' w' g' (fun j => by rw [List.getElem?_drop]; simp) hk hI
    rwa [List.length_drop, Array.length_toList] at hd
  · intro j hj hl
    rw [upTo_get hj] at hl; simp at hl
  · rw [upTo_get (by omega)]
    simp only [Nat.not_lt_zero, decide_false, true_iff]
    rw [hmemS]
    by_cases hw : i ∈ W
    · exact .inr hw
    · exact .inl ⟨him, hw⟩
  · have hi1 := (hmemS i).1 hi
    have := List.all_eq_true.1 hdep i (by simpa using hi1.1)
    simp only [Bool.or_eq_true] at this
    rcases this with h | h
    · exact absurd (by simpa using h) hi1.2
    · have := List.all_eq_true.1 h u hu
      simpa using this
  · intro j hj hjl
    rw [upTo_get hjl]; simp⟩
end
end Go.Ev
end
