/- Written by programs of this session: laws and contracts that the law's proof stands on, merged into one text. Conditions: none beyond those in each statement. -/
import Derived.Test.YtepdiooaoegpfaaGreatDoorPkEv4
import Derived.Laws.Append
import Derived.Laws.CopyRow
section
/- Written by this session: the steps of a frame of trees. Conditions: none beyond those in each statement. -/
namespace Go.Ev
open Go

theorem rep_isLeaf {w : World} {hw : Hw} {bs : List Nat} {base : Nat} {x : AV} {y : Value} (hl : x.isLeaf = true) (h : Rep w hw bs base x y) : RepV w hw bs base x [y] ∧ x.isAgg = false ∧ y.oneCell' = true := by
  have hleaf : x.isAgg = false ∧ x ≠ .top ∧ ∀ l, x ≠ .tup l := by
    cases x <;> simp_all [AV.isLeaf, AV.isAgg]
  obtain ⟨h2, h3⟩ := rep_leaf hleaf.1 hleaf.2.1 hleaf.2.2 h
  refine ⟨h2, hleaf.1, ?_⟩
  cases x <;> first
    | (simp only [RepV] at h2; done)
    | (simp [AV.isLeaf] at hl; done)
    | (simp only [RepV] at h2; simp_all [Value.oneCell', AV.isLeaf]; done)
    | (simp only [RepV] at h2; obtain ⟨_, _, _, _, _, e⟩ := h2; cases e; rfl)
    | (simp only [RepV] at h2; obtain ⟨_, _, _, _, _, _, e⟩ := h2; cases e; rfl)
    | (simp only [RepV] at h2; obtain ⟨_, _, e, _⟩ := h2; simp at e; subst e; rfl)
    | (simp only [RepV] at h2; obtain ⟨_, _, e⟩ := h2; simp at e; subst e; rfl)
    | (simp only [RepV] at h2; obtain ⟨_, _, _, e⟩ := h2; simp at e; subst e; rfl)
    | (simp only [RepV] at h2; obtain ⟨_, e, _⟩ := h2; simp at e; subst e; rfl)
    | (simp only [RepV] at h2; obtain ⟨_, _, _, e, _⟩ := h2; simp at e; subst e; rfl)

theorem bv_rep {w : World} {hw : Hw} {bs : List Nat} {base : Nat} {x : AV} {u : Value} {b v : Bool} (h : bv x = some (b, v)) (hb : b = true) (hr : Rep w hw bs base x u) : u = .bool v := by
  unfold bv at h
  split at h
  · cases h; exact (rep_v hr).1
  · cases h
    subst hb
    obtain ⟨h1, _⟩ := rep_leaf rfl (by simp) (by simp) hr
    simp only [RepV] at h1
    obtain ⟨z, e, _, r⟩ := h1
    simp only [List.cons.injEq, and_true] at e
    have := (r trivial).2
    simp only [List.cons.injEq, and_true] at this
    rw [e, this]
  · cases h

theorem pureA_sound {P : Program} {env own : List Bx} {ρA : Operand → AV} {o : Oper} {K : AV → Prop} (h : pureA P env own ρA o K) : ∃ v, K v ∧ PureAt P env own ρA o v := by
  obtain ⟨dst, op, type, pos, after, guard⟩ := o
  have copy : ∀ x, (op = .move x ∨ op = .assign x) → K (ρA x) → ∃ v, K v ∧ PureAt P env own ρA ⟨dst, op, type, pos, after, guard⟩ v := by
    intro x hop hk
    refine ⟨_, hk, fun ρ w g G hρ => ⟨ρ x, ?_, hρ x ?_⟩⟩
    · rcases hop with rfl | rfl <;> simp [execOp]
    · rcases hop with rfl | rfl <;> simp [Op.operands]
  unfold pureA at h
  cases op <;> simp only at h <;> try exact h.elim
  case move x => exact copy x (.inl rfl) h
  case assign x => exact copy x (.inr rfl) h
  case pick c a b =>
    split at h
    · rename_i bc t b1 x b2 y hc ha hb
      obtain ⟨k1, k2, k3, hk⟩ := h
      refine ⟨_, hk, fun ρ w g G hρ => ⟨.bool (bif t then x else y), ?_, rep_bool⟩⟩
      have ec := bv_rep hc k1 (hρ c (by simp [Op.operands]))
      cases t with
      | true => simp [execOp, ec, asBool, bv_rep ha (k2 rfl) (hρ a (by simp [Op.operands]))]
      | false => simp [execOp, ec, asBool, bv_rep hb (k3 rfl) (hρ b (by simp [Op.operands]))]
    split at h
    · rename_i t hc
      cases t with
      | true =>
        refine ⟨_, h.1 rfl, fun ρ w g G hρ => ⟨ρ a, ?_, hρ a (by simp [Op.operands])⟩⟩
        have e := (rep_v (hc ▸ hρ c (by simp [Op.operands]))).1
        simp [execOp, e, asBool]
      | false =>
        refine ⟨_, h.2 rfl, fun ρ w g G hρ => ⟨ρ b, ?_, hρ b (by simp [Op.operands])⟩⟩
        have e := (rep_v (hc ▸ hρ c (by simp [Op.operands]))).1
        simp [execOp, e, asBool]
    · exact h.elim
  case binOp => exact bin_sound h
  case unOp => exact un_sound h
  case convert => exact conv_sound h
  case fieldAddr => exact fieldAddr_sound h
  case field => exact field_sound h
  case index => exact index_sound h
  case indexAddr => exact indexAddr_sound h
  case slice => exact slice_sound h
  case load => exact load_sound h
  case lookup => exact lookup_sound h
  case nilCheck x =>
    have main : ∀ v, ρA x = v → K v → (∀ (w : World) hw bs base y, Rep w hw bs base v y → ∃ a, y = .pointer (some a)) → ∃ v, K v ∧ PureAt P env own ρA ⟨dst, .nilCheck x, type, pos, after, guard⟩ v := by
      intro v hx hk hp
      refine ⟨v, hk, fun ρ w g G hρ => ?_⟩
      have hr := hx ▸ hρ x (by simp [Op.operands])
      obtain ⟨a, e⟩ := hp _ _ _ _ _ hr
      exact ⟨ρ x, by simp [execOp, e], hr⟩
    split at h
    · rename_i hx; exact main _ hx h fun w hw bs base y hr => by obtain ⟨b, _, e⟩ := rep_bp hr; exact ⟨_, e⟩
    · rename_i hx; exact main _ hx h fun w hw bs base y hr => by obtain ⟨_, b, _, e⟩ := rep_xp hr; exact ⟨_, e⟩
    · rename_i hx; exact main _ hx h fun w hw bs base y hr => by obtain ⟨b, o, cs, e, _⟩ := rep_ep hr; exact ⟨_, e⟩
    · exact h.elim
  case extract x i =>
    split at h
    · rename_i l hx
      split at h
      · rename_i y hy
        refine ⟨y, h, fun ρ w g G hρ => ?_⟩
        obtain ⟨vs, e, hr⟩ : Rep w g.hw g.bs env.length (.tup l) (ρ x) := hx ▸ hρ x (by simp [Op.operands])
        have : ∀ (l : List AV) (vs : List Value) (i : Nat), RepT w g.hw g.bs env.length l vs → l[i]? = some y → ∃ v, vs[i]? = some v ∧ Rep1 w g.hw g.bs env.length y v := by
          intro l
          induction l with
          | nil => intro vs i _ h; simp at h
          | cons a l ih =>
            intro vs i hr hi
            simp only [RepT] at hr
            obtain ⟨v, vs', rfl, h1, h2⟩ := hr
            cases i with
            | zero => simp at hi; subst hi; exact ⟨v, rfl, h1⟩
            | succ i => simp at hi; simpa using ih _ _ h2 hi
        obtain ⟨v, hv, h1⟩ := this l vs.toList i hr hy
        have hv' : vs[i]? = some v := by simpa using hv
        refine ⟨v, by simp [execOp, e, Instr.extract, hv'], ?_⟩
        cases y with
        | tup l' => rcases h1 with h1 | ⟨h1, _⟩ <;> first | (cases h1; done) | (simp only [RepV] at h1)
        | _ => exact h1
      · exact h.elim
    · exact h.elim
  case makeInterface t x =>
    have main : ∀ v, ρA x = v → v.plainLeaf = true ∨ v.isAgg = true → (∀ d, P.underlying t = some d → (∀ ms, d ≠ .interface ms) → K (.ifc t v) → True → (∀ (w : World) hw bs base y, Rep w hw bs base v y → RepV w hw [] 0 v y.cells.toList ∧ VisAgg y = v.isAgg) → ∃ v, K v ∧ PureAt P env own ρA ⟨dst, .makeInterface t x, type, pos, after, guard⟩ v) := by
      intro v hx hv d hd hne hk _ hp
      refine ⟨_, hk, fun ρ w g G hρ => ⟨.iface t (ρ x), ?_, ?_⟩⟩
      · simp only [execOp, Sem.run_bind, Instr.makeInterface, run_und hd, Result.andThen_ok]
        cases d <;> first | (exact absurd rfl (hne _)) | rfl
      · obtain ⟨q1, q2⟩ := hp w g.hw g.bs env.length (ρ x) (hx ▸ hρ x (by simp [Op.operands]))
        exact rep_mk_leaf rfl rfl (by simp only [RepV]; exact ⟨_, rfl, q1, q2⟩)
    split at h
    · exact h.elim
    · rename_i d y hne hd hx
      cases ho : y.oneCell' with
      | false => rw [ho] at h; exact h.elim
      | true =>
        rw [ho] at h
        refine main _ hx (.inl rfl) d hd (fun ms e => hne ms (by rw [e])) h trivial fun w hw bs base u hr => ?_
        obtain ⟨rfl, hv⟩ := rep_v hr
        exact ⟨by rw [cells_toList_of hv]; simp [RepV], by rw [hv]; rfl⟩
    · rename_i d k l hne hd hx
      refine main _ hx (.inl rfl) d hd (fun ms e => hne ms (by rw [e])) h trivial fun w hw bs base u hr => ?_
      obtain ⟨q1, q2⟩ := rep_leaf rfl (by simp) (by simp) hr
      rw [cells_toList_of q2]
      exact ⟨by simpa only [RepV] using q1, by rw [q2]; rfl⟩
    · rename_i d l hne hd hx
      cases ho : pfLeaves l with
      | false => rw [ho] at h; exact h.elim
      | true =>
        rw [ho] at h
        refine main _ hx (.inr rfl) d hd (fun ms e => hne ms (by rw [e])) h trivial fun w hw bs base u hr => ?_
        obtain ⟨cs, rfl, hL⟩ := rep_agg hr
        refine ⟨?_, rfl⟩
        simp only [RepV, Value.cells]
        have all : ∀ (l : List AV) (vs : List Value), pfLeaves l = true → RepL w hw bs base l vs → RepL w hw [] 0 l vs := by
          intro l
          induction l with
          | nil => intro vs _ h; simpa only [RepL] using h
          | cons a l ih =>
            intro vs hp h
            simp only [pfLeaves, List.all_cons, Bool.and_eq_true] at hp
            simp only [RepL] at h ⊢
            obtain ⟨v, vs', e, q, r⟩ := h
            refine ⟨v, vs', e, ⟨?_, q.2⟩, ih _ hp.2 r⟩
            cases a <;> first | (simpa only [RepV] using q.1) | (have := hp.1; simp [AV.plainLeaf] at this)
        exact all l cs.toList ho hL
    · exact h.elim
  case makeFunc fn first cap =>
    cases h1 : ((first.toList.map ρA).all AV.isLeaf && (cap.toList.map ρA).all AV.isLeaf) with
    | false => simp only [h1, cond_false] at h
    | true =>
      simp only [h1, cond_true] at h
      simp only [Bool.and_eq_true] at h1
      refine ⟨_, h, fun ρ w g G hρ => ⟨.func fn (first.map ρ) (cap.map ρ), by simp [execOp, Instr.makeFunc], rep_mk_leaf rfl rfl ?_⟩⟩
      have all : ∀ (l : List Operand), (∀ x ∈ l, x ∈ first.toList ∨ x ∈ cap.toList) → (l.map ρA).all AV.isLeaf = true → RepL w g.hw g.bs env.length (l.map ρA) (l.map ρ) := by
        intro l
        induction l with
        | nil => intro _ _; simp [RepL]
        | cons x l ih =>
          intro hm hl
          simp only [List.map_cons, List.all_cons, Bool.and_eq_true] at hl
          simp only [List.map_cons, RepL]
          have hr := hρ x (by simp only [Op.operands, Array.mem_append]; rcases hm x (by simp) with h | h; exact .inl (by simpa using h); exact .inr (by simpa using h))
          obtain ⟨h2, h3, h4⟩ := rep_isLeaf hl.1 hr
          exact ⟨_, _, rfl, ⟨h2, h3, h4⟩, ih (fun y hy => hm y (by simp [hy])) hl.2⟩
      simp only [RepV]
      exact ⟨_, _, rfl, by simpa using all first.toList (fun x h => .inl h) h1.1, by simpa using all cap.toList (fun x h => .inr h) h1.2⟩
  case call c =>
    obtain ⟨callee, args, argTypes⟩ := c
    split at h
    · rename_i x t hc ha ht
      have : callee = .builtin .len := hc
      subst this
      have ea : args = #[x] := by apply Array.toList_inj.1; simpa using ha
      have et : argTypes = #[t] := by apply Array.toList_inj.1; simpa using ht
      subst ea et
      exact len_sound h
    · rename_i x t hc ha ht
      have : callee = .builtin .cap := hc
      subst this
      have ea : args = #[x] := by apply Array.toList_inj.1; simpa using ha
      have et : argTypes = #[t] := by apply Array.toList_inj.1; simpa using ht
      subst ea et
      exact cap_sound h
    · rename_i x y hc ha
      have : callee = .builtin .min := hc
      subst this
      have ea : args = #[x, y] := by apply Array.toList_inj.1; simpa using ha
      subst ea
      exact min_sound h
    · rename_i x y hc ha
      have : callee = .builtin .max := hc
      subst this
      have ea : args = #[x, y] := by apply Array.toList_inj.1; simpa using ha
      subst ea
      exact max_sound h
    · exact h.elim

theorem getD_put {a : Act} {d i : Nat} {u : Value} (hd : d < a.tmps.size) : (a.put (some d) u).tmps.getD i undef = if d = i then u else a.tmps.getD i undef := by
  simp only [Act.put, Array.getD_eq_getD_getElem?, Array.getElem?_setIfInBounds]
  by_cases h : d = i
  · subst h; simp [hd]
  · simp [h]

def KeepS (L : Loc) : Prop := ∀ i j, L ≠ .cell i j

section
variable {n : Nat} {W0 : World} {G0 : Gh} {c : Cfg} {a : Act} {w : World} {g : Gh}

theorem Inv.put (hi : Inv n W0 G0 c a w g) {d : Nat} (hd : d < n) {v : AV} {u : Value} (hr : Rep w g.hw g.bs c.base v u) : Inv n W0 G0 (c.put (some d) v) (a.put (some d) u) w g where
  size := by simpa [Act.put] using hi.size
  defers := hi.defers
  fr i h := by
    rw [getD_put (by rw [hi.size]; exact hd)]
    simp only [Cfg.put, Fr.get_cons]
    split
    · exact hr
    · exact hi.fr i h
  os i h := by
    simp only [Cfg.put, List.mem_filter] at h
    have hne : d ≠ i := by rintro rfl; simp at h
    obtain ⟨k, l, h1, h2⟩ := hi.os i h.1
    rw [getD_put (by rw [hi.size]; exact hd)]
    simp only [Cfg.put, Fr.get_cons, if_neg hne]
    exact ⟨k, l, h1, h2⟩
  good := hi.good
  ext := hi.ext
  ecl := hi.ecl
  b0 := hi.b0

theorem Inv.putO (hi : Inv n W0 G0 c a w g) {d : Option Nat} (hd : ∀ x, d = some x → x < n) {v : AV} {u : Value} (hr : Rep w g.hw g.bs c.base v u) : Inv n W0 G0 (c.put d v) (a.put d u) w g := by
  cases d with
  | none => exact hi
  | some d => exact hi.put (hd d rfl) hr

theorem Inv.step (hi : Inv n W0 G0 c a w g) {w' : World} {g' : Gh} (hg : Good w' g' c.mem c.base) (he : Ext KeepS w g w' g') : Inv n W0 G0 c a w' g' where
  size := hi.size
  defers := hi.defers
  fr i h := (hi.fr i h).mono he.hw he.bs
  os i h := by
    obtain ⟨k, l, h1, h2⟩ := hi.os i h
    exact ⟨k, l, h1, h2.mono fun b hb => he.ext b _ hb (by intro i j; simp)⟩
  good := hg
  ext := hi.ext.trans (he.weaken (by rintro L rfl; intro i j; simp))
  ecl := hi.ecl
  b0 := hi.b0

theorem GlobOk.rep {w : World} {hw : Hw} {bs : List Nat} {base : Nat} (h : GlobOk w hw) (g : Nat) : Rep w hw bs base (globA g) (.pointer (some ⟨g, 0, none⟩)) := by
  unfold globA
  split
  · rename_i p hp
    obtain ⟨cs, h1, h2⟩ := h.1 p (List.mem_of_find?_eq_some hp)
    have := List.find?_some hp
    obtain rfl : p.1 = g := Nat.eq_of_beq_eq_true this
    exact rep_mk_leaf rfl rfl (by simp only [RepV]; exact ⟨_, _, cs, rfl, h1, h2⟩)
  · exact .inl rfl

theorem Inv.eval (hi : Inv n W0 G0 c a w g) {x : Operand} (hx : okTmp n x = true) : Rep w g.hw g.bs c.base (evA c x) (a.eval x) := by
  cases x with
  | tmp t => exact hi.fr t (by rw [← Nat.blt_eq]; exact hx)
  | const v => exact cst_rep v hx
  | func f =>
    have : Rep w g.hw g.bs c.base (.fn (.func f) [] []) (.func (.func f) #[] #[]) := rep_mk_leaf rfl rfl (by simp only [RepV]; exact ⟨#[], #[], rfl, by simp only [RepL], by simp only [RepL]⟩)
    exact this
  | global g => exact hi.good.glob.rep g
end
end Go.Ev
end
section
/- Written by this session: what writes memory, over trees: new blocks, stores, who may append. Conditions: none beyond those in each statement. -/
namespace Go.Ev
open Go

def push (w : World) (o : Obj) : World := { w with heap := w.heap.push o }

theorem heap_push_old {w : World} {o : Obj} {b : Nat} (h : b < w.heap.size) : (push w o).heap[b]? = w.heap[b]? := by
  show (w.heap.push o)[b]? = _
  rw [Array.getElem?_push, if_neg (by omega)]
theorem heap_push_new {w : World} {o : Obj} : (push w o).heap[w.heap.size]? = some o := by
  show (w.heap.push o)[w.heap.size]? = _
  simp

theorem heap_lt {w : World} {b : Nat} {o : Obj} (h : w.heap[b]? = some o) : b < w.heap.size := by
  rcases Nat.lt_or_ge b w.heap.size with h' | h'
  · exact h'
  · rw [Array.getElem?_eq_none h'] at h; cases h

theorem cell?_same {w w' : World} {b o : Nat} (h : w'.heap[b]? = w.heap[b]?) : w'.cell? ⟨b, o, none⟩ = w.cell? ⟨b, o, none⟩ := by simp [World.cell?, h]

def upd {α : Type} (f : Nat → α) (i : Nat) (x : α) : Nat → α := fun j => if j = i then x else f j
theorem upd_same {α : Type} (f : Nat → α) (i : Nat) (x : α) : upd f i x i = x := by simp [upd]
theorem upd_ne {α : Type} (f : Nat → α) {i j : Nat} (x : α) (h : j ≠ i) : upd f i x j = f j := by simp [upd, h]

section
variable {w : World} {g : Gh} {mem : List Bx} {base : Nat}

theorem Good.box_lt (G : Good w g mem base) {b : Nat} (h : b ∈ g.bs) : b < w.heap.size := by
  obtain ⟨i, hi, rfl⟩ := List.mem_iff_getElem.1 h
  have hm : i < mem.length := by rw [← G.len]; exact hi
  have := G.box i mem[i] g.bs[i] (List.getElem?_eq_getElem hm) (List.getElem?_eq_getElem hi)
  cases hx : mem[i] with
  | cells l os => rw [hx] at this; obtain ⟨cs, e, h, _⟩ := this; exact heap_lt h
  | map l => rw [hx] at this; obtain ⟨es, n, h, _⟩ := this; exact heap_lt h
theorem Good.hw_lt (G : Good w g mem base) {b h : Nat} (e : g.hw b = some h) : b < w.heap.size := by
  obtain ⟨cs, e, f, h, _⟩ := G.hw b h e; exact heap_lt h

theorem RepB.mono {w w' : World} {g g' : Gh} (H : HwLe w g.hw w' g'.hw) (B : ∀ (i b : Nat), g.bs[i]? = some b → g'.bs[i]? = some b) {i b : Nat} {x : Bx} (hb : w'.heap[b]? = w.heap[b]?)
    (O : ∀ j b, g.own b = some (.cell i j) → g'.own b = some (.cell i j) ∧ g'.hw b = g.hw b ∧ w'.heap[b]? = w.heap[b]?) (h : RepB w g base i x b) : RepB w' g' base i x b := by
  cases x with
  | cells l os =>
    obtain ⟨cs, e, h1, h2, h3⟩ := h
    refine ⟨cs, e, hb.trans h1, RepL.mono H B l _ h2, fun j hj => ?_⟩
    obtain ⟨k, l', y, e1, e2, e3⟩ := h3 j hj
    exact ⟨k, l', y, e1, e2, e3.mono fun b hb => O j b hb⟩
  | map l =>
    obtain ⟨es, n, h1, h2⟩ := h
    exact ⟨es, n, hb.trans h1, RepM.mono H l _ h2⟩

/-- A new block: an array of cells of which h are known, with an owner, or nothing that is spoken of. -/
theorem Good.push (G : Good w g mem base) (o : Obj) (ho : Option Nat) (L : Option Loc) (h1 : ∀ h, ho = some h → ∃ cs e f, o = .cells cs e f ∧ h ≤ cs.size) (h2 : L.isSome = true → ho.isSome = true) :
    Good (push w o) { g with hw := upd g.hw w.heap.size ho, own := upd g.own w.heap.size L } mem base ∧
    Ext KeepS w g (push w o) { g with hw := upd g.hw w.heap.size ho, own := upd g.own w.heap.size L } := by
  have hwlt : ∀ b h, g.hw b = some h → b ≠ w.heap.size := fun b h e => Nat.ne_of_lt (G.hw_lt e)
  have ownlt : ∀ b L, g.own b = some L → b ≠ w.heap.size := fun b L e => by obtain ⟨h, e⟩ := G.own b L e; exact hwlt b h e
  have hhw : HwLe w g.hw (Ev.push w o) (upd g.hw w.heap.size ho) := fun b h e => ⟨h, by rw [upd_ne _ _ (hwlt b h e)]; exact e, Nat.le_refl _, fun x _ => cell?_same (heap_push_old (G.hw_lt e))⟩
  have hown : ∀ b L', g.own b = some L' → upd g.own w.heap.size L b = some L' ∧ upd g.hw w.heap.size ho b = g.hw b ∧ (Ev.push w o).heap[b]? = w.heap[b]? := fun b L' e => by
    have := ownlt b L' e
    obtain ⟨h, eh⟩ := G.own b L' e
    exact ⟨by rw [upd_ne _ _ this]; exact e, upd_ne _ _ this, heap_push_old (G.hw_lt eh)⟩
  constructor
  · refine ⟨G.len, G.nd, fun b hb => ?_, fun i x b hi hb => ?_, fun b h e => ?_, fun b L' e => ?_, G.glob.mono hhw⟩
    · show upd g.hw w.heap.size ho b = none
      rw [upd_ne _ _ (Nat.ne_of_lt (G.box_lt hb))]; exact G.nohw b hb
    · exact RepB.mono (g := g) (g' := { g with hw := upd g.hw w.heap.size ho, own := upd g.own w.heap.size L }) hhw (fun _ _ h => h) (heap_push_old (G.box_lt (List.mem_of_getElem? hb))) (fun j b e => hown b _ e) (G.box i x b hi hb)
    · simp only [upd] at e
      split at e
      · rename_i hb; subst hb
        obtain ⟨cs, e', f, rfl, hle⟩ := h1 h e
        exact ⟨cs, e', f, heap_push_new, hle⟩
      · obtain ⟨cs, e', f, h3, h4⟩ := G.hw b h e
        exact ⟨cs, e', f, (heap_push_old (heap_lt h3)).trans h3, h4⟩
    · simp only [upd] at e ⊢
      split at e
      · rename_i hb; subst hb
        simp only [if_true]
        exact Option.isSome_iff_exists.1 (h2 (by rw [e]; rfl))
      · rename_i hb
        simp only [hb, if_false]
        exact G.own b L' e
  · refine ⟨by simp [Ev.push], rfl, rfl, rfl, hhw, fun b L' e _ => hown b L' e, fun _ _ h => h, fun _ h => .inl h, fun b hb L' e => ?_, fun b hb _ _ => heap_push_old hb⟩
    have hne : b ≠ w.heap.size := Nat.ne_of_lt hb
    simp only [upd_ne _ _ hne] at e
    exact ⟨L', e, fun _ => rfl⟩

end

section
variable {n : Nat} {W0 : World} {G0 : Gh} {c : Cfg} {a : Act} {w : World} {g : Gh}

/-- A new box of one's own. -/
theorem Inv.newBoxG (hi : Inv n W0 G0 c a w g) (x0 : Bx) (o : Obj) (hx0 : ∀ g' : Gh, HwLe w g.hw (push w o) g'.hw → (∀ (i b : Nat), g.bs[i]? = some b → g'.bs[i]? = some b) → RepB (push w o) g' c.base (c.base + c.own.length) x0 w.heap.size) :
    ∃ g', Inv n W0 G0 { c with own := c.own ++ [x0] } a (push w o) g' ∧ g'.bs[c.base + c.own.length]? = some w.heap.size := by
  have G := hi.good
  obtain ⟨G1, E1⟩ := G.push o none none (by simp) (by simp)
  have hlen : g.bs.length = c.base + c.own.length := by rw [G.len]; simp [Cfg.mem, Cfg.base]
  have hnew : w.heap.size ∉ g.bs := fun h => Nat.lt_irrefl _ (G.box_lt h)
  have hB : ∀ (i b : Nat), g.bs[i]? = some b → (g.bs ++ [w.heap.size])[i]? = some b := fun i b h => by
    rw [List.getElem?_append_left]
    · exact h
    · rcases Nat.lt_or_ge i g.bs.length with h' | h'
      · exact h'
      · rw [List.getElem?_eq_none h'] at h; cases h
  let g1 : Gh := { g with hw := upd g.hw w.heap.size none, own := upd g.own w.heap.size none }
  let g' : Gh := { g1 with bs := g.bs ++ [w.heap.size] }
  have hnone : g.hw w.heap.size = none := by
    cases h : g.hw w.heap.size with
    | none => rfl
    | some x => exact absurd (G.hw_lt h) (Nat.lt_irrefl _)
  have E : Ext KeepS w g (push w o) g' := ⟨E1.size, rfl, rfl, rfl, E1.hw, E1.ext, hB, fun b hb => by
      rcases List.mem_append.1 hb with h | h
      · exact .inl h
      · simp at h; exact .inr (by omega), E1.orig, E1.old⟩
  have Good' : Good (push w o) g' (c.env ++ (c.own ++ [x0])) c.base := by
    refine ⟨by simp [g', hlen, Cfg.base]; omega, ?_, fun b hb => ?_, fun i x b hx hb => ?_, G1.hw, G1.own, G1.glob⟩
    · refine List.nodup_append.2 ⟨G.nd, by simp, ?_⟩
      intro x hx y hy hxy
      simp at hy; subst hy; subst hxy; exact hnew hx
    · rcases List.mem_append.1 hb with h | h
      · exact G1.nohw b h
      · simp at h; subst h; exact upd_same _ _ _
    · have hmem : c.env ++ (c.own ++ [x0]) = c.mem ++ [x0] := by simp [Cfg.mem]
      rw [hmem] at hx
      rcases Nat.lt_or_ge i c.mem.length with h | h
      · rw [List.getElem?_append_left h] at hx
        have hb' : g.bs[i]? = some b := by
          simp only [g'] at hb
          rwa [List.getElem?_append_left (by rw [G.len]; exact h)] at hb
        exact RepB.mono (g := g1) (g' := g') (HwLe.refl _ _) hB rfl (fun j b e => ⟨e, rfl, rfl⟩) (G1.box i x b hx hb')
      · rw [List.getElem?_append_right h] at hx
        have hi0 : i - c.mem.length = 0 := by
          rcases Nat.eq_zero_or_pos (i - c.mem.length) with h | h
          · exact h
          · rw [List.getElem?_eq_none (by simp; omega)] at hx; cases hx
        rw [hi0] at hx
        simp at hx; subst hx
        have : i = g.bs.length := by rw [G.len]; omega
        simp only [g'] at hb
        rw [this] at hb
        simp at hb; subst hb
        have hix : i = c.base + c.own.length := by rw [this, hlen]
        rw [hix]
        exact hx0 g' E.hw hB
  exact ⟨g', ⟨hi.size, hi.defers, fun i h => (hi.fr i h).mono E.hw hB, fun i h => by
      obtain ⟨k, l, h1, h2⟩ := hi.os i h
      exact ⟨k, l, h1, h2.mono fun b hb => E.ext b _ hb (by intro i j; simp)⟩,
    Good', hi.ext.trans (E.weaken (by rintro L rfl; intro i j; simp)), hi.ecl, hi.b0⟩, by simp only [g']; rw [← hlen]; simp⟩

/-- A new box of one's own. -/
theorem Inv.newBox (hi : Inv n W0 G0 c a w g) {l : List AV} {cs : Array Value} {e : TypeId} (hr : RepL w g.hw g.bs c.base l cs.toList) :
    ∃ g', Inv n W0 G0 { c with own := c.own ++ [.cells l []] } a (push w (.cells cs e)) g' ∧ g'.bs[c.base + c.own.length]? = some w.heap.size :=
  hi.newBoxG (.cells l []) (.cells cs e) fun _ H B => ⟨cs, e, heap_push_new, RepL.mono H B l _ hr, fun j hj => by cases hj⟩

/-- A new array. -/
theorem Inv.newArr (hi : Inv n W0 G0 c a w g) {k : Nat} {l : List AV} {cs : List Value} {rest : List Value} {e : TypeId} (hk : 0 < k) (hr : RepE w g.hw k l cs) (d : Nat) (m : Nat) (hB : l.length ≤ 140737488355328) (hm : l.length ≤ m) (hsz : m * k ≤ cs.length + rest.length) :
    ∃ g', Inv n W0 G0 c a (push w (.cells (cs ++ rest).toArray e)) g' ∧ Rep (push w (.cells (cs ++ rest).toArray e)) g'.hw g'.bs c.base (.sl k l) (.slice (some ⟨w.heap.size, 0, none⟩) l.length m) ∧
      OwnAt (push w (.cells (cs ++ rest).toArray e)) g' (.slot d) k (.slice (some ⟨w.heap.size, 0, none⟩) l.length m) := by
  have G := hi.good
  have hlen := RepE.len hr
  obtain ⟨G1, E1⟩ := G.push (.cells (cs ++ rest).toArray e) (some cs.length) (some (.slot d)) (by intro h e; simp at e; subst e; exact ⟨_, _, _, rfl, by simp⟩) (by simp)
  refine ⟨_, hi.step G1 E1, ?_, ?_⟩
  · refine rep_sl_mk rfl hm ⟨hk, hB⟩ (.inr ⟨w.heap.size, 0, cs, rfl, ⟨cs.length, upd_same _ _ _, by omega, fun j v hj => ?_⟩, RepE.mono E1.hw l cs hr⟩)
    simp only [World.cell?, heap_push_new, Option.isSome_none, Bool.false_eq_true, if_false, Nat.zero_add]
    have : j < cs.length := by
      rcases Nat.lt_or_ge j cs.length with h | h
      · exact h
      · rw [List.getElem?_eq_none h] at hj; cases hj
    simp [List.getElem?_append_left this, hj]
  · exact ⟨_, _, _, rfl, hm, .inr ⟨w.heap.size, 0, cs.length, _, e, rfl, upd_same _ _ _, upd_same _ _ _, by omega, heap_push_new, by simp; omega⟩⟩
end
end Go.Ev
end
section
/- Written by this session: append, over trees. Conditions: none beyond those in each statement. -/
namespace Go.Ev
open Go

section
variable {P : Program}

theorem firstCells_of {w : World} {hw : Hw} {bs : List Nat} {base k : Nat} {l : List AV} {y : Value} (h : Rep w hw bs base (.sl k l) y) :
    ∃ a c cs, y = .slice a l.length c ∧ RepE w hw k l cs ∧ ∀ w' : World, w'.heap = w.heap → (Builtin.firstCells k l.length y).run P w' = .ok cs.toArray w' := by
  obtain ⟨a, c, e, _, hk, hh⟩ := rep_sl h
  clear h
  subst e
  rcases hh with rfl | ⟨b, o, cs, rfl, hc, hr⟩
  · refine ⟨a, c, [], rfl, by simp [RepE], fun w' _ => ?_⟩
    cases a <;> simp [Builtin.firstCells, loadCells, loadCellsFrom]
  · refine ⟨_, c, cs, rfl, hr, fun w' hw' => ?_⟩
    have hc' : Cells w' hw b o cs := by
      obtain ⟨h, e, le, q⟩ := hc
      exact ⟨h, e, le, fun j v hj => by rw [show w'.cell? ⟨b, o + j, none⟩ = w.cell? ⟨b, o + j, none⟩ from cell?_same (by rw [hw'])]; exact q j v hj⟩
    simp only [Builtin.firstCells]
    exact run_loadCells hc' (RepE.len hr).symm

theorem run_append_grows {w : World} {t t' ty e e' : TypeId} {i : TypeInfo} {z : Value} (ht : P.underlying t = some (.slice e)) (ht' : P.underlying t' = some (.slice e')) (hi : P.info? e = some i) (hz : i.zero = some z)
    {bs : Option Addr} {sLen sCap m : Nat} {x : Value} {olds news : List Value} (hx : ∀ w' : World, (Builtin.lenOf x).run P w' = .ok m w')
    (ho : ∀ w' : World, w'.heap = w.heap → (Builtin.firstCells i.size sLen (.slice bs sLen sCap)).run P w' = .ok olds.toArray w')
    (hn : ∀ w' : World, w'.heap = w.heap → (Builtin.firstCells i.size m x).run P w' = .ok news.toArray w')
    (hg : sCap < sLen + m) (hb : (sLen + m) * i.bytes ≤ 140737488355328) (h63 : sLen + m ≤ maxLen) :
    (Builtin.append_ #[t, t'] ty #[.slice bs sLen sCap, x]).run P w =
      .ok (.slice (some ⟨w.heap.size, 0, none⟩) (sLen + m) (grownCap w (sLen + m) sCap e))
        (push w.drew (.cells (olds.toArray ++ news.toArray ++ Builtin.zeroCells z.cells (grownCap w (sLen + m) sCap e - (sLen + m))) e)) := by
  have h1 : ¬ (sLen + m ≤ sCap) := by omega
  have h2 : ¬ (((sLen + m : Nat) : Int) > IntKind.i64.max) := by
    have : IntKind.i64.max = 9223372036854775807 := by decide
    rw [this]; simp only [maxLen] at h63; omega
  have h3 : ¬ (Builtin.nextslicecap (sLen + m) sCap * i.bytes > 281474976710656) := by
    have := growslice_fits hg hb; omega
  have h4 : ¬ (9223372036854775807 < ((sLen : Int) + (m : Int))) := by simp only [maxLen] at h63; omega
  have ho' := ho w.drew rfl
  have hn' := hn w.drew rfl
  have e63 : IntKind.i64.max = 9223372036854775807 := by decide
  simp [Builtin.append_, run_und ht, run_und ht', sizeOf, typeInfo, hi, hx, h1, e63, h4, h3, Question.forced, zeroValue, hz, newRow]
  rw [ho']
  simp only [Result.andThen_ok]
  rw [hn']
  simp only [Result.andThen_ok]
  rw [show ∀ Z : Array Value, olds.toArray ++ (news.toArray ++ Z) = (olds ++ news).toArray ++ Z from fun Z => by apply Array.toList_inj.1; simp only [Array.toList_append, List.append_assoc]]
  rfl

theorem run_append_fits {w : World} {t t' ty e e' : TypeId} {i : TypeInfo} (ht : P.underlying t = some (.slice e)) (ht' : P.underlying t' = some (.slice e')) (hi : P.info? e = some i)
    {b o sLen sCap m : Nat} {x : Value} {news : List Value} {cs : Array Value} {et : TypeId} (hx : ∀ w' : World, (Builtin.lenOf x).run P w' = .ok m w')
    (hn : ∀ w' : World, w'.heap = w.heap → (Builtin.firstCells i.size m x).run P w' = .ok news.toArray w')
    (hheap : w.heap[b]? = some (.cells cs et (0, 0))) (hl : news.length = m * i.size) (h1 : ∀ u ∈ news, u.oneCell' = true) (hroom : sLen + m ≤ sCap) (hfit : o + sCap * i.size ≤ cs.size) :
    (Builtin.append_ #[t, t'] ty #[.slice (some ⟨b, o, none⟩) sLen sCap, x]).run P w =
      .ok (.slice (some ⟨b, o, none⟩) (sLen + m) sCap) (w.setRow b (cs.toList.take (o + sLen * i.size) ++ news ++ cs.toList.drop (o + sLen * i.size + news.length)).toArray) := by
  have hmul : sLen * i.size + m * i.size ≤ sCap * i.size := by rw [← Nat.add_mul]; exact Nat.mul_le_mul_right _ hroom
  have hst := run_storeCells_at P b (o + sLen * i.size) et news 0 cs w hheap (by omega) h1
  simp only [Nat.add_zero] at hst
  simp [Builtin.append_, run_und ht, run_und ht', sizeOf, typeInfo, hi, hx, hroom, hn w rfl, addr_add, hst]
end
end Go.Ev
end
