/- Written by programs of this session: laws and contracts that the law's proof stands on, merged into one text. Conditions: none beyond those in each statement. -/
import Derived.Test.YtepdiooaoegpfaaGreatDoorPkEv2
import Derived.Laws.Append
import Derived.Laws.CopyRow
import Derived.MapKept
section
/- Written by this session: the steps of a frame of trees. Conditions: none beyond those in each statement. -/
namespace Go.Ev
open Go

theorem rep_isLeaf {w : World} {hw : Hw} {bs : List Nat} {base : Nat} {x : AV} {y : Value} (hl : x.isLeaf = true) (h : Rep w hw bs base x y) : RepV w hw bs base x [y] ∧ x.isAgg = false ∧ y.oneCell' = true := by
  have hleaf : x.isAgg = false ∧ x ≠ .top ∧ ∀ l, x ≠ .tup l := by
    cases x <;> simp_all [AV.isLeaf, AV.isAgg]
  obtain ⟨h2, h3⟩ := rep_leaf hleaf.1 hleaf.2.1 hleaf.2.2 h
  refine ⟨h2, hleaf.1, ?_⟩
  cases x <;> first
    | (simp only [RepV] at h2; done)
    | (simp [AV.isLeaf] at hl; done)
    | (simp only [RepV] at h2; simp_all [Value.oneCell', AV.isLeaf]; done)
    | (simp only [RepV] at h2; obtain ⟨_, _, _, _, _, e⟩ := h2; cases e; rfl)
    | (simp only [RepV] at h2; obtain ⟨_, _, _, _, _, _, e⟩ := h2; cases e; rfl)
    | (simp only [RepV] at h2; obtain ⟨_, _, e, _⟩ := h2; simp at e; subst e; rfl)
    | (simp only [RepV] at h2; obtain ⟨_, _, e⟩ := h2; simp at e; subst e; rfl)
    | (simp only [RepV] at h2; obtain ⟨_, _, _, e⟩ := h2; simp at e; subst e; rfl)
    | (simp only [RepV] at h2; obtain ⟨_, e, _⟩ := h2; simp at e; subst e; rfl)
    | (simp only [RepV] at h2; obtain ⟨_, _, _, e, _⟩ := h2; simp at e; subst e; rfl)

theorem bv_rep {w : World} {hw : Hw} {bs : List Nat} {base : Nat} {x : AV} {u : Value} {b v : Bool} (h : bv x = some (b, v)) (hb : b = true) (hr : Rep w hw bs base x u) : u = .bool v := by
  unfold bv at h
  split at h
  · cases h; exact (rep_v hr).1
  · cases h
    subst hb
    obtain ⟨h1, _⟩ := rep_leaf rfl (by simp) (by simp) hr
    simp only [RepV] at h1
    obtain ⟨z, e, _, r⟩ := h1
    simp only [List.cons.injEq, and_true] at e
    have := (r trivial).2
    simp only [List.cons.injEq, and_true] at this
    rw [e, this]
  · cases h

theorem pureA_sound {P : Program} {env own : List Bx} {ρA : Operand → AV} {o : Oper} {K : AV → Prop} (h : pureA P env own ρA o K) : ∃ v, K v ∧ PureAt P env own ρA o v := by
  obtain ⟨dst, op, type, pos, after, guard⟩ := o
  have copy : ∀ x, (op = .move x ∨ op = .assign x) → K (ρA x) → ∃ v, K v ∧ PureAt P env own ρA ⟨dst, op, type, pos, after, guard⟩ v := by
    intro x hop hk
    refine ⟨_, hk, fun ρ w g G hρ => ⟨ρ x, ?_, hρ x ?_⟩⟩
    · rcases hop with rfl | rfl <;> simp [execOp]
    · rcases hop with rfl | rfl <;> simp [Op.operands]
  unfold pureA at h
  cases op <;> simp only at h <;> try exact h.elim
  case move x => exact copy x (.inl rfl) h
  case assign x => exact copy x (.inr rfl) h
  case pick c a b =>
    split at h
    · rename_i bc t b1 x b2 y hc ha hb
      obtain ⟨k1, k2, k3, hk⟩ := h
      refine ⟨_, hk, fun ρ w g G hρ => ⟨.bool (bif t then x else y), ?_, rep_bool⟩⟩
      have ec := bv_rep hc k1 (hρ c (by simp [Op.operands]))
      cases t with
      | true => simp [execOp, ec, asBool, bv_rep ha (k2 rfl) (hρ a (by simp [Op.operands]))]
      | false => simp [execOp, ec, asBool, bv_rep hb (k3 rfl) (hρ b (by simp [Op.operands]))]
    split at h
    · rename_i t hc
      cases t with
      | true =>
        refine ⟨_, h.1 rfl, fun ρ w g G hρ => ⟨ρ a, ?_, hρ a (by simp [Op.operands])⟩⟩
        have e := (rep_v (hc ▸ hρ c (by simp [Op.operands]))).1
        simp [execOp, e, asBool]
      | false =>
        refine ⟨_, h.2 rfl, fun ρ w g G hρ => ⟨ρ b, ?_, hρ b (by simp [Op.operands])⟩⟩
        have e := (rep_v (hc ▸ hρ c (by simp [Op.operands]))).1
        simp [execOp, e, asBool]
    · exact h.elim
  case binOp => exact bin_sound h
  case unOp => exact un_sound h
  case convert => exact conv_sound h
  case fieldAddr => exact fieldAddr_sound h
  case field => exact field_sound h
  case index => exact index_sound h
  case indexAddr => exact indexAddr_sound h
  case slice => exact slice_sound h
  case load => exact load_sound h
  case lookup => exact lookup_sound h
  case nilCheck x =>
    have main : ∀ v, ρA x = v → K v → (∀ (w : World) hw bs base y, Rep w hw bs base v y → ∃ a, y = .pointer (some a)) → ∃ v, K v ∧ PureAt P env own ρA ⟨dst, .nilCheck x, type, pos, after, guard⟩ v := by
      intro v hx hk hp
      refine ⟨v, hk, fun ρ w g G hρ => ?_⟩
      have hr := hx ▸ hρ x (by simp [Op.operands])
      obtain ⟨a, e⟩ := hp _ _ _ _ _ hr
      exact ⟨ρ x, by simp [execOp, e], hr⟩
    split at h
    · rename_i hx; exact main _ hx h fun w hw bs base y hr => by obtain ⟨b, _, e⟩ := rep_bp hr; exact ⟨_, e⟩
    · rename_i hx; exact main _ hx h fun w hw bs base y hr => by obtain ⟨_, b, _, e⟩ := rep_xp hr; exact ⟨_, e⟩
    · rename_i hx; exact main _ hx h fun w hw bs base y hr => by obtain ⟨b, o, cs, e, _⟩ := rep_ep hr; exact ⟨_, e⟩
    · exact h.elim
  case extract x i =>
    split at h
    · rename_i l hx
      split at h
      · rename_i y hy
        refine ⟨y, h, fun ρ w g G hρ => ?_⟩
        obtain ⟨vs, e, hr⟩ : Rep w g.hw g.bs env.length (.tup l) (ρ x) := hx ▸ hρ x (by simp [Op.operands])
        have : ∀ (l : List AV) (vs : List Value) (i : Nat), RepT w g.hw g.bs env.length l vs → l[i]? = some y → ∃ v, vs[i]? = some v ∧ Rep1 w g.hw g.bs env.length y v := by
          intro l
          induction l with
          | nil => intro vs i _ h; simp at h
          | cons a l ih =>
            intro vs i hr hi
            simp only [RepT] at hr
            obtain ⟨v, vs', rfl, h1, h2⟩ := hr
            cases i with
            | zero => simp at hi; subst hi; exact ⟨v, rfl, h1⟩
            | succ i => simp at hi; simpa using ih _ _ h2 hi
        obtain ⟨v, hv, h1⟩ := this l vs.toList i hr hy
        have hv' : vs[i]? = some v := by simpa using hv
        refine ⟨v, by simp [execOp, e, Instr.extract, hv'], ?_⟩
        cases y with
        | tup l' => rcases h1 with h1 | ⟨h1, _⟩ <;> first | (cases h1; done) | (simp only [RepV] at h1)
        | _ => exact h1
      · exact h.elim
    · exact h.elim
  case makeInterface t x =>
    have main : ∀ v, ρA x = v → v.plainLeaf = true ∨ v.isAgg = true → (∀ d, P.underlying t = some d → (∀ ms, d ≠ .interface ms) → K (.ifc t v) → True → (∀ (w : World) hw bs base y, Rep w hw bs base v y → RepV w hw [] 0 v y.cells.toList ∧ VisAgg y = v.isAgg) → ∃ v, K v ∧ PureAt P env own ρA ⟨dst, .makeInterface t x, type, pos, after, guard⟩ v) := by
      intro v hx hv d hd hne hk _ hp
      refine ⟨_, hk, fun ρ w g G hρ => ⟨.iface t (ρ x), ?_, ?_⟩⟩
      · simp only [execOp, Sem.run_bind, Instr.makeInterface, run_und hd, Result.andThen_ok]
        cases d <;> first | (exact absurd rfl (hne _)) | rfl
      · obtain ⟨q1, q2⟩ := hp w g.hw g.bs env.length (ρ x) (hx ▸ hρ x (by simp [Op.operands]))
        exact rep_mk_leaf rfl rfl (by simp only [RepV]; exact ⟨_, rfl, q1, q2⟩)
    split at h
    · exact h.elim
    · rename_i d y hne hd hx
      cases ho : y.oneCell' with
      | false => rw [ho] at h; exact h.elim
      | true =>
        rw [ho] at h
        refine main _ hx (.inl rfl) d hd (fun ms e => hne ms (by rw [e])) h trivial fun w hw bs base u hr => ?_
        obtain ⟨rfl, hv⟩ := rep_v hr
        exact ⟨by rw [cells_toList_of hv]; simp [RepV], by rw [hv]; rfl⟩
    · rename_i d k l hne hd hx
      refine main _ hx (.inl rfl) d hd (fun ms e => hne ms (by rw [e])) h trivial fun w hw bs base u hr => ?_
      obtain ⟨q1, q2⟩ := rep_leaf rfl (by simp) (by simp) hr
      rw [cells_toList_of q2]
      exact ⟨by simpa only [RepV] using q1, by rw [q2]; rfl⟩
    · rename_i d l hne hd hx
      cases ho : pfLeaves l with
      | false => rw [ho] at h; exact h.elim
      | true =>
        rw [ho] at h
        refine main _ hx (.inr rfl) d hd (fun ms e => hne ms (by rw [e])) h trivial fun w hw bs base u hr => ?_
        obtain ⟨cs, rfl, hL⟩ := rep_agg hr
        refine ⟨?_, rfl⟩
        simp only [RepV, Value.cells]
        have all : ∀ (l : List AV) (vs : List Value), pfLeaves l = true → RepL w hw bs base l vs → RepL w hw [] 0 l vs := by
          intro l
          induction l with
          | nil => intro vs _ h; simpa only [RepL] using h
          | cons a l ih =>
            intro vs hp h
            simp only [pfLeaves, List.all_cons, Bool.and_eq_true] at hp
            simp only [RepL] at h ⊢
            obtain ⟨v, vs', e, q, r⟩ := h
            refine ⟨v, vs', e, ⟨?_, q.2⟩, ih _ hp.2 r⟩
            cases a <;> first | (simpa only [RepV] using q.1) | (have := hp.1; simp [AV.plainLeaf] at this)
        exact all l cs.toList ho hL
    · exact h.elim
  case makeFunc fn first cap =>
    cases h1 : ((first.toList.map ρA).all AV.isLeaf && (cap.toList.map ρA).all AV.isLeaf) with
    | false => simp only [h1, cond_false] at h
    | true =>
      simp only [h1, cond_true] at h
      simp only [Bool.and_eq_true] at h1
      refine ⟨_, h, fun ρ w g G hρ => ⟨.func fn (first.map ρ) (cap.map ρ), by simp [execOp, Instr.makeFunc], rep_mk_leaf rfl rfl ?_⟩⟩
      have all : ∀ (l : List Operand), (∀ x ∈ l, x ∈ first.toList ∨ x ∈ cap.toList) → (l.map ρA).all AV.isLeaf = true → RepL w g.hw g.bs env.length (l.map ρA) (l.map ρ) := by
        intro l
        induction l with
        | nil => intro _ _; simp [RepL]
        | cons x l ih =>
          intro hm hl
          simp only [List.map_cons, List.all_cons, Bool.and_eq_true] at hl
          simp only [List.map_cons, RepL]
          have hr := hρ x (by simp only [Op.operands, Array.mem_append]; rcases hm x (by simp) with h | h; exact .inl (by simpa using h); exact .inr (by simpa using h))
          obtain ⟨h2, h3, h4⟩ := rep_isLeaf hl.1 hr
          exact ⟨_, _, rfl, ⟨h2, h3, h4⟩, ih (fun y hy => hm y (by simp [hy])) hl.2⟩
      simp only [RepV]
      exact ⟨_, _, rfl, by simpa using all first.toList (fun x h => .inl h) h1.1, by simpa using all cap.toList (fun x h => .inr h) h1.2⟩
  case call c =>
    obtain ⟨callee, args, argTypes⟩ := c
    split at h
    · rename_i x t hc ha ht
      have : callee = .builtin .len := hc
      subst this
      have ea : args = #[x] := by apply Array.toList_inj.1; simpa using ha
      have et : argTypes = #[t] := by apply Array.toList_inj.1; simpa using ht
      subst ea et
      exact len_sound h
    · rename_i x t hc ha ht
      have : callee = .builtin .cap := hc
      subst this
      have ea : args = #[x] := by apply Array.toList_inj.1; simpa using ha
      have et : argTypes = #[t] := by apply Array.toList_inj.1; simpa using ht
      subst ea et
      exact cap_sound h
    · rename_i x y hc ha
      have : callee = .builtin .min := hc
      subst this
      have ea : args = #[x, y] := by apply Array.toList_inj.1; simpa using ha
      subst ea
      exact min_sound h
    · rename_i x y hc ha
      have : callee = .builtin .max := hc
      subst this
      have ea : args = #[x, y] := by apply Array.toList_inj.1; simpa using ha
      subst ea
      exact max_sound h
    · exact h.elim

theorem getD_put {a : Act} {d i : Nat} {u : Value} (hd : d < a.tmps.size) : (a.put (some d) u).tmps.getD i undef = if d = i then u else a.tmps.getD i undef := by
  simp only [Act.put, Array.getD_eq_getD_getElem?, Array.getElem?_setIfInBounds]
  by_cases h : d = i
  · subst h; simp [hd]
  · simp [h]

def KeepS (L : Loc) : Prop := ∀ i j, L ≠ .cell i j

section
variable {n : Nat} {W0 : World} {G0 : Gh} {c : Cfg} {a : Act} {w : World} {g : Gh}

theorem Inv.put (hi : Inv n W0 G0 c a w g) {d : Nat} (hd : d < n) {v : AV} {u : Value} (hr : Rep w g.hw g.bs c.base v u) : Inv n W0 G0 (c.put (some d) v) (a.put (some d) u) w g where
  size := by simpa [Act.put] using hi.size
  defers := hi.defers
  fr i h := by
    rw [getD_put (by rw [hi.size]; exact hd)]
    simp only [Cfg.put, Fr.get_cons]
    split
    · exact hr
    · exact hi.fr i h
  os i h := by
    simp only [Cfg.put, List.mem_filter] at h
    have hne : d ≠ i := by rintro rfl; simp at h
    obtain ⟨k, l, h1, h2⟩ := hi.os i h.1
    rw [getD_put (by rw [hi.size]; exact hd)]
    simp only [Cfg.put, Fr.get_cons, if_neg hne]
    exact ⟨k, l, h1, h2⟩
  good := hi.good
  ext := hi.ext
  ecl := hi.ecl
  b0 := hi.b0

theorem Inv.putO (hi : Inv n W0 G0 c a w g) {d : Option Nat} (hd : ∀ x, d = some x → x < n) {v : AV} {u : Value} (hr : Rep w g.hw g.bs c.base v u) : Inv n W0 G0 (c.put d v) (a.put d u) w g := by
  cases d with
  | none => exact hi
  | some d => exact hi.put (hd d rfl) hr

theorem Inv.step (hi : Inv n W0 G0 c a w g) {w' : World} {g' : Gh} (hg : Good w' g' c.mem c.base) (he : Ext KeepS w g w' g') : Inv n W0 G0 c a w' g' where
  size := hi.size
  defers := hi.defers
  fr i h := (hi.fr i h).mono he.hw he.bs
  os i h := by
    obtain ⟨k, l, h1, h2⟩ := hi.os i h
    exact ⟨k, l, h1, h2.mono fun b hb => he.ext b _ hb (by intro i j; simp)⟩
  good := hg
  ext := hi.ext.trans (he.weaken (by rintro L rfl; intro i j; simp))
  ecl := hi.ecl
  b0 := hi.b0

theorem GlobOk.rep {w : World} {hw : Hw} {bs : List Nat} {base : Nat} (h : GlobOk w hw) (g : Nat) : Rep w hw bs base (globA g) (.pointer (some ⟨g, 0, none⟩)) := by
  unfold globA
  split
  · rename_i p hp
    obtain ⟨cs, h1, h2⟩ := h.1 p (List.mem_of_find?_eq_some hp)
    have := List.find?_some hp
    obtain rfl : p.1 = g := Nat.eq_of_beq_eq_true this
    exact rep_mk_leaf rfl rfl (by simp only [RepV]; exact ⟨_, _, cs, rfl, h1, h2⟩)
  · exact .inl rfl

theorem Inv.eval (hi : Inv n W0 G0 c a w g) {x : Operand} (hx : okTmp n x = true) : Rep w g.hw g.bs c.base (evA c x) (a.eval x) := by
  cases x with
  | tmp t => exact hi.fr t (by rw [← Nat.blt_eq]; exact hx)
  | const v => exact cst_rep v hx
  | func f =>
    have : Rep w g.hw g.bs c.base (.fn (.func f) [] []) (.func (.func f) #[] #[]) := rep_mk_leaf rfl rfl (by simp only [RepV]; exact ⟨#[], #[], rfl, by simp only [RepL], by simp only [RepL]⟩)
    exact this
  | global g => exact hi.good.glob.rep g
end
end Go.Ev
end
section
/- Written by this session: what writes memory, over trees: new blocks, stores, who may append. Conditions: none beyond those in each statement. -/
namespace Go.Ev
open Go

def push (w : World) (o : Obj) : World := { w with heap := w.heap.push o }

theorem heap_push_old {w : World} {o : Obj} {b : Nat} (h : b < w.heap.size) : (push w o).heap[b]? = w.heap[b]? := by
  show (w.heap.push o)[b]? = _
  rw [Array.getElem?_push, if_neg (by omega)]
theorem heap_push_new {w : World} {o : Obj} : (push w o).heap[w.heap.size]? = some o := by
  show (w.heap.push o)[w.heap.size]? = _
  simp

theorem heap_lt {w : World} {b : Nat} {o : Obj} (h : w.heap[b]? = some o) : b < w.heap.size := by
  rcases Nat.lt_or_ge b w.heap.size with h' | h'
  · exact h'
  · rw [Array.getElem?_eq_none h'] at h; cases h

theorem cell?_same {w w' : World} {b o : Nat} (h : w'.heap[b]? = w.heap[b]?) : w'.cell? ⟨b, o, none⟩ = w.cell? ⟨b, o, none⟩ := by simp [World.cell?, h]

def upd {α : Type} (f : Nat → α) (i : Nat) (x : α) : Nat → α := fun j => if j = i then x else f j
theorem upd_same {α : Type} (f : Nat → α) (i : Nat) (x : α) : upd f i x i = x := by simp [upd]
theorem upd_ne {α : Type} (f : Nat → α) {i j : Nat} (x : α) (h : j ≠ i) : upd f i x j = f j := by simp [upd, h]

section
variable {w : World} {g : Gh} {mem : List Bx} {base : Nat}

theorem Good.box_lt (G : Good w g mem base) {b : Nat} (h : b ∈ g.bs) : b < w.heap.size := by
  obtain ⟨i, hi, rfl⟩ := List.mem_iff_getElem.1 h
  have hm : i < mem.length := by rw [← G.len]; exact hi
  have := G.box i mem[i] g.bs[i] (List.getElem?_eq_getElem hm) (List.getElem?_eq_getElem hi)
  cases hx : mem[i] with
  | cells l os => rw [hx] at this; obtain ⟨cs, e, h, _⟩ := this; exact heap_lt h
  | map l => rw [hx] at this; obtain ⟨es, n, h, _⟩ := this; exact heap_lt h
theorem Good.hw_lt (G : Good w g mem base) {b h : Nat} (e : g.hw b = some h) : b < w.heap.size := by
  obtain ⟨cs, e, f, h, _⟩ := G.hw b h e; exact heap_lt h

theorem RepB.mono {w w' : World} {g g' : Gh} (H : HwLe w g.hw w' g'.hw) (B : ∀ (i b : Nat), g.bs[i]? = some b → g'.bs[i]? = some b) {i b : Nat} {x : Bx} (hb : w'.heap[b]? = w.heap[b]?)
    (O : ∀ j b, g.own b = some (.cell i j) → g'.own b = some (.cell i j) ∧ g'.hw b = g.hw b ∧ w'.heap[b]? = w.heap[b]?) (h : RepB w g base i x b) : RepB w' g' base i x b := by
  cases x with
  | cells l os =>
    obtain ⟨cs, e, h1, h2, h3⟩ := h
    refine ⟨cs, e, hb.trans h1, RepL.mono H B l _ h2, fun j hj => ?_⟩
    obtain ⟨k, l', y, e1, e2, e3⟩ := h3 j hj
    exact ⟨k, l', y, e1, e2, e3.mono fun b hb => O j b hb⟩
  | map l =>
    obtain ⟨es, n, h1, h2⟩ := h
    exact ⟨es, n, hb.trans h1, RepM.mono H l _ h2⟩

/-- A new block: an array of cells of which h are known, with an owner, or nothing that is spoken of. -/
theorem Good.push (G : Good w g mem base) (o : Obj) (ho : Option Nat) (L : Option Loc) (h1 : ∀ h, ho = some h → ∃ cs e f, o = .cells cs e f ∧ h ≤ cs.size) (h2 : L.isSome = true → ho.isSome = true) :
    Good (push w o) { g with hw := upd g.hw w.heap.size ho, own := upd g.own w.heap.size L } mem base ∧
    Ext KeepS w g (push w o) { g with hw := upd g.hw w.heap.size ho, own := upd g.own w.heap.size L } := by
  have hwlt : ∀ b h, g.hw b = some h → b ≠ w.heap.size := fun b h e => Nat.ne_of_lt (G.hw_lt e)
  have ownlt : ∀ b L, g.own b = some L → b ≠ w.heap.size := fun b L e => by obtain ⟨h, e⟩ := G.own b L e; exact hwlt b h e
  have hhw : HwLe w g.hw (Ev.push w o) (upd g.hw w.heap.size ho) := fun b h e => ⟨h, by rw [upd_ne _ _ (hwlt b h e)]; exact e, Nat.le_refl _, fun x _ => cell?_same (heap_push_old (G.hw_lt e))⟩
  have hown : ∀ b L', g.own b = some L' → upd g.own w.heap.size L b = some L' ∧ upd g.hw w.heap.size ho b = g.hw b ∧ (Ev.push w o).heap[b]? = w.heap[b]? := fun b L' e => by
    have := ownlt b L' e
    obtain ⟨h, eh⟩ := G.own b L' e
    exact ⟨by rw [upd_ne _ _ this]; exact e, upd_ne _ _ this, heap_push_old (G.hw_lt eh)⟩
  constructor
  · refine ⟨G.len, G.nd, fun b hb => ?_, fun i x b hi hb => ?_, fun b h e => ?_, fun b L' e => ?_, G.glob.mono hhw⟩
    · show upd g.hw w.heap.size ho b = none
      rw [upd_ne _ _ (Nat.ne_of_lt (G.box_lt hb))]; exact G.nohw b hb
    · exact RepB.mono (g := g) (g' := { g with hw := upd g.hw w.heap.size ho, own := upd g.own w.heap.size L }) hhw (fun _ _ h => h) (heap_push_old (G.box_lt (List.mem_of_getElem? hb))) (fun j b e => hown b _ e) (G.box i x b hi hb)
    · simp only [upd] at e
      split at e
      · rename_i hb; subst hb
        obtain ⟨cs, e', f, rfl, hle⟩ := h1 h e
        exact ⟨cs, e', f, heap_push_new, hle⟩
      · obtain ⟨cs, e', f, h3, h4⟩ := G.hw b h e
        exact ⟨cs, e', f, (heap_push_old (heap_lt h3)).trans h3, h4⟩
    · simp only [upd] at e ⊢
      split at e
      · rename_i hb; subst hb
        simp only [if_true]
        exact Option.isSome_iff_exists.1 (h2 (by rw [e]; rfl))
      · rename_i hb
        simp only [hb, if_false]
        exact G.own b L' e
  · refine ⟨by simp [Ev.push], rfl, rfl, rfl, hhw, fun b L' e _ => hown b L' e, fun _ _ h => h, fun _ h => .inl h, fun b hb L' e => ?_, fun b hb _ _ => heap_push_old hb⟩
    have hne : b ≠ w.heap.size := Nat.ne_of_lt hb
    simp only [upd_ne _ _ hne] at e
    exact ⟨L', e, fun _ => rfl⟩

end

section
variable {n : Nat} {W0 : World} {G0 : Gh} {c : Cfg} {a : Act} {w : World} {g : Gh}

/-- A new box of one's own. -/
theorem Inv.newBoxG (hi : Inv n W0 G0 c a w g) (x0 : Bx) (o : Obj) (hx0 : ∀ g' : Gh, HwLe w g.hw (push w o) g'.hw → (∀ (i b : Nat), g.bs[i]? = some b → g'.bs[i]? = some b) → RepB (push w o) g' c.base (c.base + c.own.length) x0 w.heap.size) :
    ∃ g', Inv n W0 G0 { c with own := c.own ++ [x0] } a (push w o) g' ∧ g'.bs[c.base + c.own.length]? = some w.heap.size := by
  have G := hi.good
  obtain ⟨G1, E1⟩ := G.push o none none (by simp) (by simp)
  have hlen : g.bs.length = c.base + c.own.length := by rw [G.len]; simp [Cfg.mem, Cfg.base]
  have hnew : w.heap.size ∉ g.bs := fun h => Nat.lt_irrefl _ (G.box_lt h)
  have hB : ∀ (i b : Nat), g.bs[i]? = some b → (g.bs ++ [w.heap.size])[i]? = some b := fun i b h => by
    rw [List.getElem?_append_left]
    · exact h
    · rcases Nat.lt_or_ge i g.bs.length with h' | h'
      · exact h'
      · rw [List.getElem?_eq_none h'] at h; cases h
  let g1 : Gh := { g with hw := upd g.hw w.heap.size none, own := upd g.own w.heap.size none }
  let g' : Gh := { g1 with bs := g.bs ++ [w.heap.size] }
  have hnone : g.hw w.heap.size = none := by
    cases h : g.hw w.heap.size with
    | none => rfl
    | some x => exact absurd (G.hw_lt h) (Nat.lt_irrefl _)
  have E : Ext KeepS w g (push w o) g' := ⟨E1.size, rfl, rfl, rfl, E1.hw, E1.ext, hB, fun b hb => by
      rcases List.mem_append.1 hb with h | h
      · exact .inl h
      · simp at h; exact .inr (by omega), E1.orig, E1.old⟩
  have Good' : Good (push w o) g' (c.env ++ (c.own ++ [x0])) c.base := by
    refine ⟨by simp [g', hlen, Cfg.base]; omega, ?_, fun b hb => ?_, fun i x b hx hb => ?_, G1.hw, G1.own, G1.glob⟩
    · refine List.nodup_append.2 ⟨G.nd, by simp, ?_⟩
      intro x hx y hy hxy
      simp at hy; subst hy; subst hxy; exact hnew hx
    · rcases List.mem_append.1 hb with h | h
      · exact G1.nohw b h
      · simp at h; subst h; exact upd_same _ _ _
    · have hmem : c.env ++ (c.own ++ [x0]) = c.mem ++ [x0] := by simp [Cfg.mem]
      rw [hmem] at hx
      rcases Nat.lt_or_ge i c.mem.length with h | h
      · rw [List.getElem?_append_left h] at hx
        have hb' : g.bs[i]? = some b := by
          simp only [g'] at hb
          rwa [List.getElem?_append_left (by rw [G.len]; exact h)] at hb
        exact RepB.mono (g := g1) (g' := g') (HwLe.refl _ _) hB rfl (fun j b e => ⟨e, rfl, rfl⟩) (G1.box i x b hx hb')
      · rw [List.getElem?_append_right h] at hx
        have hi0 : i - c.mem.length = 0 := by
          rcases Nat.eq_zero_or_pos (i - c.mem.length) with h | h
          · exact h
          · rw [List.getElem?_eq_none (by simp; omega)] at hx; cases hx
        rw [hi0] at hx
        simp at hx; subst hx
        have : i = g.bs.length := by rw [G.len]; omega
        simp only [g'] at hb
        rw [this] at hb
        simp at hb; subst hb
        have hix : i = c.base + c.own.length := by rw [this, hlen]
        rw [hix]
        exact hx0 g' E.hw hB
  exact ⟨g', ⟨hi.size, hi.defers, fun i h => (hi.fr i h).mono E.hw hB, fun i h => by
      obtain ⟨k, l, h1, h2⟩ := hi.os i h
      exact ⟨k, l, h1, h2.mono fun b hb => E.ext b _ hb (by intro i j; simp)⟩,
    Good', hi.ext.trans (E.weaken (by rintro L rfl; intro i j; simp)), hi.ecl, hi.b0⟩, by simp only [g']; rw [← hlen]; simp⟩

/-- A new box of one's own. -/
theorem Inv.newBox (hi : Inv n W0 G0 c a w g) {l : List AV} {cs : Array Value} {e : TypeId} (hr : RepL w g.hw g.bs c.base l cs.toList) :
    ∃ g', Inv n W0 G0 { c with own := c.own ++ [.cells l []] } a (push w (.cells cs e)) g' ∧ g'.bs[c.base + c.own.length]? = some w.heap.size :=
  hi.newBoxG (.cells l []) (.cells cs e) fun _ H B => ⟨cs, e, heap_push_new, RepL.mono H B l _ hr, fun j hj => by cases hj⟩

/-- A new array. -/
theorem Inv.newArr (hi : Inv n W0 G0 c a w g) {k : Nat} {l : List AV} {cs : List Value} {rest : List Value} {e : TypeId} (hk : 0 < k) (hr : RepE w g.hw k l cs) (d : Nat) (m : Nat) (hB : l.length ≤ 140737488355328) (hm : l.length ≤ m) (hsz : m * k ≤ cs.length + rest.length) :
    ∃ g', Inv n W0 G0 c a (push w (.cells (cs ++ rest).toArray e)) g' ∧ Rep (push w (.cells (cs ++ rest).toArray e)) g'.hw g'.bs c.base (.sl k l) (.slice (some ⟨w.heap.size, 0, none⟩) l.length m) ∧
      OwnAt (push w (.cells (cs ++ rest).toArray e)) g' (.slot d) k (.slice (some ⟨w.heap.size, 0, none⟩) l.length m) := by
  have G := hi.good
  have hlen := RepE.len hr
  obtain ⟨G1, E1⟩ := G.push (.cells (cs ++ rest).toArray e) (some cs.length) (some (.slot d)) (by intro h e; simp at e; subst e; exact ⟨_, _, _, rfl, by simp⟩) (by simp)
  refine ⟨_, hi.step G1 E1, ?_, ?_⟩
  · refine rep_sl_mk rfl hm ⟨hk, hB⟩ (.inr ⟨w.heap.size, 0, cs, rfl, ⟨cs.length, upd_same _ _ _, by omega, fun j v hj => ?_⟩, RepE.mono E1.hw l cs hr⟩)
    simp only [World.cell?, heap_push_new, Option.isSome_none, Bool.false_eq_true, if_false, Nat.zero_add]
    have : j < cs.length := by
      rcases Nat.lt_or_ge j cs.length with h | h
      · exact h
      · rw [List.getElem?_eq_none h] at hj; cases hj
    simp [List.getElem?_append_left this, hj]
  · exact ⟨_, _, _, rfl, hm, .inr ⟨w.heap.size, 0, cs.length, _, e, rfl, upd_same _ _ _, upd_same _ _ _, by omega, heap_push_new, by simp; omega⟩⟩
end
end Go.Ev
end
section
/- Written by this session: append, over trees. Conditions: none beyond those in each statement. -/
namespace Go.Ev
open Go

section
variable {P : Program}

theorem firstCells_of {w : World} {hw : Hw} {bs : List Nat} {base k : Nat} {l : List AV} {y : Value} (h : Rep w hw bs base (.sl k l) y) :
    ∃ a c cs, y = .slice a l.length c ∧ RepE w hw k l cs ∧ ∀ w' : World, w'.heap = w.heap → (Builtin.firstCells k l.length y).run P w' = .ok cs.toArray w' := by
  obtain ⟨a, c, e, _, hk, hh⟩ := rep_sl h
  clear h
  subst e
  rcases hh with rfl | ⟨b, o, cs, rfl, hc, hr⟩
  · refine ⟨a, c, [], rfl, by simp [RepE], fun w' _ => ?_⟩
    cases a <;> simp [Builtin.firstCells, loadCells, loadCellsFrom]
  · refine ⟨_, c, cs, rfl, hr, fun w' hw' => ?_⟩
    have hc' : Cells w' hw b o cs := by
      obtain ⟨h, e, le, q⟩ := hc
      exact ⟨h, e, le, fun j v hj => by rw [show w'.cell? ⟨b, o + j, none⟩ = w.cell? ⟨b, o + j, none⟩ from cell?_same (by rw [hw'])]; exact q j v hj⟩
    simp only [Builtin.firstCells]
    exact run_loadCells hc' (RepE.len hr).symm

theorem run_append_grows {w : World} {t t' ty e e' : TypeId} {i : TypeInfo} {z : Value} (ht : P.underlying t = some (.slice e)) (ht' : P.underlying t' = some (.slice e')) (hi : P.info? e = some i) (hz : i.zero = some z)
    {bs : Option Addr} {sLen sCap m : Nat} {x : Value} {olds news : List Value} (hx : ∀ w' : World, (Builtin.lenOf x).run P w' = .ok m w')
    (ho : ∀ w' : World, w'.heap = w.heap → (Builtin.firstCells i.size sLen (.slice bs sLen sCap)).run P w' = .ok olds.toArray w')
    (hn : ∀ w' : World, w'.heap = w.heap → (Builtin.firstCells i.size m x).run P w' = .ok news.toArray w')
    (hg : sCap < sLen + m) (hb : (sLen + m) * i.bytes ≤ 140737488355328) (h63 : sLen + m ≤ maxLen) :
    (Builtin.append_ #[t, t'] ty #[.slice bs sLen sCap, x]).run P w =
      .ok (.slice (some ⟨w.heap.size, 0, none⟩) (sLen + m) (grownCap w (sLen + m) sCap e))
        (push w.drew (.cells (olds.toArray ++ news.toArray ++ Builtin.zeroCells z.cells (grownCap w (sLen + m) sCap e - (sLen + m))) e)) := by
  have h1 : ¬ (sLen + m ≤ sCap) := by omega
  have h2 : ¬ (((sLen + m : Nat) : Int) > IntKind.i64.max) := by
    have : IntKind.i64.max = 9223372036854775807 := by decide
    rw [this]; simp only [maxLen] at h63; omega
  have h3 : ¬ (Builtin.nextslicecap (sLen + m) sCap * i.bytes > 281474976710656) := by
    have := growslice_fits hg hb; omega
  have h4 : ¬ (9223372036854775807 < ((sLen : Int) + (m : Int))) := by simp only [maxLen] at h63; omega
  have ho' := ho w.drew rfl
  have hn' := hn w.drew rfl
  have e63 : IntKind.i64.max = 9223372036854775807 := by decide
  simp [Builtin.append_, run_und ht, run_und ht', sizeOf, typeInfo, hi, hx, h1, e63, h4, h3, Question.forced, zeroValue, hz, newRow]
  rw [ho']
  simp only [Result.andThen_ok]
  rw [hn']
  simp only [Result.andThen_ok]
  rw [show ∀ Z : Array Value, olds.toArray ++ (news.toArray ++ Z) = (olds ++ news).toArray ++ Z from fun Z => by apply Array.toList_inj.1; simp only [Array.toList_append, List.append_assoc]]
  rfl

theorem run_append_fits {w : World} {t t' ty e e' : TypeId} {i : TypeInfo} (ht : P.underlying t = some (.slice e)) (ht' : P.underlying t' = some (.slice e')) (hi : P.info? e = some i)
    {b o sLen sCap m : Nat} {x : Value} {news : List Value} {cs : Array Value} {et : TypeId} (hx : ∀ w' : World, (Builtin.lenOf x).run P w' = .ok m w')
    (hn : ∀ w' : World, w'.heap = w.heap → (Builtin.firstCells i.size m x).run P w' = .ok news.toArray w')
    (hheap : w.heap[b]? = some (.cells cs et (0, 0))) (hl : news.length = m * i.size) (h1 : ∀ u ∈ news, u.oneCell' = true) (hroom : sLen + m ≤ sCap) (hfit : o + sCap * i.size ≤ cs.size) :
    (Builtin.append_ #[t, t'] ty #[.slice (some ⟨b, o, none⟩) sLen sCap, x]).run P w =
      .ok (.slice (some ⟨b, o, none⟩) (sLen + m) sCap) (w.setRow b (cs.toList.take (o + sLen * i.size) ++ news ++ cs.toList.drop (o + sLen * i.size + news.length)).toArray) := by
  have hmul : sLen * i.size + m * i.size ≤ sCap * i.size := by rw [← Nat.add_mul]; exact Nat.mul_le_mul_right _ hroom
  have hst := run_storeCells_at P b (o + sLen * i.size) et news 0 cs w hheap (by omega) h1
  simp only [Nat.add_zero] at hst
  simp [Builtin.append_, run_und ht, run_und ht', sizeOf, typeInfo, hi, hx, hroom, hn w rfl, addr_add, hst]
end
end Go.Ev
end
section
/- Written by this session: who may append, and what an append makes of a frame of trees. Conditions: none beyond those in each statement. -/
namespace Go.Ev
open Go

section
variable {n : Nat} {W0 : World} {G0 : Gh} {c : Cfg} {a : Act} {w : World} {g : Gh}

theorem HwLe.of_heap {w w' : World} {hw : Hw} (h : w'.heap = w.heap) : HwLe w hw w' hw := fun _ h' e => ⟨h', e, Nat.le_refl _, fun _ _ => cell?_same (by rw [h])⟩

/-- A draw. -/
theorem Inv.drew (hi : Inv n W0 G0 c a w g) : Inv n W0 G0 c a w.drew g := by
  have E : Ext KeepS w g w.drew g := ⟨Nat.le_refl _, rfl, rfl, rfl, HwLe.of_heap rfl, fun _ _ h _ => ⟨h, rfl, rfl⟩, fun _ _ h => h, fun _ h => .inl h, fun _ _ L h => ⟨L, h, fun _ => rfl⟩, fun _ _ _ _ => rfl⟩
  refine hi.step ⟨hi.good.len, hi.good.nd, hi.good.nohw, fun i x b hx hb => ?_, hi.good.hw, hi.good.own, GlobOk.mono (w := w) (w' := w.drew) (HwLe.of_heap (w := w) (w' := w.drew) rfl) hi.good.glob⟩ E
  exact RepB.mono (w := w) (w' := w.drew) (g := g) (g' := g) (HwLe.of_heap rfl) (fun _ _ h => h) rfl (fun j b e => ⟨e, rfl, rfl⟩) (hi.good.box i x b hx hb)

def moved (s d : Loc) (L : Loc) : Loc := if L = s then d else L

/-- The right to append goes from one place to another. -/
theorem Good.relabel {mem : List Bx} {base : Nat} (G : Good w g mem base) {s : Nat} {d : Loc} :
    let g' : Gh := { g with own := fun b => (g.own b).map (moved (.slot s) d) }
    Good w g' mem base ∧ (∀ W0 G0, Ext (· = .ext) W0 G0 w g → Ext (· = .ext) W0 G0 w g') ∧ (∀ L k y, L ≠ .slot s → OwnAt w g L k y → OwnAt w g' L k y) ∧ (∀ k y, OwnAt w g (.slot s) k y → OwnAt w g' d k y) := by
  have O1 : ∀ L k y, L ≠ .slot s → OwnAt w g L k y → OwnAt w { g with own := fun b => (g.own b).map (moved (.slot s) d) } L k y := by
    intro L k y hL h
    obtain ⟨a, n, c, e, hn, h⟩ := h
    refine ⟨a, n, c, e, hn, h.imp id ?_⟩
    rintro ⟨b, o, h, cs, e, ea, h1, h2, h3, h4, h5⟩
    exact ⟨b, o, h, cs, e, ea, by simp [h1, moved, hL], h2, h3, h4, h5⟩
  refine ⟨⟨G.len, G.nd, G.nohw, fun i x b hx hb => ?_, G.hw, fun b L e => ?_, G.glob⟩, fun W0 G0 E => ?_, O1, ?_⟩
  · have := G.box i x b hx hb
    cases x with
    | cells l os =>
      obtain ⟨cs, e, h1, h2, h3⟩ := this
      exact ⟨cs, e, h1, h2, fun j hj => by
        obtain ⟨k, l', y, e1, e2, e3⟩ := h3 j hj
        exact ⟨k, l', y, e1, e2, O1 _ k y (by simp) e3⟩⟩
    | map l => exact this
  · simp only [Option.map_eq_some_iff] at e
    obtain ⟨L', e, _⟩ := e
    exact G.own b L' e
  · refine ⟨E.size, E.tape, E.os, E.output, E.hw, fun b L e hk => ?_, E.bs, E.bsnew, fun b hb L e => ?_, E.old⟩
    · obtain ⟨h1, h2, h3⟩ := E.ext b L e hk
      subst hk
      exact ⟨by simp [h1, moved], h2, h3⟩
    · simp only [Option.map_eq_some_iff] at e
      obtain ⟨L', e, rfl⟩ := e
      obtain ⟨L'', e', he⟩ := E.orig b hb L' e
      refine ⟨L'', e', fun hk => ?_⟩
      have := he hk
      subst this hk
      simp [moved]
  · intro k y h
    obtain ⟨a, n, c, e, hn, h⟩ := h
    refine ⟨a, n, c, e, hn, h.imp id ?_⟩
    rintro ⟨b, o, h, cs, e, ea, h1, h2, h3, h4, h5⟩
    exact ⟨b, o, h, cs, e, ea, by simp [h1, moved], h2, h3, h4, h5⟩

/-- A slot's value is put into another slot, and the right to append with it. -/
def Cfg.give (c : Cfg) (s d : Nat) : Cfg := { c with fr := (d, Fr.get c.fr s) :: c.fr, os := d :: c.os.filter fun i => !(Nat.beq i d || Nat.beq i s) }

theorem Inv.give (hi : Inv n W0 G0 c a w g) {s d : Nat} (hs : s ∈ c.os) (hd : d < n) (hsn : s < n) : ∃ g', Inv n W0 G0 (c.give s d) (a.put (some d) (a.tmps.getD s undef)) w g' := by
  obtain ⟨G', E', O1, O2⟩ := hi.good.relabel (s := s) (d := .slot d)
  refine ⟨_, ⟨by simpa [Act.put] using hi.size, hi.defers, fun i h => ?_, fun i h => ?_, G', E' _ _ hi.ext, hi.ecl, hi.b0⟩⟩
  · rw [getD_put (by rw [hi.size]; exact hd)]
    simp only [Cfg.give, Fr.get_cons]
    split
    · exact hi.fr s hsn
    · exact hi.fr i h
  · rw [getD_put (by rw [hi.size]; exact hd)]
    simp only [Cfg.give, Fr.get_cons] at h ⊢
    by_cases hdi : d = i
    · simp only [hdi, if_true]
      obtain ⟨k, l, h1, h2⟩ := hi.os s hs
      exact ⟨k, l, h1, hdi ▸ O2 k _ h2⟩
    · simp only [hdi, if_false]
      have hm : i ∈ c.os ∧ i ≠ s := by
        rcases List.mem_cons.1 h with h | h
        · exact absurd h.symm hdi
        · simp only [List.mem_filter, Bool.not_eq_true', Bool.or_eq_false_iff] at h
          exact ⟨h.1, fun e => by subst e; simp at h⟩
      obtain ⟨k, l, h1, h2⟩ := hi.os i hm.1
      exact ⟨k, l, h1, O1 _ k _ (by simp [hm.2]) h2⟩

theorem Inv.append {P : Program} (hi : Inv n W0 G0 c a w g) {t t' ty e e' : TypeId} {i : TypeInfo} {z : Value} {s d k : Nat} {l0 l1 : List AV} {y0 y1 : Value}
    (ht : P.underlying t = some (.slice e)) (ht' : P.underlying t' = some (.slice e')) (hin : P.info? e = some i) (hz : i.zero = some z) (hk : i.size = k) (hzk : z.cells.size = k)
    (hr0 : Rep w g.hw g.bs c.base (.sl k l0) y0) (ho : OwnAt w g (.slot s) k y0) (hr1 : Rep w g.hw g.bs c.base (.sl k l1) y1)
    (hb : (l0.length + l1.length) * i.bytes ≤ 140737488355328) (h47 : l0.length + l1.length ≤ 140737488355328) :
    ∃ v' w' g', (Builtin.append_ #[t, t'] ty #[y0, y1]).run P w = .ok v' w' ∧ Inv n W0 G0 { c with os := c.os.filter fun i => !Nat.beq i s } a w' g' ∧
      Rep w' g'.hw g'.bs c.base (.sl k (l0 ++ l1)) v' ∧ OwnAt w' g' (.slot d) k v' := by
  obtain ⟨A0, c0, olds, rfl, hE0, hf0⟩ := firstCells_of (P := P) hr0
  obtain ⟨A1, c1, news, rfl, hE1, hf1⟩ := firstCells_of (P := P) hr1
  have hk0 : 0 < k := by obtain ⟨_, _, _, _, h, _⟩ := rep_sl hr0; exact h
  have hlc : l0.length ≤ c0 := by obtain ⟨a', c', e, h, _⟩ := rep_sl hr0; simp at e; rw [e.2]; exact h
  have hx : ∀ w' : World, (Builtin.lenOf (.slice A1 l1.length c1)).run P w' = .ok l1.length w' := fun w' => by simp [Builtin.lenOf]
  have h63 : l0.length + l1.length ≤ maxLen := by simp only [maxLen]; omega
  have hl0 := RepE.len hE0
  have hl1 := RepE.len hE1
  have hweak : ∀ w' g', Inv n W0 G0 c a w' g' → Inv n W0 G0 { c with os := c.os.filter fun i => !Nat.beq i s } a w' g' := fun w' g' h =>
    ⟨h.size, h.defers, h.fr, fun j hj => h.os j (List.mem_filter.1 hj).1, h.good, h.ext, h.ecl, h.b0⟩
  have happ : ∀ {w1 : World} {hw1 : Hw} (l0 l1 : List AV) (o1 o2 : List Value), RepE w1 hw1 k l0 o1 → RepE w1 hw1 k l1 o2 → RepE w1 hw1 k (l0 ++ l1) (o1 ++ o2) := by
    intro w1 hw1 l0
    induction l0 with
    | nil => intro l1 o1 o2 h1 h2; simp only [RepE] at h1; subst h1; simpa using h2
    | cons x l0 ih =>
      intro l1 o1 o2 h1 h2
      simp only [RepE] at h1
      obtain ⟨q1, q2, q3⟩ := h1
      simp only [List.cons_append, RepE]
      refine ⟨by simp; omega, ?_, ?_⟩
      · rw [List.take_append_of_le_length q1]; exact q2
      · rw [List.drop_append_of_le_length q1]; exact ih l1 _ _ q3 h2
  have hrep0 := (rep_sl hr0)
  by_cases hroom : l0.length + l1.length ≤ c0 ∧ c0 ≠ 0
  · obtain ⟨hroom, hc0⟩ := hroom
    obtain ⟨A, n0, c', e0, _, hh⟩ := ho
    simp only [Value.slice.injEq] at e0
    obtain ⟨rfl, rfl, rfl⟩ := e0
    rcases hh with hh | ⟨b, o, h, cs, et, rfl, hown, hhw, hoh, hheap, hfit⟩
    · exact absurd hh hc0
    have hcs0 : ∃ cs0, RepE w g.hw k l0 cs0 ∧ CellsAt w b o cs0 := by
      obtain ⟨a', c', e1, _, _, hh⟩ := hrep0
      simp only [Value.slice.injEq] at e1
      rcases hh with rfl | ⟨b', o', cs0, e2, hc, hr⟩
      · exact ⟨[], by simp [RepE], fun j v hj => by simp at hj⟩
      · rw [← e1.1] at e2
        simp only [Option.some.injEq, Addr.mk.injEq] at e2
        obtain ⟨rfl, rfl, _⟩ := e2
        exact ⟨cs0, hr, hc.at⟩
    obtain ⟨cs0, hE0', hcells0⟩ := hcs0
    have hl0' := RepE.len hE0'
    have hone : ∀ u ∈ news, u.oneCell' = true := by
      have : ∀ (l : List AV) (vs : List Value), RepE w g.hw k l vs → ∀ u ∈ vs, u.oneCell' = true := by
        intro l
        induction l with
        | nil => intro vs h; simp only [RepE] at h; subst h; simp
        | cons x l ih =>
          intro vs h u hu
          simp only [RepE] at h
          obtain ⟨q1, q2, q3⟩ := h
          rw [← List.take_append_drop k vs] at hu
          rcases List.mem_append.1 hu with hu | hu
          · have hL := repV_leaves q2.1 q2.2
            have : ∀ (l : List AV) (vs : List Value), RepL w g.hw [] 0 l vs → ∀ u ∈ vs, u.oneCell' = true := by
              intro l
              induction l with
              | nil => intro vs h; simp only [RepL] at h; subst h; simp
              | cons x l ih =>
                intro vs h u hu
                simp only [RepL] at h
                obtain ⟨v, vs', rfl, h1, h2⟩ := h
                rcases List.mem_cons.1 hu with rfl | hu
                · exact h1.2.2
                · exact ih _ h2 u hu
            exact this _ _ hL u hu
          · exact ih _ q3 u hu
      exact this l1 news hE1
    subst hk
    have hrun := run_append_fits (w := w) (ty := ty) ht ht' hin hx hf1 hheap hl1 hone hroom hfit
    have hmul : l0.length * i.size + l1.length * i.size ≤ c0 * i.size := by rw [← Nat.add_mul]; exact Nat.mul_le_mul_right _ hroom
    let cs' : Array Value := (cs.toList.take (o + l0.length * i.size) ++ news ++ cs.toList.drop (o + l0.length * i.size + news.length)).toArray
    have hsz' : cs'.size = cs.size := by
      simp only [cs', List.size_toArray, List.length_append, List.length_take, List.length_drop, Array.length_toList]; omega
    let g' : Gh := { g with hw := upd g.hw b (some (h + news.length)), own := upd g.own b (some (.slot d)) }
    have hheap' : (w.setRow b cs').heap[b]? = some (.cells cs' et (0, 0)) := setRow_heap w b cs cs' et (0, 0) hheap
    have hcell : ∀ x, (w.setRow b cs').cell? ⟨b, x, none⟩ = cs'[x]? := fun x => by
      unfold World.cell?
      rw [hheap']
      rfl
    have hoth : ∀ b', b' ≠ b → (w.setRow b cs').heap[b']? = w.heap[b']? := fun b' hb' => setRow_other w b b' cs' hb'
    have hbnot : b ∉ g.bs := fun hb' => by have := hi.good.nohw b hb'; rw [hhw] at this; cases this
    have hH : HwLe w g.hw (w.setRow b cs') g'.hw := by
      intro b' h' e'
      by_cases hb' : b' = b
      · subst hb'
        rw [hhw] at e'
        cases e'
        refine ⟨h + news.length, upd_same _ _ _, by omega, fun o' ho' => ?_⟩
        rcases ho' with ho' | ho'
        · simp only [World.cell?, hheap', hheap, Option.isSome_none, Bool.false_eq_true, if_false]
          simp only [cs', List.getElem?_toArray, List.append_assoc]
          rw [List.getElem?_append_left (by simp; omega), List.getElem?_take, if_pos (by omega)]
          simp
        · rw [ho', hcell]
          simp only [World.cell?, hheap, Option.isSome_none, Bool.false_eq_true, if_false, Array.getElem?_eq_none_iff] at ho'
          rw [Array.getElem?_eq_none_iff]; omega
      · exact ⟨h', by rw [show g'.hw b' = g.hw b' from upd_ne _ _ hb']; exact e', Nat.le_refl _, fun _ _ => cell?_same (hoth b' hb')⟩
    have hOwn : ∀ L, L ≠ .slot s → ∀ b', g.own b' = some L → g'.own b' = some L ∧ g'.hw b' = g.hw b' ∧ (w.setRow b cs').heap[b']? = w.heap[b']? := fun L hL b' e' => by
      have hb' : b' ≠ b := by rintro rfl; rw [hown] at e'; cases e'; exact hL rfl
      exact ⟨by rw [show g'.own b' = g.own b' from upd_ne _ _ hb']; exact e', upd_ne _ _ hb', hoth b' hb'⟩
    have hGood : Good (w.setRow b cs') g' c.mem c.base := by
      refine ⟨hi.good.len, hi.good.nd, fun b' hb' => ?_, fun j x b' hx hb' => ?_, fun b' h' e' => ?_, fun b' L e' => ?_, hi.good.glob.mono hH⟩
      · have : b' ≠ b := fun e => hbnot (e ▸ hb')
        rw [show g'.hw b' = g.hw b' from upd_ne _ _ this]; exact hi.good.nohw b' hb'
      · have : b' ≠ b := fun e => hbnot (e ▸ List.mem_of_getElem? hb')
        exact RepB.mono (g := g) (g' := g') hH (fun _ _ h => h) (hoth b' this) (fun q b'' e => hOwn _ (by simp) b'' e) (hi.good.box j x b' hx hb')
      · by_cases hb' : b' = b
        · subst hb'
          rw [show g'.hw b' = some (h + news.length) from upd_same _ _ _] at e'
          cases e'
          exact ⟨cs', et, (0, 0), hheap', by rw [hsz']; omega⟩
        · rw [show g'.hw b' = g.hw b' from upd_ne _ _ hb'] at e'
          obtain ⟨q1, q2, q3, q4, q5⟩ := hi.good.hw b' h' e'
          exact ⟨q1, q2, q3, (hoth b' hb').trans q4, q5⟩
      · by_cases hb' : b' = b
        · subst hb'; exact ⟨_, upd_same _ _ _⟩
        · rw [show g'.own b' = g.own b' from upd_ne _ _ hb'] at e'
          rw [show g'.hw b' = g.hw b' from upd_ne _ _ hb']
          exact hi.good.own b' L e'
    have hExt : Ext (· = .ext) w g (w.setRow b cs') g' := by
      refine ⟨by simp [World.setRow], rfl, rfl, rfl, hH, fun b' L e' hL => ?_, fun _ _ h => h, fun _ h => .inl h, fun b' _ L e' => ?_, fun b' _ _ hk' => ?_⟩
      · subst hL; exact hOwn .ext (by simp) b' e'
      · by_cases hb' : b' = b
        · subst hb'; exact ⟨.slot s, hown, fun h => by cases h⟩
        · rw [show g'.own b' = g.own b' from upd_ne _ _ hb'] at e'
          exact ⟨L, e', fun _ => rfl⟩
      · refine hoth b' ?_
        rintro rfl
        have := hk' _ hown
        cases this
    refine ⟨_, _, g', hrun, ⟨hi.size, hi.defers, fun j hj => (hi.fr j hj).mono hH (fun _ _ h => h), fun j hj => ?_, hGood, hi.ext.trans hExt, hi.ecl, hi.b0⟩, ?_, ?_⟩
    · have hj' := List.mem_filter.1 hj
      have hne : j ≠ s := by rintro rfl; simp at hj'
      obtain ⟨k, l, h1, h2⟩ := hi.os j hj'.1
      exact ⟨k, l, h1, h2.mono fun b' e' => hOwn _ (by simp [hne]) b' e'⟩
    · refine rep_sl_mk (by simp) (by simp; omega) ⟨hk0, by simp; omega⟩ (.inr ⟨b, o, cs0 ++ news, rfl, ⟨h + news.length, upd_same _ _ _, by simp; omega, fun j v hj => ?_⟩, happ _ _ _ _ (RepE.mono hH _ _ hE0') (RepE.mono hH _ _ hE1)⟩)
      rcases Nat.lt_or_ge j cs0.length with hjl | hjl
      · rw [List.getElem?_append_left hjl] at hj
        obtain ⟨_, _, _, hsame⟩ := hH b h hhw
        rw [hsame (o + j) (by omega)]
        exact hcells0 j v hj
      · rw [List.getElem?_append_right hjl] at hj
        have hjn : j - cs0.length < news.length := by
          rcases Nat.lt_or_ge (j - cs0.length) news.length with h | h
          · exact h
          · rw [List.getElem?_eq_none h] at hj; cases hj
        rw [hcell]
        simp only [cs', List.getElem?_toArray, List.append_assoc]
        have hlen : (List.take (o + l0.length * i.size) cs.toList).length = o + l0.length * i.size := by simp; omega
        rw [List.getElem?_append_right (by rw [hlen]; omega), hlen, List.getElem?_append_left (by omega), show o + j - (o + l0.length * i.size) = j - cs0.length from by omega]
        exact hj
    · exact ⟨_, _, _, rfl, hroom, .inr ⟨b, o, h + news.length, cs', et, rfl, upd_same _ _ _, upd_same _ _ _, by rw [← hoh, hl1, Nat.add_mul]; omega, hheap', by rw [hsz']; exact hfit⟩⟩
  · by_cases hz0 : c0 = 0 ∧ l1.length = 0
    · obtain ⟨rfl, h1⟩ := hz0
      have e1 : l1 = [] := List.eq_nil_of_length_eq_zero h1
      have e0 : l0 = [] := List.eq_nil_of_length_eq_zero (by omega)
      subst e1 e0
      simp only [RepE] at hE1
      subst hE1
      refine ⟨.slice A0 0 0, w, g, ?_, hweak w g hi, rep_sl_mk rfl (by simp) ⟨hk0, by simp⟩ (.inl rfl), ⟨_, _, _, rfl, Nat.le_refl _, .inl rfl⟩⟩
      have hf := hf1 w rfl
      rw [← hk] at hf
      simp only [List.length_nil] at hf
      cases A0 <;> simp [Builtin.append_, run_und ht, run_und ht', sizeOf, typeInfo, hin, Builtin.lenOf, hf, storeCells]
    · have hg : c0 < l0.length + l1.length := by
        rcases Nat.lt_or_ge c0 (l0.length + l1.length) with h | h
        · exact h
        · exact absurd ⟨h, fun e => hz0 ⟨e, by omega⟩⟩ hroom
      subst hk
      have hrun := run_append_grows (w := w) (ty := ty) ht ht' hin hz hx hf0 hf1 hg hb h63
      have hge := grownCap_ge w (l0.length + l1.length) c0 e
      have hi' := (hweak w g hi).drew
      have hE := happ _ _ _ _ hE0 hE1
      have hE' : RepE w.drew g.hw i.size (l0 ++ l1) (olds ++ news) := RepE.mono (w := w) (w' := w.drew) (HwLe.of_heap rfl) _ _ hE
      obtain ⟨g', hI, hR, hO⟩ := hi'.newArr (rest := (Builtin.zeroCells z.cells (grownCap w (l0.length + l1.length) c0 e - (l0.length + l1.length))).toList) (e := e) hk0 hE' d (grownCap w (l0.length + l1.length) c0 e) (by simp; omega) (by simpa using hge) (by
        have : (Builtin.zeroCells z.cells (grownCap w (l0.length + l1.length) c0 e - (l0.length + l1.length))).toList.length = (grownCap w (l0.length + l1.length) c0 e - (l0.length + l1.length)) * i.size := by
          simp [Builtin.zeroCells, hzk]
        rw [this, List.length_append, hl0, hl1, ← Nat.add_mul, ← Nat.add_mul]
        exact Nat.mul_le_mul_right _ (by omega))
      have ecs : (olds ++ news ++ (Builtin.zeroCells z.cells (grownCap w (l0.length + l1.length) c0 e - (l0.length + l1.length))).toList).toArray = olds.toArray ++ news.toArray ++ Builtin.zeroCells z.cells (grownCap w (l0.length + l1.length) c0 e - (l0.length + l1.length)) := by
        apply Array.toList_inj.1; simp only [Array.toList_append, List.append_assoc]
      rw [ecs] at hI hR hO
      rw [List.length_append] at hR hO
      exact ⟨_, _, g', hrun, hI, hR, hO⟩
end
end Go.Ev
end
section
/- Written by this session: stores into boxes, over trees. Conditions: none beyond those in each statement. -/
namespace Go.Ev
open Go

structure OneBlk (w w' : World) (b : Nat) (o : Obj) : Prop where
  size : w'.heap.size = w.heap.size
  tape : w'.tape = w.tape
  os : w'.os = w.os
  output : w'.output = w.output
  blk : w'.heap[b]? = some o
  oth : ∀ b', b' ≠ b → w'.heap[b']? = w.heap[b']?

theorem oneBlk_setRow {w : World} {b : Nat} {cs cs' : Array Value} {e : TypeId} (h : w.heap[b]? = some (.cells cs e (0, 0))) : OneBlk w (w.setRow b cs') b (.cells cs' e (0, 0)) :=
  ⟨by simp [World.setRow], rfl, rfl, rfl, setRow_heap w b cs cs' e (0, 0) h, fun b' hb => setRow_other w b b' cs' hb⟩
theorem oneBlk_setObj {w : World} {b : Nat} {o o' : Obj} (h : w.heap[b]? = some o) : OneBlk w { w with heap := w.heap.setIfInBounds b o' } b o' :=
  ⟨by simp, rfl, rfl, rfl, by simp [heap_lt h], fun b' hb => by simp [Ne.symm hb]⟩

section
variable {w w' : World} {g : Gh} {mem : List Bx} {base : Nat}

theorem Good.write (G : Good w g mem base) {q b : Nat} {x x' : Bx} {o : Obj} (hx : mem[q]? = some x) (hb : g.bs[q]? = some b) (W : OneBlk w w' b o)
    (hn : HwLe w g.hw w' g.hw → (∀ L b', g.own b' = some L → g.own b' = some L ∧ g.hw b' = g.hw b' ∧ w'.heap[b']? = w.heap[b']?) → RepB w' g base q x' b) :
    Good w' g (mem.set q x') base ∧ Ext KeepS w g w' g := by
  have hbm : b ∈ g.bs := List.mem_of_getElem? hb
  have hne : ∀ b' h, g.hw b' = some h → b' ≠ b := fun b' h e hb' => by subst hb'; rw [G.nohw _ hbm] at e; cases e
  have hH : HwLe w g.hw w' g.hw := fun b' h e => ⟨h, e, Nat.le_refl _, fun _ _ => cell?_same (W.oth b' (hne b' h e))⟩
  have hO : ∀ L b', g.own b' = some L → g.own b' = some L ∧ g.hw b' = g.hw b' ∧ w'.heap[b']? = w.heap[b']? := fun L b' e => by
    obtain ⟨h, eh⟩ := G.own b' L e
    exact ⟨e, rfl, W.oth b' (hne b' h eh)⟩
  refine ⟨⟨by rw [G.len]; simp, G.nd, G.nohw, fun i y b' hy hb' => ?_, fun b' h e => ?_, G.own, G.glob.mono hH⟩, ?_⟩
  · have hq : q < mem.length := by
      rcases Nat.lt_or_ge q mem.length with h | h
      · exact h
      · rw [List.getElem?_eq_none h] at hx; cases hx
    by_cases hi : i = q
    · subst hi
      rw [List.getElem?_set_self hq] at hy
      rw [hb] at hb'
      cases hy; cases hb'
      exact hn hH hO
    · rw [List.getElem?_set_ne (Ne.symm hi)] at hy
      have hbb : b' ≠ b := by
        rintro rfl
        apply hi
        have h1 := (List.getElem?_eq_some_iff.1 hb')
        have h2 := (List.getElem?_eq_some_iff.1 hb)
        exact (List.getElem_inj G.nd (h₀ := h1.1) (h₁ := h2.1)).1 (h1.2.trans h2.2.symm)
      exact RepB.mono (g := g) (g' := g) hH (fun _ _ h => h) (W.oth b' hbb) (fun j b e => hO _ b e) (G.box i y b' hy hb')
  · obtain ⟨cs, et, f, h1, h2⟩ := G.hw b' h e
    exact ⟨cs, et, f, (W.oth b' (hne b' h e)).trans h1, h2⟩
  · exact ⟨by rw [W.size]; exact Nat.le_refl _, W.tape, W.os, W.output, hH, fun b' L e _ => hO L b' e, fun _ _ h => h, fun _ h => .inl h, fun _ _ L h => ⟨L, h, fun _ => rfl⟩, fun b' _ hb' _ => W.oth b' fun e => hb' (e ▸ hbm)⟩

theorem RepL.append {hw : Hw} {bs : List Nat} : ∀ {l1 l2 : List AV} {v1 v2 : List Value}, RepL w hw bs base l1 v1 → RepL w hw bs base l2 v2 → RepL w hw bs base (l1 ++ l2) (v1 ++ v2)
  | [], _, _, _, h1, h2 => by simp only [RepL] at h1; subst h1; simpa using h2
  | x :: l1, l2, _, v2, h1, h2 => by
    simp only [RepL] at h1
    obtain ⟨v, vs', rfl, h3, h4⟩ := h1
    simp only [List.cons_append, RepL]
    exact ⟨v, _, rfl, h3, RepL.append h4 h2⟩
end

def wrL {α : Type} (l : List α) (off : Nat) (xs : List α) : List α := l.take off ++ xs ++ l.drop (off + xs.length)

theorem wrL_get {α : Type} {l : List α} {off : Nat} {xs : List α} (h : off + xs.length ≤ l.length) {j : Nat} (hj : j < off ∨ off + xs.length ≤ j) : (wrL l off xs)[j]? = l[j]? := by
  unfold wrL
  rcases hj with hj | hj
  · rw [List.append_assoc, List.getElem?_append_left (by simp; omega), List.getElem?_take, if_pos hj]
  · have h1 : (l.take off ++ xs).length = off + xs.length := by simp; omega
    rw [List.getElem?_append_right (by rw [h1]; exact hj), h1, List.getElem?_drop]
    congr 1; omega
theorem wrL_at {α : Type} {l : List α} {off : Nat} {x : α} (h : off < l.length) : (wrL l off [x])[off]? = some x := by
  unfold wrL
  have h1 : (l.take off).length = off := by simp; omega
  rw [List.append_assoc, List.getElem?_append_right (by rw [h1]; exact Nat.le_refl _), h1]
  simp

theorem rep_cells {w : World} {hw : Hw} {bs : List Nat} {base : Nat} {x : AV} {y : Value} (hx : x.isAgg = true ∨ x.isLeaf = true) (h : Rep w hw bs base x y) :
    RepL w hw bs base x.leaves y.cells.toList ∧ y.cells.size = x.leaves.length := by
  have key : RepL w hw bs base x.leaves y.cells.toList := by
    rcases hx with hx | hx
    · cases x <;> simp only [AV.isAgg] at hx <;> try cases hx
      obtain ⟨cs, rfl, hr⟩ := rep_agg h
      simpa [Value.cells, AV.leaves] using hr
    · obtain ⟨h1, h2, h3⟩ := rep_isLeaf hx h
      have e1 := cells_toList_of (visAgg_of h3)
      rw [e1]
      have : x.leaves = [x] := by cases x <;> simp_all [AV.leaves, AV.isAgg]
      rw [this]
      simp only [RepL]
      exact ⟨y, [], rfl, ⟨h1, h2, h3⟩, rfl⟩
  exact ⟨key, by have := RepL.length key; simpa using this⟩

theorem oneCells {w : World} {hw : Hw} {bs : List Nat} {base : Nat} : ∀ {l : List AV} {vs : List Value}, RepL w hw bs base l vs → ∀ u ∈ vs, u.oneCell' = true
  | [], _, h, u, hu => by simp only [RepL] at h; subst h; cases hu
  | x :: l, _, h, u, hu => by
    simp only [RepL] at h
    obtain ⟨v, vs', rfl, h1, h2⟩ := h
    rcases List.mem_cons.1 hu with rfl | hu
    · exact h1.2.2
    · exact oneCells h2 u hu

section
variable {n : Nat} {W0 : World} {G0 : Gh} {c : Cfg} {a : Act} {w : World} {g : Gh} {P : Program}

theorem run_storeVar {t : TypeId} {b off : Nat} {cs : Array Value} {e : TypeId} {v : Value} (ht : (P.underlying t).isSome = true) (hsz : v.cells.size = P.cellsOf t) (hheap : w.heap[b]? = some (.cells cs e (0, 0)))
    (hfit : off + v.cells.size ≤ cs.size) (h1 : ∀ u ∈ v.cells.toList, u.oneCell' = true) :
    (storeVar t ⟨b, off, none⟩ v).run P w = .ok () (w.setRow b (wrL cs.toList off v.cells.toList).toArray) := by
  have hst := run_storeCells_at P b off e v.cells.toList 0 cs w hheap (by simpa using hfit) h1
  simp only [Nat.add_zero] at hst
  simp only [storeVar, Sem.run_bind, run_size (info_of_und ht), Result.andThen_ok, hsz, ne_eq, not_true_eq_false, if_false, Sem.run_ite]
  simpa [wrL] using hst

/-- A store into a box of one's own. -/
theorem Inv.store (hi : Inv n W0 G0 c a w g) {t : TypeId} {i off b : Nat} {l : List AV} {os : List Nat} {x : AV} {y : Value} (ht : (P.underlying t).isSome = true) (hx : x.isAgg = true ∨ x.isLeaf = true)
    (hb : g.bs[c.base + i]? = some b) (hbox : c.own[i]? = some (.cells l os)) (hr : Rep w g.hw g.bs c.base x y) (hsz : x.leaves.length = P.cellsOf t) (hfit : off + x.leaves.length ≤ l.length) :
    ∃ w', (storeVar t ⟨b, off, none⟩ y).run P w = .ok () w' ∧
      Inv n W0 G0 { c with own := c.own.set i (.cells (wrL l off x.leaves) (os.filter fun j => decide (j < off ∨ off + x.leaves.length ≤ j))) } a w' g ∧
      (∀ k, OwnAt w g (.cell (c.base + i) off) k y → (∃ l', x = .sl k l') → Inv n W0 G0 { c with own := c.own.set i (.cells (wrL l off x.leaves) (off :: os.filter fun j => decide (j < off ∨ off + x.leaves.length ≤ j))) } a w' g) := by
  obtain ⟨cs, e, hheap, hrl, hos⟩ := hi.good.own_box hbox hb
  obtain ⟨hc, hcs⟩ := rep_cells hx hr
  have hlen := RepL.length hrl
  simp only [Array.length_toList] at hlen
  have hrun := run_storeVar (P := P) (w := w) (off := off) ht (by rw [hcs]; exact hsz) hheap (by rw [hcs, hlen]; exact hfit) (oneCells hc)
  have W := oneBlk_setRow (cs' := (wrL cs.toList off y.cells.toList).toArray) hheap
  have hmem : c.mem[c.base + i]? = some (.cells l os) := by
    simp only [Cfg.mem, Cfg.base]
    rw [List.getElem?_append_right (by omega)]
    simpa using hbox
  have hset : ∀ x', c.mem.set (c.base + i) x' = c.env ++ c.own.set i x' := fun x' => by
    simp only [Cfg.mem, Cfg.base]
    rw [List.set_append_right _ _ (by omega)]
    simp
  have hL : y.cells.toList.length = x.leaves.length := by simpa using hcs
  have main : ∀ os', (∀ j ∈ os', (j ∈ os ∧ (j < off ∨ off + x.leaves.length ≤ j)) ∨ (∃ k l', j = off ∧ x = .sl k l' ∧ OwnAt w g (.cell (c.base + i) off) k y)) →
      Inv n W0 G0 { c with own := c.own.set i (.cells (wrL l off x.leaves) os') } a (w.setRow b (wrL cs.toList off y.cells.toList).toArray) g := by
    intro os' hos'
    obtain ⟨G', E'⟩ := hi.good.write (x' := .cells (wrL l off x.leaves) os') hmem hb W fun hH hO => by
      refine ⟨_, e, W.blk, ?_, fun j hj => ?_⟩
      · have h1 := RepL.mono hH (fun _ _ h => h) _ _ hrl
        have h2 := RepL.mono hH (fun _ _ h => h) _ _ hc
        rw [show (wrL cs.toList off y.cells.toList).toArray.toList = cs.toList.take off ++ y.cells.toList ++ cs.toList.drop (off + x.leaves.length) from by simp only [wrL, hL]]
        exact ((h1.take off).append h2).append (h1.drop (off + x.leaves.length))
      · rcases hos' j hj with ⟨hj, hjr⟩ | ⟨k, l', rfl, rfl, ho⟩
        · obtain ⟨k, l', v, e1, e2, e3⟩ := hos j hj
          refine ⟨k, l', v, by rw [wrL_get hfit hjr]; exact e1, ?_, e3.mono fun b' e => hO _ b' e⟩
          rw [List.getElem?_toArray, wrL_get (by rw [hL]; simpa [hlen] using hfit) (by rw [hL]; exact hjr)]
          simpa using e2
        · have hlf : (AV.sl k l').leaves = [.sl k l'] := rfl
          have hyc : y.cells.toList = [y] := by
            obtain ⟨a', c', e', _⟩ := rep_sl hr
            subst e'; rfl
          refine ⟨k, l', y, ?_, ?_, ho.mono fun b' e => hO _ b' e⟩
          · rw [hlf]; rw [hlf] at hfit; exact wrL_at (by simp only [List.length_singleton] at hfit; omega)
          · rw [hyc, List.getElem?_toArray]
            rw [hlf] at hfit
            exact wrL_at (by simp only [Array.length_toList, hlen]; simp only [List.length_singleton] at hfit; omega)
    have hi' : Inv n W0 G0 { c with own := c.own.set i (.cells (wrL l off x.leaves) os') } a (w.setRow b (wrL cs.toList off y.cells.toList).toArray) g := by
      refine ⟨hi.size, hi.defers, fun j hj => (hi.fr j hj).mono E'.hw E'.bs, fun j hj => ?_, ?_, hi.ext.trans (E'.weaken (by rintro L rfl; intro i j; simp)), hi.ecl, hi.b0⟩
      · obtain ⟨k, l, h1, h2⟩ := hi.os j hj
        exact ⟨k, l, h1, h2.mono fun b hb => E'.ext b _ hb (by intro i j; simp)⟩
      · have := G'
        rw [hset] at this
        exact this
    exact hi'
  refine ⟨_, hrun, main _ fun j hj => .inl ?_, fun k ho hx' => main _ fun j hj => ?_⟩
  · simpa using hj
  · rcases List.mem_cons.1 hj with rfl | hj
    · obtain ⟨l', hx'⟩ := hx'
      exact .inr ⟨k, l', rfl, hx', ho⟩
    · exact .inl (by simpa using hj)

/-- A box's new content. -/
theorem Inv.writeAt (hi : Inv n W0 G0 c a w g) {q b : Nat} {x x' : Bx} {o : Obj} {w' : World} (hx : c.mem[q]? = some x) (hb : g.bs[q]? = some b) (W : OneBlk w w' b o)
    (hn : HwLe w g.hw w' g.hw → (∀ L b', g.own b' = some L → g.own b' = some L ∧ g.hw b' = g.hw b' ∧ w'.heap[b']? = w.heap[b']?) → RepB w' g c.base q x' b)
    (c' : Cfg) (e1 : c'.fr = c.fr) (e2 : c'.os = c.os) (e3 : c'.mem = c.mem.set q x') (e4 : c'.base = c.base) (e5 : ∀ x ∈ c'.env, Bx.cl c.base 0 x) : Inv n W0 G0 c' a w' g := by
  obtain ⟨G', E'⟩ := hi.good.write (x' := x') hx hb W hn
  refine ⟨hi.size, hi.defers, fun j hj => ?_, fun j hj => ?_, by rw [e3, e4]; exact G', hi.ext.trans (E'.weaken (by rintro L rfl; intro i j; simp)), by rw [e4]; exact e5, by rw [e4]; exact hi.b0⟩
  · rw [e1, e4]; exact (hi.fr j hj).mono E'.hw E'.bs
  · rw [e2] at hj
    rw [e1]
    obtain ⟨k, l, h1, h2⟩ := hi.os j hj
    exact ⟨k, l, h1, h2.mono fun b hb => E'.ext b _ hb (by intro i j; simp)⟩

theorem mem_own {i : Nat} {x : Bx} (h : c.own[i]? = some x) : c.mem[c.base + i]? = some x := by
  simp only [Cfg.mem, Cfg.base]
  rw [List.getElem?_append_right (by omega)]
  simpa using h
theorem mem_env {i : Nat} {x : Bx} (h : c.env[i]? = some x) : c.mem[i]? = some x := by
  simp only [Cfg.mem]
  rw [List.getElem?_append_left (List.getElem?_eq_some_iff.1 h).1]
  exact h
theorem set_own {i : Nat} {x : Bx} : ({ c with own := c.own.set i x } : Cfg).mem = c.mem.set (c.base + i) x := by
  simp only [Cfg.mem, Cfg.base]
  rw [List.set_append_right _ _ (by omega)]
  simp
theorem set_env {i : Nat} {x : Bx} (h : i < c.env.length) : ({ c with env := c.env.set i x } : Cfg).mem = c.mem.set i x := by
  simp only [Cfg.mem]
  rw [List.set_append_left _ _ h]
theorem ecl_set {i : Nat} {x : Bx} (h : ∀ y ∈ c.env, Bx.cl c.base 0 y) (hx : Bx.cl c.base 0 x) : ∀ y ∈ c.env.set i x, Bx.cl c.base 0 y := fun y hy => by
  rcases List.mem_or_eq_of_mem_set hy with h' | rfl
  · exact h y h'
  · exact hx

open Go.MapKept in
theorem findNow_setM {w : World} {hw : Hw} {s : ByteArray} {v : AV} {y : Value} (hv : Rep1 w hw [] 0 v y) : ∀ (l : List (ByteArray × AV)) (es : List MapEntry) (i : Nat), RepM w hw l es →
    (∃ j e, Instr.findNow .string (.string s) es i = some (some (i + j, e.val)) ∧ es[j]? = some e ∧ e.key = .string s ∧ RepM w hw (setM l s v) (es.modify j fun e => { e with key := .string s, val := y })) ∨
    (Instr.findNow .string (.string s) es i = some none ∧ ∀ b, RepM w hw (setM l s v) (es ++ [⟨.string s, y, b⟩]))
  | [], _, i, h => by
    simp only [RepM] at h; subst h
    exact .inr ⟨rfl, fun b => by simp only [setM, RepM, List.nil_append]; exact ⟨_, _, rfl, rfl, hv, rfl⟩⟩
  | (k, x) :: l, _, i, h => by
    simp only [RepM] at h
    obtain ⟨e, es, rfl, hk, hx, hr⟩ := h
    by_cases hs : s = k
    · subst hs
      have hb : (s == s) = true := (bytes_beq s s).2 rfl
      refine .inl ⟨0, e, by simp [Instr.findNow, hk, Instr.sameNow, hb], rfl, hk, ?_⟩
      simp only [setM, if_true, List.modify_zero_cons, RepM]
      exact ⟨_, _, rfl, rfl, hv, hr⟩
    · have hb : (s == k) = false := Bool.eq_false_iff.2 fun h => hs ((bytes_beq s k).1 h)
      rcases findNow_setM hv l es (i + 1) hr with ⟨j, e', h2, h3, h4, h5⟩ | ⟨h2, h5⟩
      · refine .inl ⟨j + 1, e', by simp only [Instr.findNow, hk, Instr.sameNow, hb, h2, show i + 1 + j = i + (j + 1) from by omega], by simpa using h3, h4, ?_⟩
        simp only [setM, if_neg hs, List.modify_succ_cons, RepM]
        exact ⟨_, _, rfl, hk, hx, h5⟩
      · refine .inr ⟨by simp only [Instr.findNow, hk, Instr.sameNow, hb, h2], fun b => ?_⟩
        simp only [setM, if_neg hs, List.cons_append, RepM]
        exact ⟨_, _, rfl, hk, hx, h5 b⟩

open Go.MapKept in
theorem mapUpdate_run {t kt et : TypeId} {b : Nat} {es : Array MapEntry} {clock : Nat} {hw : Hw} {l : List (ByteArray × AV)} {s : ByteArray} {v : AV} {y : Value} (ht : P.underlying t = some (.map kt et)) (hkt : P.underlying kt = some .string)
    (hheap : w.heap[b]? = some (.map es clock)) (hM : RepM w hw l es.toList) (hv : Rep1 w hw [] 0 v y) :
    ∃ es' clock', (Instr.mapUpdate t (.map (some b)) (.string s) y).run P w = .ok () { w with heap := w.heap.setIfInBounds b (.map es' clock') } ∧ RepM w hw (setM l s v) es'.toList := by
  have hck : (Instr.checkKey false 10000 kt (.string s)).run P w = .ok () w := run_checkKey hkt (by simp [IsKey]) false 9999
  rcases findNow_setM (s := s) hv l es.toList 0 hM with ⟨j, e, h2, h3, h4, h5⟩ | ⟨h2, h5⟩
  · have hf := run_findKey (w := w) hkt h2
    have hks : (Instr.keyThatStays (.string s) (.string s)).run P w = .ok (.string s) w := run_keyThatStays (d := .string) (by simp [IsKey])
    have hej : es[j]? = some e := by simpa using h3
    refine ⟨es.modify j fun e => { e with key := .string s, val := y }, clock, ?_, by simpa using h5⟩
    simp only [Instr.mapUpdate, Sem.run_bind, run_und ht, Result.andThen_ok, Go.MapKept.run_getObj_map hheap, hck, hf, Nat.zero_add, hej, Option.map_some, Option.getD_some, h4, hks, Go.MapKept.run_setObj_map _ hheap]
  · have hf := run_findKey (w := w) hkt h2
    refine ⟨es.push ⟨.string s, y, clock⟩, clock + 1, ?_, by simpa using h5 clock⟩
    simp only [Instr.mapUpdate, Sem.run_bind, run_und ht, Result.andThen_ok, Go.MapKept.run_getObj_map hheap, hck, hf, Go.MapKept.run_setObj_map _ hheap]
end
end Go.Ev
end
section
/- Written by this session: stores into any box, and the right to append taken out of one. Conditions: none beyond those in each statement. -/
namespace Go.Ev
open Go

section
variable {n : Nat} {W0 : World} {G0 : Gh} {c : Cfg} {a : Act} {w : World} {g : Gh} {P : Program}

/-- A store into a box, one's own or of the surroundings. -/
theorem Inv.storeAt (hi : Inv n W0 G0 c a w g) {t : TypeId} {q off b : Nat} {l : List AV} {os : List Nat} {x : AV} {y : Value} (ht : (P.underlying t).isSome = true) (hx : x.isAgg = true ∨ x.isLeaf = true)
    (hb : g.bs[q]? = some b) (hbox : c.mem[q]? = some (.cells l os)) (hr : Rep w g.hw g.bs c.base x y) (hsz : x.leaves.length = P.cellsOf t) (hfit : off + x.leaves.length ≤ l.length) :
    ∃ w', (storeVar t ⟨b, off, none⟩ y).run P w = .ok () w' ∧
      ∀ os', (∀ j ∈ os', (j ∈ os ∧ (j < off ∨ off + x.leaves.length ≤ j)) ∨ (∃ k l', j = off ∧ x = .sl k l' ∧ OwnAt w g (.cell q off) k y)) →
      ∀ c' : Cfg, c'.fr = c.fr → c'.os = c.os → c'.mem = c.mem.set q (.cells (wrL l off x.leaves) os') → c'.base = c.base → (∀ x ∈ c'.env, Bx.cl c.base 0 x) → Inv n W0 G0 c' a w' g := by
  obtain ⟨cs, e, hheap, hrl, hos⟩ := hi.good.box q _ b hbox hb
  obtain ⟨hc, hcs⟩ := rep_cells hx hr
  have hlen := RepL.length hrl
  simp only [Array.length_toList] at hlen
  have hrun := run_storeVar (P := P) (w := w) (off := off) ht (by rw [hcs]; exact hsz) hheap (by rw [hcs, hlen]; exact hfit) (oneCells hc)
  have W := oneBlk_setRow (cs' := (wrL cs.toList off y.cells.toList).toArray) hheap
  have hL : y.cells.toList.length = x.leaves.length := by simpa using hcs
  refine ⟨_, hrun, fun os' hos' c' e1 e2 e3 e4 e5 => hi.writeAt hbox hb W (fun hH hO => ?_) c' e1 e2 e3 e4 e5⟩
  refine ⟨_, e, W.blk, ?_, fun j hj => ?_⟩
  · have h1 := RepL.mono hH (fun _ _ h => h) _ _ hrl
    have h2 := RepL.mono hH (fun _ _ h => h) _ _ hc
    rw [show (wrL cs.toList off y.cells.toList).toArray.toList = cs.toList.take off ++ y.cells.toList ++ cs.toList.drop (off + x.leaves.length) from by simp only [wrL, hL]]
    exact ((h1.take off).append h2).append (h1.drop (off + x.leaves.length))
  · rcases hos' j hj with ⟨hj, hjr⟩ | ⟨k, l', rfl, rfl, ho⟩
    · obtain ⟨k, l', v, e1, e2, e3⟩ := hos j hj
      refine ⟨k, l', v, by rw [wrL_get hfit hjr]; exact e1, ?_, e3.mono fun b' e => hO _ b' e⟩
      rw [List.getElem?_toArray, wrL_get (by rw [hL]; simpa [hlen] using hfit) (by rw [hL]; exact hjr)]
      simpa using e2
    · have hlf : (AV.sl k l').leaves = [.sl k l'] := rfl
      have hyc : y.cells.toList = [y] := by
        obtain ⟨a', c', e', _⟩ := rep_sl hr
        subst e'; rfl
      refine ⟨k, l', y, ?_, ?_, ho.mono fun b' e => hO _ b' e⟩
      · rw [hlf]; rw [hlf] at hfit; exact wrL_at (by simp only [List.length_singleton] at hfit; omega)
      · rw [hyc, List.getElem?_toArray]
        rw [hlf] at hfit
        exact wrL_at (by simp only [Array.length_toList, hlen]; simp only [List.length_singleton] at hfit; omega)

/-- The right to append goes out of a box. -/
theorem Inv.takeCell (hi : Inv n W0 G0 c a w g) {q off d : Nat} {l : List AV} {os : List Nat} (hbox : c.mem[q]? = some (.cells l os)) {c' : Cfg} (e1 : c'.fr = c.fr) (e2 : c'.os = c.os)
    (e3 : c'.mem = c.mem.set q (.cells l (os.filter fun j => !Nat.beq j off))) (e4 : c'.base = c.base) (e5 : ∀ x ∈ c'.env, Bx.cl c.base 0 x) :
    let g' : Gh := { g with own := fun b => (g.own b).map (moved (.cell q off) (.slot d)) }
    Inv n W0 G0 c' a w g' ∧ ∀ k y, OwnAt w g (.cell q off) k y → OwnAt w g' (.slot d) k y := by
  have O1 : ∀ L k y, L ≠ .cell q off → OwnAt w g L k y → OwnAt w { g with own := fun b => (g.own b).map (moved (.cell q off) (.slot d)) } L k y := by
    intro L k y hL h
    obtain ⟨a, n, c, e, hn, h⟩ := h
    refine ⟨a, n, c, e, hn, h.imp id ?_⟩
    rintro ⟨b, o, h, cs, e, ea, h1, h2, h3, h4, h5⟩
    exact ⟨b, o, h, cs, e, ea, by simp [h1, moved, hL], h2, h3, h4, h5⟩
  have hql : q < c.mem.length := (List.getElem?_eq_some_iff.1 hbox).1
  refine ⟨⟨hi.size, hi.defers, fun i h => by rw [e1, e4]; exact hi.fr i h, fun i h => ?_, ?_, ?_, by rw [e4]; exact e5, by rw [e4]; exact hi.b0⟩, ?_⟩
  · rw [e2] at h
    rw [e1]
    obtain ⟨k, l, h1, h2⟩ := hi.os i h
    exact ⟨k, l, h1, O1 _ k _ (by simp) h2⟩
  · rw [e3, e4]
    refine ⟨by rw [hi.good.len]; simp, hi.good.nd, hi.good.nohw, fun i x b hx hb => ?_, hi.good.hw, fun b L e => ?_, hi.good.glob⟩
    · by_cases hiq : i = q
      · subst hiq
        rw [List.getElem?_set_self hql] at hx
        cases hx
        obtain ⟨cs, e, h1, h2, h3⟩ := hi.good.box i _ b hbox hb
        exact ⟨cs, e, h1, h2, fun j hj => by
          have hj' := List.mem_filter.1 hj
          have hne : j ≠ off := by rintro rfl; simp at hj'
          obtain ⟨k, l', y, f1, f2, f3⟩ := h3 j hj'.1
          exact ⟨k, l', y, f1, f2, O1 _ k y (by simp [hne]) f3⟩⟩
      · rw [List.getElem?_set_ne (Ne.symm hiq)] at hx
        have := hi.good.box i x b hx hb
        cases x with
        | map l => exact this
        | cells l os =>
          obtain ⟨cs, e, h1, h2, h3⟩ := this
          exact ⟨cs, e, h1, h2, fun j hj => by
            obtain ⟨k, l', y, f1, f2, f3⟩ := h3 j hj
            exact ⟨k, l', y, f1, f2, O1 _ k y (by simp [hiq]) f3⟩⟩
    · simp only [Option.map_eq_some_iff] at e
      obtain ⟨L', e, _⟩ := e
      exact hi.good.own b L' e
  · have E := hi.ext
    refine ⟨E.size, E.tape, E.os, E.output, E.hw, fun b L e hk => ?_, E.bs, E.bsnew, fun b hb L e => ?_, E.old⟩
    · obtain ⟨h1, h2, h3⟩ := E.ext b L e hk
      subst hk
      exact ⟨by simp [h1, moved], h2, h3⟩
    · simp only [Option.map_eq_some_iff] at e
      obtain ⟨L', e, rfl⟩ := e
      obtain ⟨L'', e', he⟩ := E.orig b hb L' e
      refine ⟨L'', e', fun hk => ?_⟩
      have := he hk
      subst this hk
      simp [moved]
  · intro k y h
    obtain ⟨a, n, c, e, hn, h⟩ := h
    refine ⟨a, n, c, e, hn, h.imp id ?_⟩
    rintro ⟨b, o, h, cs, e, ea, h1, h2, h3, h4, h5⟩
    exact ⟨b, o, h, cs, e, ea, by simp [h1, moved], h2, h3, h4, h5⟩
end
end Go.Ev
end
