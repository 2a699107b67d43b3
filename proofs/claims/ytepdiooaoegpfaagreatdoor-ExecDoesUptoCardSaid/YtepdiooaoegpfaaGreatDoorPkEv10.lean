/- Written by programs of this session: laws and contracts that the law's proof stands on, merged into one text. Conditions: none beyond those in each statement. -/
import Derived.Test.YtepdiooaoegpfaaGreatDoorPkEv9
section
/- Written by this session: structs out of parts, as steps of a region. Conditions: none beyond those in each statement. -/
namespace Go.Ev
open Go

def buildFold (P : Program) (c : Cfg) (fs : Array Field) : List (Nat × Operand) → List AV → (List AV → Prop) → Prop
  | [], l, K => K l
  | (i, x) :: r, l, K => match fs[i]? with
    | some f => bif leavesOk (evA c x) && !(evA c x).isTup && Nat.beq (evA c x).leaves.length (P.cellsOf f.type) && Nat.ble (f.offset + P.cellsOf f.type) l.length then buildFold P c fs r (wrL l f.offset (evA c x).leaves) K else False
    | none => False

section
variable {P : Program} {n : Nat} {c : Cfg} {K : Cfg → Prop}

theorem run_places : ∀ (fs : List Field) (w : World), (fs.all fun f => (P.underlying f.type).isSome) = true →
    (fs.mapM fun f => do Pure.pure (f.offset, ← sizeOf f.type) : Sem (List (Nat × Nat))).run P w = .ok (fs.map fun f => (f.offset, P.cellsOf f.type)) w
  | [], w, _ => by simp
  | f :: fs, w, h => by
    simp only [List.all_cons, Bool.and_eq_true] at h
    simp only [List.mapM_cons, Sem.run_bind, run_size (info_of_und h.1), Result.andThen_ok, Sem.run_pure, List.map_cons]
    rw [run_places fs w h.2]
    rfl

theorem buildFold_run {fs : Array Field} {W0 : World} {G0 : Gh} {a : Act} {w : World} {g : Gh} (hi : Inv n W0 G0 c a w g) : ∀ (ps : List (Nat × Operand)) (l : List AV) (cells : Array Value) (K : List AV → Prop),
    (∀ p ∈ ps, okTmp n p.2 = true) → RepL w g.hw g.bs c.base l cells.toList → buildFold P c fs ps l K →
    ∃ l' cells', K l' ∧ Instr.fill ((fs.map fun f => (f.offset, P.cellsOf f.type))[·]?) cells (ps.map fun p => (p.1, a.eval p.2)) = some cells' ∧ RepL w g.hw g.bs c.base l' cells'.toList
  | [], l, cells, K, _, hr, h => ⟨l, cells, h, by simp [Instr.fill], hr⟩
  | (i, x) :: ps, l, cells, K, hok, hr, h => by
    simp only [buildFold] at h
    split at h
    · rename_i f hf
      cases hc : (leavesOk (evA c x) && !(evA c x).isTup && Nat.beq (evA c x).leaves.length (P.cellsOf f.type) && Nat.ble (f.offset + P.cellsOf f.type) l.length) with
      | false => rw [hc] at h; exact h.elim
      | true =>
        rw [hc] at h
        simp only [cond_true] at h
        simp only [Bool.and_eq_true] at hc
        obtain ⟨⟨⟨h1, _⟩, h3⟩, h4⟩ := hc
        have h3' := Nat.eq_of_beq_eq_true h3
        have h4' := Nat.le_of_ble_eq_true h4
        obtain ⟨q1, q2⟩ := rep_cells (leavesOk_or h1) (hi.eval (hok (i, x) (by simp)))
        have hlen := RepL.length hr
        obtain ⟨c1, e1, e2⟩ := fill_one (place := ((fs.map fun f => (f.offset, P.cellsOf f.type))[·]?)) (cells := cells) (i := i) (off := f.offset) (size := P.cellsOf f.type) (v := a.eval x) (rest := ps.map fun p => (p.1, a.eval p.2))
          (by simp [hf]) (by rw [q2, h3']) (by rw [q2, h3']; simp only [Array.length_toList] at hlen; omega)
        have hL : (a.eval x).cells.toList.length = (evA c x).leaves.length := by simpa using q2
        obtain ⟨l', cells', k1, k2, k3⟩ := buildFold_run hi ps _ c1 K (fun p hp => hok p (by simp [hp])) (by
          rw [e1]
          simp only [wrL]
          rw [hL]
          exact ((hr.take f.offset).append q1).append (hr.drop _)) h
        refine ⟨l', cells', k1, ?_, k3⟩
        simp only [List.map_cons]
        rw [e2]; exact k2
    · exact h.elim

theorem XStep.build {t : TypeId} {fs : Array Field} {parts : Array (Nat × Operand)} {i : TypeInfo} {z : Value} {dst : Option Tmp} {type : TypeId} {pos : String} {after : Array Edge} {guard : Option (Nat × Bool)}
    (ho : opsOk n ⟨dst, .build t parts, type, pos, after, guard⟩ = true) (ht : P.underlying t = some (.struct fs)) (hfs : (fs.toList.all fun f => (P.underlying f.type).isSome) = true) (hin : P.info? t = some i) (hz : i.zero = some z) (hok : okTmp n (.const z) = true) (hx : leavesOk (cst z) = true)
    (h : buildFold P c fs parts.toList (cst z).leaves fun l => K (c.put dst (.agg l))) : XStep P n ⟨dst, .build t parts, type, pos, after, guard⟩ c K := by
  intro W0 G0 a w g hi next Q hn
  obtain ⟨hc, _⟩ := rep_cells (leavesOk_or hx) (cst_rep (hw := g.hw) (bs := g.bs) (base := c.base) (w := w) z hok)
  obtain ⟨l', cells', k1, k2, k3⟩ := buildFold_run hi parts.toList _ z.cells _ (fun p hp => opsOk_mem ho (by
    simp only [Op.operands, List.mem_toArray, List.mem_map]
    exact ⟨p, by simpa using hp, rfl⟩)) hc h
  have hrun : (execOp a.eval ⟨dst, .build t parts, type, pos, after, guard⟩).run P w = .ok (.value (.agg cells')) w := by
    have hp := run_places (P := P) fs.toList w hfs
    have hps : (parts.map fun (p : Nat × Operand) => (p.1, a.eval p.2)).toList = parts.toList.map fun p => (p.1, a.eval p.2) := by simp
    simp only [execOp, Instr.build, Sem.run_bind, zeroValue, typeInfo, run_program, hin, Result.andThen_ok, Sem.run_pure, hz, run_und ht, Array.mapM_eq_mapM_toList, Sem.run_map, hp, hps]
    have hpl : (fs.toList.map fun f => (f.offset, P.cellsOf f.type)).toArray = fs.map fun f => (f.offset, P.cellsOf f.type) := by apply Array.toList_inj.1; simp
    rw [hpl, k2]
    simp
  unfold Oper.wp
  rw [hrun]
  exact hn _ _ _ g k1 (hi.putO (opsOk_dst ho) (rep_agg_mk k3))
end
end Go.Ev
end
section
/- Written by this session: maps, boxes of the surroundings, and what is appended to in a box, as steps of a region. Conditions: none beyond those in each statement. -/
namespace Go.Ev
open Go

mutual
theorem cl_of_pf {base : Nat} : ∀ x : AV, x.pf = true → x.cl base 0
  | .top, _ | .v _, _ | .sl _ _, _ | .ep _, _ | .gv _ _, _ | .ifc _ _, _ => by simp only [AV.cl]
  | .bp _ _, h => by simp [AV.pf] at h
  | .xp _ _, h => by simp [AV.pf] at h
  | .mo _, h => by simp [AV.pf] at h
  | .mx _, h => by simp [AV.pf] at h
  | .bs .., h => by simp [AV.pf] at h
  | .xs .., h => by simp [AV.pf] at h
  | .agg l, h => by simp only [AV.pf] at h; simp only [AV.cl]; exact clL_of_pf l h
  | .tup l, h => by simp only [AV.pf] at h; simp only [AV.cl]; exact clL_of_pf l h
  | .fn f a b, h => by simp only [AV.pf, Bool.and_eq_true] at h; simp only [AV.cl]; exact ⟨clL_of_pf a h.1, clL_of_pf b h.2⟩
theorem clL_of_pf {base : Nat} : ∀ l : List AV, pfL l = true → clL base 0 l
  | [], _ => by simp only [clL]
  | x :: l, h => by simp only [pfL, Bool.and_eq_true] at h; simp only [clL]; exact ⟨cl_of_pf x h.1, clL_of_pf l h.2⟩
end
theorem clL_of_leaf {base : Nat} {x : AV} (h : x.pf = true) : x.cl base 0 := cl_of_pf x h
theorem clL_leaves {base : Nat} {x : AV} (h : x.pf = true) : clL base 0 x.leaves := by
  have := clL_of_leaf (base := base) h
  cases x <;> simp only [AV.leaves, clL] <;> first | exact ⟨this, trivial⟩ | (simpa only [AV.cl] using this)
theorem clL_app {base m : Nat} : ∀ {a b : List AV}, clL base m a → clL base m b → clL base m (a ++ b)
  | [], _, _, h => h
  | x :: a, b, h1, h2 => by simp only [List.cons_append, clL] at h1 ⊢; exact ⟨h1.1, clL_app h1.2 h2⟩
theorem clL_take {base m : Nat} : ∀ {a : List AV} (k : Nat), clL base m a → clL base m (a.take k)
  | _, 0, _ => by simp [clL]
  | [], k + 1, _ => by simp [clL]
  | x :: a, k + 1, h => by simp only [List.take_succ_cons, clL] at h ⊢; exact ⟨h.1, clL_take k h.2⟩
theorem clL_drop {base m : Nat} : ∀ {a : List AV} (k : Nat), clL base m a → clL base m (a.drop k)
  | _, 0, h => by simpa using h
  | [], k + 1, _ => by simp [clL]
  | x :: a, k + 1, h => by simp only [List.drop_succ_cons, clL] at h ⊢; exact clL_drop k h.2

section
variable {P : Program} {n : Nat} {c : Cfg} {K : Cfg → Prop} {dst : Option Tmp} {type : TypeId} {pos : String} {after : Array Edge} {guard : Option (Nat × Bool)}

theorem XStep.makeMap {t kt et : TypeId} {r : Option Operand} {d : Nat} (ho : opsOk n ⟨some d, .makeMap t r, type, pos, after, guard⟩ = true) (ht : P.underlying t = some (.map kt et)) (hr : r = none ∨ ∃ k m, r = some (.const (.int k m)))
    (h : K (({ c with own := c.own ++ [.map []] } : Cfg).put (some d) (.mo c.own.length))) : XStep P n ⟨some d, .makeMap t r, type, pos, after, guard⟩ c K := by
  intro W0 G0 a w g hi next Q hn
  obtain ⟨g', hi', hb⟩ := hi.newBoxG (.map []) (.map #[] 0) fun _ _ _ => ⟨#[], 0, heap_push_new, by simp [RepM]⟩
  unfold Oper.wp
  have hrun : (execOp a.eval ⟨some d, .makeMap t r, type, pos, after, guard⟩).run P w = .ok (.value (.map (some w.heap.size))) (push w (.map #[] 0)) := by
    rcases hr with rfl | ⟨k, m, rfl⟩
    · simp [execOp, Instr.makeMap, push]
    · simp [execOp, Instr.makeMap, run_und ht, Act.eval, asInt, asIntOf, push]
  rw [hrun]
  exact hn _ _ _ g' h (hi'.put (opsOk_dst ho d rfl) (rep_mk_leaf rfl rfl (by simp only [RepV]; exact ⟨_, hb, rfl⟩)))

theorem XStep.mapUpdate {t kt et : TypeId} {m k x : Operand} {s : ByteArray} {l : List (ByteArray × AV)} (ho : opsOk n ⟨dst, .mapUpdate t m k x, type, pos, after, guard⟩ = true) (ht : P.underlying t = some (.map kt et)) (hkt : P.underlying kt = some .string)
    (hk : evA c k = .v (.string s)) (hpf : (evA c x).pf = true) (htup : (evA c x).isTup = false) (c' : Cfg)
    (hm : (∃ i, evA c m = .mo i ∧ c.own[i]? = some (.map l) ∧ c' = { c with own := c.own.set i (.map (setM l s (evA c x))) }) ∨ (∃ i, evA c m = .mx i ∧ c.env[i]? = some (.map l) ∧ c' = { c with env := c.env.set i (.map (setM l s (evA c x))) }))
    (h : K (c'.put dst (.v undef))) : XStep P n ⟨dst, .mapUpdate t m k x, type, pos, after, guard⟩ c K := by
  intro W0 G0 a w g hi next Q hn
  have hmm : m ∈ (Op.mapUpdate t m k x).operands := by simp [Op.operands]
  have hmk : k ∈ (Op.mapUpdate t m k x).operands := by simp [Op.operands]
  have hmx : x ∈ (Op.mapUpdate t m k x).operands := by simp [Op.operands]
  have hrm := hi.eval (opsOk_mem ho hmm)
  have ek := (rep_v (hk ▸ hi.eval (opsOk_mem ho hmk))).1
  have hv : Rep1 w g.hw [] 0 (evA c x) (a.eval x) := rep1_of htup ((hi.eval (opsOk_mem ho hmx)).pf hpf)
  have fin : ∀ (q b : Nat), g.bs[q]? = some b → a.eval m = .map (some b) → c.mem[q]? = some (.map l) → c'.fr = c.fr → c'.os = c.os → c'.mem = c.mem.set q (.map (setM l s (evA c x))) → c'.base = c.base → (∀ y ∈ c'.env, Bx.cl c.base 0 y) →
      (Oper.wp P ⟨dst, .mapUpdate t m k x, type, pos, after, guard⟩ a w next Q) := by
    intro q b hb em hq e1 e2 e3 e4 e5
    obtain ⟨es, clock, hheap, hM⟩ := hi.good.box q _ b hq hb
    obtain ⟨es', clock', hrun, hM'⟩ := mapUpdate_run (P := P) (w := w) (s := s) ht hkt hheap hM hv
    have W := oneBlk_setObj (o' := .map es' clock') hheap
    have hi' := hi.writeAt (x' := .map (setM l s (evA c x))) hq hb W (fun hH _ => ⟨es', clock', W.blk, RepM.mono hH _ _ hM'⟩) c' e1 e2 e3 e4 e5
    unfold Oper.wp
    have hrun' : (execOp a.eval ⟨dst, .mapUpdate t m k x, type, pos, after, guard⟩).run P w = .ok .skip { w with heap := w.heap.setIfInBounds b (.map es' clock') } := by
      simp only [execOp, em, ek, Sem.run_bind, hrun, Result.andThen_ok, Sem.run_pure]
    rw [hrun']
    exact hn _ _ _ g h (hi'.putO (opsOk_dst ho) (rep_v_mk rfl))
  rcases hm with ⟨i, em, hl, rfl⟩ | ⟨i, em, hl, rfl⟩
  · obtain ⟨b, hb, e⟩ := rep_mo (em ▸ hrm)
    exact fin _ b hb e (mem_own hl) rfl rfl set_own rfl hi.ecl
  · obtain ⟨_, b, hb, e⟩ := rep_mx (em ▸ hrm)
    have hil := (List.getElem?_eq_some_iff.1 hl).1
    exact fin i b hb e (mem_env hl) rfl rfl (set_env hil) (by simp [Cfg.base]) (ecl_set hi.ecl trivial)

/-- A store into a box of the surroundings. -/
theorem XStep.storeEnv {t : TypeId} {p x : Operand} {i off : Nat} {l : List AV} {os : List Nat} (ho : opsOk n ⟨dst, .store t p x, type, pos, after, guard⟩ = true)
    (hp : evA c p = .xp i off) (hbox : c.env[i]? = some (.cells l os)) (ht : (P.underlying t).isSome = true) (hx : leavesOk (evA c x) = true) (hpf : (evA c x).pf = true) (hsz : (evA c x).leaves.length = P.cellsOf t) (hfit : off + (evA c x).leaves.length ≤ l.length)
    (h : K (({ c with env := c.env.set i (.cells (wrL l off (evA c x).leaves) (os.filter fun j => decide (j < off ∨ off + (evA c x).leaves.length ≤ j))) } : Cfg).put dst (.v undef))) : XStep P n ⟨dst, .store t p x, type, pos, after, guard⟩ c K := by
  intro W0 G0 a w g hi next Q hn
  have hm1 : p ∈ (Op.store t p x).operands := by simp [Op.operands]
  have hm2 : x ∈ (Op.store t p x).operands := by simp [Op.operands]
  obtain ⟨_, b, hb, ep⟩ := rep_xp (hp ▸ hi.eval (opsOk_mem ho hm1))
  obtain ⟨w', hrun, hcont⟩ := hi.storeAt ht (leavesOk_or hx) hb (mem_env hbox) (hi.eval (opsOk_mem ho hm2)) hsz hfit
  have hil := (List.getElem?_eq_some_iff.1 hbox).1
  have hcl : Bx.cl c.base 0 (.cells (wrL l off (evA c x).leaves) (os.filter fun j => decide (j < off ∨ off + (evA c x).leaves.length ≤ j))) := by
    have := hi.ecl _ (List.mem_of_getElem? hbox)
    simp only [Bx.cl] at this ⊢
    exact clL_app (clL_app (clL_take _ this) (clL_leaves hpf)) (clL_drop _ this)
  have hi' := hcont (os.filter fun j => decide (j < off ∨ off + (evA c x).leaves.length ≤ j)) (fun j hj => .inl (by simpa using hj)) { c with env := c.env.set i (.cells (wrL l off (evA c x).leaves) (os.filter fun j => decide (j < off ∨ off + (evA c x).leaves.length ≤ j))) }
    rfl rfl (set_env hil) (by simp [Cfg.base]) (ecl_set hi.ecl hcl)
  unfold Oper.wp
  have hrun' : (execOp a.eval ⟨dst, .store t p x, type, pos, after, guard⟩).run P w = .ok .skip w' := by
    simp [execOp, Instr.storeAt, ep, Instr.sureAddr, hrun]
  rw [hrun']
  exact hn _ _ _ g h (hi'.putO (opsOk_dst ho) (rep_v_mk rfl))

/-- A store into a box of the surroundings that hands on the right to append. -/
theorem XStep.storeEnvOwn {t : TypeId} {p : Operand} {s i off k : Nat} {l l' : List AV} {os : List Nat} (ho : opsOk n ⟨dst, .store t p (.tmp s), type, pos, after, guard⟩ = true)
    (hp : evA c p = .xp i off) (hbox : c.env[i]? = some (.cells l os)) (ht : (P.underlying t).isSome = true) (hs : s ∈ c.os) (hx : Fr.get c.fr s = .sl k l') (hsz : 1 = P.cellsOf t) (hfit : off + 1 ≤ l.length)
    (h : K (({ c with os := c.os.filter (fun i => !Nat.beq i s), env := c.env.set i (.cells (wrL l off [.sl k l']) (off :: os.filter fun j => decide (j < off ∨ off + 1 ≤ j))) } : Cfg).put dst (.v undef))) : XStep P n ⟨dst, .store t p (.tmp s), type, pos, after, guard⟩ c K := by
  intro W0 G0 a w g hi next Q hn
  have hm1 : p ∈ (Op.store t p (.tmp s)).operands := by simp [Op.operands]
  have hm2 : (Operand.tmp s) ∈ (Op.store t p (.tmp s)).operands := by simp [Op.operands]
  have hev : evA c (.tmp s) = .sl k l' := hx
  obtain ⟨_, b, hb, ep⟩ := rep_xp (hp ▸ hi.eval (opsOk_mem ho hm1))
  obtain ⟨G', E', O1, O2⟩ := hi.good.relabel (s := s) (d := .cell i off)
  have hi1 : Inv n W0 G0 { c with os := c.os.filter (fun i => !Nat.beq i s) } a w { g with own := fun b => (g.own b).map (moved (.slot s) (.cell i off)) } :=
    ⟨hi.size, hi.defers, hi.fr, fun j hj => by
      have hj' := List.mem_filter.1 hj
      have hne : j ≠ s := by rintro rfl; simp at hj'
      obtain ⟨k, l, h1, h2⟩ := hi.os j hj'.1
      exact ⟨k, l, h1, O1 _ k _ (by simp [hne]) h2⟩, G', E' _ _ hi.ext, hi.ecl, hi.b0⟩
  obtain ⟨k', l'', e1, e2⟩ := hi.os s hs
  rw [hx] at e1
  cases e1
  have hrs := hi.eval (opsOk_mem ho hm2)
  rw [hev] at hrs
  obtain ⟨w', hrun, hcont⟩ := hi1.storeAt (x := .sl k l') (y := a.eval (.tmp s)) ht (.inr rfl) hb (mem_env hbox) hrs hsz hfit
  have hil := (List.getElem?_eq_some_iff.1 hbox).1
  have hcl : Bx.cl c.base 0 (.cells (wrL l off [.sl k l']) (off :: os.filter fun j => decide (j < off ∨ off + 1 ≤ j))) := by
    have := hi.ecl _ (List.mem_of_getElem? hbox)
    simp only [Bx.cl] at this ⊢
    exact clL_app (clL_app (clL_take _ this) (by simp only [clL]; exact ⟨by simp only [AV.cl], trivial⟩)) (clL_drop _ this)
  have hi' := hcont (off :: os.filter fun j => decide (j < off ∨ off + 1 ≤ j)) (fun j hj => by
    rcases List.mem_cons.1 hj with rfl | hj
    · exact .inr ⟨k, l', rfl, rfl, O2 k _ e2⟩
    · exact .inl (by simpa [AV.leaves] using hj)) { c with os := c.os.filter (fun i => !Nat.beq i s), env := c.env.set i (.cells (wrL l off [.sl k l']) (off :: os.filter fun j => decide (j < off ∨ off + 1 ≤ j))) }
    rfl rfl (set_env hil) (by simp [Cfg.base]) (ecl_set hi.ecl hcl)
  unfold Oper.wp
  have hrun' : (execOp a.eval ⟨dst, .store t p (.tmp s), type, pos, after, guard⟩).run P w = .ok .skip w' := by
    simp [execOp, Instr.storeAt, ep, Instr.sureAddr, hrun]
  rw [hrun']
  exact hn _ _ _ _ h (hi'.putO (opsOk_dst ho) (rep_v_mk rfl))

/-- A slice is read out of a box, and the right to append with it. -/
theorem XStep.loadOwn {t : TypeId} {p : Operand} {d off k : Nat} {l l' : List AV} {os : List Nat} (ho : opsOk n ⟨some d, .load t p, type, pos, after, guard⟩ = true) (ht : (P.underlying t).isSome = true) (hta : isAggT P t = false) (hl : l[off]? = some (.sl k l')) (hos : off ∈ os) (c' : Cfg)
    (hp : (∃ i, evA c p = .bp i off ∧ c.own[i]? = some (.cells l os) ∧ c' = { c with own := c.own.set i (.cells l (os.filter fun j => !Nat.beq j off)) }) ∨ (∃ i, evA c p = .xp i off ∧ c.env[i]? = some (.cells l os) ∧ c' = { c with env := c.env.set i (.cells l (os.filter fun j => !Nat.beq j off)) }))
    (h : K (c'.putOwn d (.sl k l'))) : XStep P n ⟨some d, .load t p, type, pos, after, guard⟩ c K := by
  intro W0 G0 a w g hi next Q hn
  have hm1 : p ∈ (Op.load t p).operands := by simp [Op.operands]
  have hrp := hi.eval (opsOk_mem ho hm1)
  obtain ⟨dd, hd⟩ := Option.isSome_iff_exists.1 ht
  have fin : ∀ (q b : Nat), g.bs[q]? = some b → a.eval p = .pointer (some ⟨b, off, none⟩) → c.mem[q]? = some (.cells l os) → c'.fr = c.fr → c'.os = c.os → c'.mem = c.mem.set q (.cells l (os.filter fun j => !Nat.beq j off)) → c'.base = c.base → (∀ y ∈ c'.env, Bx.cl c.base 0 y) →
      (Oper.wp P ⟨some d, .load t p, type, pos, after, guard⟩ a w next Q) := by
    intro q b hb ep hq e1 e2 e3 e4 e5
    obtain ⟨cs, e, hheap, hrl, hown⟩ := hi.good.box q _ b hq hb
    obtain ⟨k2, l2, y, f1, f2, f3⟩ := hown off hos
    rw [hl] at f1
    cases f1
    obtain ⟨v, hv, hrv, _, hone⟩ := hrl.get hl
    have hyv : y = v := by
      have : cs[off]? = some v := by simpa using hv
      rw [f2] at this; cases this; rfl
    subst hyv
    obtain ⟨hi', O⟩ := hi.takeCell (d := d) hq e1 e2 e3 e4 e5
    have hrep : Rep w g.hw g.bs c.base (.sl k l') y := rep_mk_leaf rfl (visAgg_of hone) hrv
    unfold Oper.wp
    have hcell : w.cell? ⟨b, off, none⟩ = some y := by
      simp only [World.cell?, hheap, Option.isSome_none, Bool.false_eq_true, if_false]; exact f2
    have hrun : (execOp a.eval ⟨some d, .load t p, type, pos, after, guard⟩).run P w = .ok (.value y) w := by
      simp [execOp, ep, Instr.loadAt, Instr.sureAddr, loadVar, run_isAgg hd, hta, hcell]
    rw [hrun]
    exact hn _ _ _ _ h (hi'.putOwn (opsOk_dst ho d rfl) (by rw [e4]; exact hrep) (O k y f3))
  rcases hp with ⟨i, em, hl', rfl⟩ | ⟨i, em, hl', rfl⟩
  · obtain ⟨b, hb, e⟩ := rep_bp (em ▸ hrp)
    exact fin _ b hb e (mem_own hl') rfl rfl set_own rfl hi.ecl
  · obtain ⟨_, b, hb, e⟩ := rep_xp (em ▸ hrp)
    have hil := (List.getElem?_eq_some_iff.1 hl').1
    refine fin i b hb e (mem_env hl') rfl rfl (set_env hil) (by simp [Cfg.base]) (ecl_set hi.ecl ?_)
    have := hi.ecl _ (List.mem_of_getElem? hl')
    exact this

def makeMapA (P : Program) (c : Cfg) (t : TypeId) (r : Option Operand) (dst : Option Tmp) (K : Cfg → Prop) : Prop :=
  match P.underlying t, dst with
  | some (.map _ _), some d => (match r with
    | none | some (.const (.int _ _)) => K (({ c with own := c.own ++ [.map []] } : Cfg).put (some d) (.mo c.own.length))
    | _ => False)
  | _, _ => False
theorem makeMapA_sound {t : TypeId} {r : Option Operand} (ho : opsOk n ⟨dst, .makeMap t r, type, pos, after, guard⟩ = true) (h : makeMapA P c t r dst K) : XStep P n ⟨dst, .makeMap t r, type, pos, after, guard⟩ c K := by
  unfold makeMapA at h
  split at h
  · rename_i kt et d hu
    split at h
    · exact XStep.makeMap ho hu (.inl rfl) h
    · exact XStep.makeMap ho hu (.inr ⟨_, _, rfl⟩) h
    · exact h.elim
  · exact h.elim

def mapUpdateA (P : Program) (c : Cfg) (t : TypeId) (m k x : Operand) (dst : Option Tmp) (K : Cfg → Prop) : Prop :=
  match P.underlying t, evA c k with
  | some (.map kt _), .v (.string s) => (match P.underlying kt with
    | some .string => bif pf1 (evA c x) && !(evA c x).isTup then (match evA c m with
      | .mo i => (match c.own[i]? with
        | some (.map l) => K (({ c with own := c.own.set i (.map (setM l s (evA c x))) } : Cfg).put dst (.v undef))
        | _ => False)
      | .mx i => (match c.env[i]? with
        | some (.map l) => K (({ c with env := c.env.set i (.map (setM l s (evA c x))) } : Cfg).put dst (.v undef))
        | _ => False)
      | _ => False) else False
    | _ => False)
  | _, _ => False
theorem mapUpdateA_sound {t : TypeId} {m k x : Operand} (ho : opsOk n ⟨dst, .mapUpdate t m k x, type, pos, after, guard⟩ = true) (h : mapUpdateA P c t m k x dst K) : XStep P n ⟨dst, .mapUpdate t m k x, type, pos, after, guard⟩ c K := by
  unfold mapUpdateA at h
  split at h
  · rename_i kt et s hu hk
    split at h
    · rename_i hkt
      cases hc : (pf1 (evA c x) && !(evA c x).isTup) with
      | false => rw [hc] at h; exact h.elim
      | true =>
        rw [hc] at h
        simp only [Bool.and_eq_true, Bool.not_eq_true'] at hc
        simp only [cond_true] at h
        split at h
        · rename_i i hm
          split at h
          · rename_i l hl; exact XStep.mapUpdate ho hu hkt hk (pf_of1 hc.1) hc.2 _ (.inl ⟨i, hm, hl, rfl⟩) h
          · exact h.elim
        · rename_i i hm
          split at h
          · rename_i l hl; exact XStep.mapUpdate ho hu hkt hk (pf_of1 hc.1) hc.2 _ (.inr ⟨i, hm, hl, rfl⟩) h
          · exact h.elim
        · exact h.elim
    · exact h.elim
  · exact h.elim
end
end Go.Ev
end
section
/- Written by this session: a slice is compared with nil; a cap of nothing. Conditions: none beyond those in each statement. -/
namespace Go.Ev
open Go

theorem run_nilEq {P : Program} {t e : TypeId} (hu : P.underlying t = some (.slice e)) (a : Option Addr) (n c n0 c0 : Nat) (w : World) :
    (Op.equal t (.slice a n c) (.slice none n0 c0)).run P w = .ok a.isNone w := by
  have : ∀ d : Nat, (Op.equalIn (d + 1) t (.slice a n c) (.slice none n0 c0)).run P w = .ok a.isNone w := fun d => by
    cases a <;> simp only [Op.equalIn, Sem.run_bind, run_und hu, Result.andThen_ok, Sem.run_pure] <;> rfl
  exact this 9999

theorem exec_nilEq {P : Program} {op : BinOp} {t yt e : TypeId} (hop : op = .eql ∨ op = .neq) (hu : P.underlying t = some (.slice e)) {ev : Operand → Value} {x y : Operand} {a : Option Addr} {n c n0 c0 : Nat} {dst : Option Tmp} {type : TypeId} {pos : String} {after : Array Edge} {guard : Option (Nat × Bool)}
    (hx : ev x = .slice a n c) (hy : ev y = .slice none n0 c0) (w : World) : (execOp ev ⟨dst, .binOp op t x y yt, type, pos, after, guard⟩).run P w = .ok (.value (.bool (bif decide (op = .eql) then a.isNone else !a.isNone))) w := by
  have he : (Op.equal t (.slice a n c) (.slice none n0 c0)).run P w = .ok a.isNone w := run_nilEq hu a n c n0 c0 w
  rcases hop with rfl | rfl <;> simp [execOp, hx, hy, eqGuard, binOp, he]

def nilEqA (P : Program) (c : Cfg) (op : BinOp) (t : TypeId) (x : AV) (dst : Option Tmp) (K : Cfg → Prop) : Prop :=
  match P.underlying t, x with
  | some (.slice _), .sl _ l => (l = [] → K (c.put dst (.v (.bool (bif decide (op = .eql) then true else false))))) ∧ K (c.put dst (.v (.bool (bif decide (op = .eql) then false else true))))
  | some (.slice _), .bs .. => K (c.put dst (.v (.bool (bif decide (op = .eql) then false else true))))
  | some (.slice _), .xs .. => K (c.put dst (.v (.bool (bif decide (op = .eql) then false else true))))
  | some (.slice _), .v (.slice none _ _) => K (c.put dst (.v (.bool (bif decide (op = .eql) then true else false))))
  | _, _ => False

section
variable {P : Program} {n : Nat} {c : Cfg} {K : Cfg → Prop} {dst : Option Tmp} {type : TypeId} {pos : String} {after : Array Edge} {guard : Option (Nat × Bool)}

theorem XStep.nilEq {op : BinOp} {t yt : TypeId} {x y : Operand} {n0 c0 : Nat} (hop : op = .eql ∨ op = .neq) (ho : opsOk n ⟨dst, .binOp op t x y yt, type, pos, after, guard⟩ = true) (hy : evA c y = .v (.slice none n0 c0)) (h : nilEqA P c op t (evA c x) dst K) :
    XStep P n ⟨dst, .binOp op t x y yt, type, pos, after, guard⟩ c K := by
  intro W0 G0 a w g hi next Q hn
  have hmx : x ∈ (Op.binOp op t x y yt).operands := by simp [Op.operands]
  have hmy : y ∈ (Op.binOp op t x y yt).operands := by simp [Op.operands]
  have ey := (rep_v (hy ▸ hi.eval (opsOk_mem ho hmy))).1
  have hr := hi.eval (opsOk_mem ho hmx)
  have go : ∀ (e : TypeId) (A : Option Addr) (m q : Nat), P.underlying t = some (.slice e) → a.eval x = .slice A m q → K (c.put dst (.v (.bool (bif decide (op = .eql) then A.isNone else !A.isNone)))) →
      Oper.wp P ⟨dst, .binOp op t x y yt, type, pos, after, guard⟩ a w next Q := by
    intro e A m q hu ex hk
    unfold Oper.wp
    rw [exec_nilEq hop hu ex ey]
    exact hn _ _ _ g hk (hi.putO (opsOk_dst ho) rep_bool)
  unfold nilEqA at h
  split at h
  · rename_i e k l hu hx
    obtain ⟨A, q, ex, _, _, hh⟩ := rep_sl (hx ▸ hr)
    cases A with
    | none =>
      refine go e none _ q hu ex (h.1 ?_)
      rcases hh with rfl | ⟨b, o, cs, e', _⟩
      · rfl
      · cases e'
    | some A => exact go e (some A) _ q hu ex h.2
  · rename_i e i off k m q hu hx
    obtain ⟨b, _, _, _, _, ex⟩ := rep_bs (hx ▸ hr)
    exact go e _ _ _ hu ex h
  · rename_i e i off k m q hu hx
    obtain ⟨_, b, _, _, _, _, ex⟩ := rep_xs (hx ▸ hr)
    exact go e _ _ _ hu ex h
  · rename_i e m q hu hx
    have ex := (rep_v (hx ▸ hr)).1
    exact go e none _ _ hu ex h
  · exact h.elim

end
end Go.Ev
end
