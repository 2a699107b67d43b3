/- Written by programs of this session: laws and contracts that the law's proof stands on, merged into one text. Conditions: none beyond those in each statement. -/
import Derived.Test.YtepdiooaoegpfaaGreatDoorPkEv10
section
/- Written by this session: slices that lie in boxes: copy, append, make. Conditions: none beyond those in each statement. -/
namespace Go.Ev
open Go

theorem leavesE {w : World} {hw : Hw} {k : Nat} : ∀ (l : List AV) (vs : List Value), RepE w hw k l vs → RepL w hw [] 0 (l.flatMap AV.leaves) vs
  | [], _, h => by simp only [RepE] at h; subst h; simp only [List.flatMap_nil, RepL]
  | x :: l, vs, h => by
    simp only [RepE] at h
    obtain ⟨_, h2, h3⟩ := h
    have h1 := repV_leaves h2.1 h2.2
    have := h1.append (leavesE l _ h3)
    rw [List.take_append_drop] at this
    simpa using this

theorem RepL.one {w : World} {hw : Hw} {bs : List Nat} {base : Nat} : ∀ {l : List AV} {vs : List Value}, RepL w hw bs base l vs → ∀ u ∈ vs, u.oneCell' = true
  | [], _, h, u, hu => by simp only [RepL] at h; subst h; simp at hu
  | x :: l, _, h, u, hu => by
    simp only [RepL] at h
    obtain ⟨v, vs', rfl, h1, h2⟩ := h
    rcases List.mem_cons.1 hu with rfl | hu
    · exact h1.2.2
    · exact RepL.one h2 u hu

theorem wrL_all {α : Type} (l : List α) (off : Nat) (xs : List α) : wrL l off xs = l.take off ++ xs ++ l.drop (off + xs.length) := rfl

section
variable {n : Nat} {W0 : World} {G0 : Gh} {c : Cfg} {a : Act} {w : World} {g : Gh} {P : Program}

/-- A row is written into a box. -/
theorem Inv.writeRow (hi : Inv n W0 G0 c a w g) {q off b : Nat} {l ls : List AV} {os : List Nat} {news : List Value} {cs : Array Value} {e : TypeId} (hb : g.bs[q]? = some b) (hbox : c.mem[q]? = some (.cells l os)) (hheap : w.heap[b]? = some (.cells cs e (0, 0)))
    (hr : RepL w g.hw g.bs c.base ls news) (hfit : off + ls.length ≤ l.length) (c' : Cfg) (e1 : c'.fr = c.fr) (e2 : c'.os = c.os)
    (e3 : c'.mem = c.mem.set q (.cells (wrL l off ls) (os.filter fun j => decide (j < off ∨ off + ls.length ≤ j)))) (e4 : c'.base = c.base) (e5 : ∀ x ∈ c'.env, Bx.cl c.base 0 x) :
    Inv n W0 G0 c' a (w.setRow b (wrL cs.toList off news).toArray) g := by
  obtain ⟨cs0, e0, hheap0, hrl, hos⟩ := hi.good.box q _ b hbox hb
  rw [hheap] at hheap0
  cases hheap0
  have hlen := RepL.length hrl
  simp only [Array.length_toList] at hlen
  have hL : news.length = ls.length := RepL.length hr
  have W := oneBlk_setRow (cs' := (wrL cs.toList off news).toArray) hheap
  refine hi.writeAt hbox hb W (fun hH hO => ?_) c' e1 e2 e3 e4 e5
  refine ⟨_, e, W.blk, ?_, fun j hj => ?_⟩
  · have h1 := RepL.mono hH (fun _ _ h => h) _ _ hrl
    have h2 := RepL.mono hH (fun _ _ h => h) _ _ hr
    rw [show (wrL cs.toList off news).toArray.toList = cs.toList.take off ++ news ++ cs.toList.drop (off + ls.length) from by simp only [wrL, hL]]
    exact ((h1.take off).append h2).append (h1.drop (off + ls.length))
  · have hj' := List.mem_filter.1 hj
    have hjr : j < off ∨ off + ls.length ≤ j := by simpa using hj'.2
    obtain ⟨k, l', v, f1, f2, f3⟩ := hos j hj'.1
    refine ⟨k, l', v, by rw [wrL_get hfit hjr]; exact f1, ?_, f3.mono fun b' e => hO _ b' e⟩
    rw [List.getElem?_toArray, wrL_get (by rw [hL]; simpa [hlen] using hfit) (by rw [hL]; exact hjr)]
    simpa using f2

/-- The elements of a slice, as leaves. -/
def srcA (c : Cfg) (k : Nat) (x : AV) (K : Nat → List AV → Prop) : Prop :=
  match x with
  | .sl k' l => bif Nat.beq k k' then K l.length (l.flatMap AV.leaves) else False
  | .bs i off k' m _ => bif Nat.beq k k' then (match c.own[i]? with
    | some (.cells l _) => off + m * k ≤ l.length ∧ K m ((l.drop off).take (m * k))
    | _ => False) else False
  | .xs i off k' m _ => bif Nat.beq k k' then (match c.env[i]? with
    | some (.cells l _) => off + m * k ≤ l.length ∧ K m ((l.drop off).take (m * k))
    | _ => False) else False
  | .v (.slice none 0 _) => K 0 []
  | _ => False

theorem src_run (hi : Inv n W0 G0 c a w g) {k : Nat} {x : AV} {y : Value} {K : Nat → List AV → Prop} (h : srcA c k x K) (hr : Rep w g.hw g.bs c.base x y) :
    ∃ m ls A cp cs, K m ls ∧ y = .slice A m cp ∧ RepL w g.hw g.bs c.base ls cs ∧ cs.length = m * k ∧ ∀ j, j ≤ m → ∀ w' : World, w'.heap = w.heap → (Builtin.firstCells k j y).run P w' = .ok (cs.take (j * k)).toArray w' := by
  have boxed : ∀ (q off m cp b : Nat) (l : List AV) (os : List Nat), c.mem[q]? = some (.cells l os) → g.bs[q]? = some b → y = .slice (some ⟨b, off, none⟩) m cp → off + m * k ≤ l.length → K m ((l.drop off).take (m * k)) →
      ∃ m ls A cp cs, K m ls ∧ y = .slice A m cp ∧ RepL w g.hw g.bs c.base ls cs ∧ cs.length = m * k ∧ ∀ j, j ≤ m → ∀ w' : World, w'.heap = w.heap → (Builtin.firstCells k j y).run P w' = .ok (cs.take (j * k)).toArray w' := by
    intro q off m cp b l os hbox hb ey hfit hk
    obtain ⟨cs, e, hheap, hrl, _⟩ := hi.good.box q _ b hbox hb
    have hlen := RepL.length hrl
    refine ⟨m, _, _, cp, (cs.toList.drop off).take (m * k), hk, ey, (hrl.drop off).take (m * k), by simp only [List.length_take, List.length_drop, hlen]; omega, fun j hj w' hw' => ?_⟩
    subst ey
    have hjk : j * k ≤ m * k := Nat.mul_le_mul_right _ hj
    have hc : CellsAt w' b off ((cs.toList.drop off).take (j * k)) := by
      have h0 := (cells_of_block (w := w') (b := b) (cs := cs) (e := e) (f := (0, 0)) (by rw [hw']; exact hheap)).sub off (j * k)
      simpa using h0
    simp only [Builtin.firstCells]
    have : (((cs.toList.drop off).take (m * k)).take (j * k)) = (cs.toList.drop off).take (j * k) := by rw [List.take_take, Nat.min_eq_left hjk]
    rw [this]
    unfold loadCells
    rw [run_loadCellsFrom (j * k) 0 #[] ((cs.toList.drop off).take (j * k)) (by simp only [List.length_take, List.length_drop, hlen]; omega) (fun i v hv => by simpa using hc i v hv)]
    simp
  unfold srcA at h
  split at h
  · rename_i k' l
    cases hb : Nat.beq k k' with
    | false => rw [hb] at h; exact h.elim
    | true =>
      rw [hb] at h
      have := Nat.eq_of_beq_eq_true hb
      subst this
      obtain ⟨A, cp, e, _, hk0, hh⟩ := rep_sl hr
      subst e
      rcases hh with rfl | ⟨b, o, cs, rfl, hc, hE⟩
      · refine ⟨0, _, A, cp, [], h, rfl, by simp [RepL], by simp, fun j hj w' _ => ?_⟩
        obtain rfl : j = 0 := by omega
        cases A <;> simp [Builtin.firstCells, loadCells, loadCellsFrom]
      · refine ⟨l.length, _, _, cp, cs, h, rfl, RepL.lift _ _ (leavesE l cs hE), RepE.len hE, fun j hj w' hw' => ?_⟩
        have hl := RepE.len hE
        have hjk : j * k ≤ l.length * k := Nat.mul_le_mul_right _ hj
        have hc' := hc.at
        simp only [Builtin.firstCells]
        unfold loadCells
        rw [run_loadCellsFrom (j * k) 0 #[] (cs.take (j * k)) (by simp only [List.length_take]; omega) (fun i v hv => by
          rw [List.getElem?_take] at hv
          split at hv
          · rw [show w'.cell? ⟨b, o + 0 + i, none⟩ = w.cell? ⟨b, o + i, none⟩ from cell?_same (by rw [hw'])]; exact hc' i v hv
          · cases hv)]
        simp
  · rename_i i off k' m cp
    cases hb : Nat.beq k k' with
    | false => rw [hb] at h; exact h.elim
    | true =>
      rw [hb] at h
      have := Nat.eq_of_beq_eq_true hb
      subst this
      simp only [cond_true] at h
      split at h
      · rename_i l os hbox
        obtain ⟨b, hb, _, _, _, ey⟩ := rep_bs hr
        exact boxed _ off m cp b l os (mem_own hbox) hb ey h.1 h.2
      · exact h.elim
  · rename_i i off k' m cp
    cases hb : Nat.beq k k' with
    | false => rw [hb] at h; exact h.elim
    | true =>
      rw [hb] at h
      have := Nat.eq_of_beq_eq_true hb
      subst this
      simp only [cond_true] at h
      split at h
      · rename_i l os hbox
        obtain ⟨_, b, hb, _, _, _, ey⟩ := rep_xs hr
        exact boxed _ off m cp b l os (mem_env hbox) hb ey h.1 h.2
      · exact h.elim
  · rename_i cp
    have ey := (rep_v hr).1
    subst ey
    refine ⟨0, [], none, cp, [], h, rfl, by simp only [RepL], by simp, fun j hj w' _ => ?_⟩
    simp [Builtin.firstCells]
  · exact h.elim

def setBox (c : Cfg) (own : Bool) (i : Nat) (x : Bx) : Cfg := bif own then { c with own := c.own.set i x } else { c with env := c.env.set i x }

def mkSl (ow : Bool) (i off k n c : Nat) : AV := bif ow then .bs i off k n c else .xs i off k n c

/-- The box and the row of it in which a slice lies. -/
def dstA (c : Cfg) (k : Nat) (x : AV) (K : Bool → Nat → Nat → Nat → Nat → List AV → List Nat → Prop) : Prop :=
  match x with
  | .bs i off k' m cp => bif Nat.beq k k' then (match c.own[i]? with
    | some (.cells l os) => K true i off m cp l os
    | _ => False) else False
  | .xs i off k' m cp => bif Nat.beq k k' then (match c.env[i]? with
    | some (.cells l os) => K false i off m cp l os
    | _ => False) else False
  | _ => False

theorem dst_run (hi : Inv n W0 G0 c a w g) {k : Nat} {x : AV} {y : Value} {K : Bool → Nat → Nat → Nat → Nat → List AV → List Nat → Prop} (h : dstA c k x K) (hr : Rep w g.hw g.bs c.base x y) :
    ∃ ow i off m cp l os q b cs e, K ow i off m cp l os ∧ y = .slice (some ⟨b, off, none⟩) m cp ∧ g.bs[q]? = some b ∧ c.mem[q]? = some (.cells l os) ∧ w.heap[b]? = some (.cells cs e (0, 0)) ∧ cs.size = l.length ∧ 0 < k ∧ m ≤ cp ∧ cp ≤ 9223372036854775807 ∧
      (∀ (w' : World) (hw' : Hw) (m' : Nat), m' ≤ cp → Rep w' hw' g.bs c.base (mkSl ow i off k m' cp) (.slice (some ⟨b, off, none⟩) m' cp)) ∧
      (∀ off' ls os', (ow = true ∨ pfL ls = true) → (setBox c ow i (.cells (wrL l off' ls) os')).mem = c.mem.set q (.cells (wrL l off' ls) os') ∧ (∀ x ∈ (setBox c ow i (.cells (wrL l off' ls) os')).env, Bx.cl c.base 0 x) ∧ (setBox c ow i (.cells (wrL l off' ls) os')).base = c.base) := by
  unfold dstA at h
  split at h
  · rename_i i off k' m cp
    cases hb : Nat.beq k k' with
    | false => rw [hb] at h; exact h.elim
    | true =>
      rw [hb] at h
      have := Nat.eq_of_beq_eq_true hb
      subst this
      simp only [cond_true] at h
      split at h
      · rename_i l os hbox
        obtain ⟨b, hb, hk0, hmc, hcp, ey⟩ := rep_bs hr
        obtain ⟨cs, e, hheap, hrl, _⟩ := hi.good.box _ _ b (mem_own hbox) hb
        have hlen := RepL.length hrl
        refine ⟨true, i, off, m, cp, l, os, _, b, cs, e, h, ey, hb, mem_own hbox, hheap, by simpa using hlen, hk0, hmc, hcp, fun w' hw' m' hm' => rep_mk_leaf rfl rfl (by simp only [mkSl, cond_true, RepV]; exact ⟨b, hb, hk0, hm', hcp, rfl⟩), fun off' ls os' _ => ⟨set_own, hi.ecl, rfl⟩⟩
      · exact h.elim
  · rename_i i off k' m cp
    cases hb : Nat.beq k k' with
    | false => rw [hb] at h; exact h.elim
    | true =>
      rw [hb] at h
      have := Nat.eq_of_beq_eq_true hb
      subst this
      simp only [cond_true] at h
      split at h
      · rename_i l os hbox
        obtain ⟨hib, b, hb, hk0, hmc, hcp, ey⟩ := rep_xs hr
        obtain ⟨cs, e, hheap, hrl, _⟩ := hi.good.box _ _ b (mem_env hbox) hb
        have hlen := RepL.length hrl
        have hil := (List.getElem?_eq_some_iff.1 hbox).1
        have hcl : ∀ off' ls os', pfL ls = true → Bx.cl c.base 0 (.cells (wrL l off' ls) os') := fun off' ls os' hp => by
          have := hi.ecl _ (List.mem_of_getElem? hbox)
          simp only [Bx.cl] at this ⊢
          exact clL_app (clL_app (clL_take _ this) (clL_of_pf _ hp)) (clL_drop _ this)
        refine ⟨false, i, off, m, cp, l, os, _, b, cs, e, h, ey, hb, mem_env hbox, hheap, by simpa using hlen, hk0, hmc, hcp, fun w' hw' m' hm' => rep_mk_leaf rfl rfl (by simp only [mkSl, cond_false, RepV]; exact ⟨hib, b, hb, hk0, hm', hcp, rfl⟩), fun off' ls os' hp => ⟨set_env hil, ecl_set hi.ecl (hcl _ _ _ (by simpa using hp)), by simp [setBox, Cfg.base]⟩⟩
      · exact h.elim
  · exact h.elim

/-- copy. -/
def copyA (P : Program) (c : Cfg) (cl : Call) (dst : Option Tmp) (K : Cfg → Prop) : Prop :=
  match cl.args.toList, cl.argTypes.toList with
  | [d, s], [t, _] => (match P.underlying t with
    | some (.slice e) => bif (P.underlying e).isSome then dstA c (P.cellsOf e) (evA c d) fun ow i off m _ l os => srcA c (P.cellsOf e) (evA c s) fun ms ls =>
        off + m * P.cellsOf e ≤ l.length ∧ (ow = true ∨ pfL ls = true) ∧
          K ((setBox c ow i (.cells (wrL l off (ls.take (Nat.min ms m * P.cellsOf e))) (os.filter fun j => decide (j < off ∨ off + (ls.take (Nat.min ms m * P.cellsOf e)).length ≤ j)))).put dst (.v (.int .i64 (Nat.min ms m)))) else False
    | _ => False)
  | _, _ => False
end

theorem pfL_take : ∀ {l : List AV} (k : Nat), pfL l = true → pfL (l.take k) = true
  | _, 0, _ => by simp [pfL]
  | [], k + 1, _ => by simp [pfL]
  | x :: l, k + 1, h => by simp only [List.take_succ_cons, pfL, Bool.and_eq_true] at h ⊢; exact ⟨h.1, pfL_take k h.2⟩

section
variable {P : Program} {n : Nat} {c : Cfg} {K : Cfg → Prop} {dst : Option Tmp} {type : TypeId} {pos : String} {after : Array Edge} {guard : Option (Nat × Bool)}

theorem copyA_sound {cl : Call} (hcl : cl.callee = .builtin .copy) (ho : opsOk n ⟨dst, .call cl, type, pos, after, guard⟩ = true) (h : copyA P c cl dst K) : XStep P n ⟨dst, .call cl, type, pos, after, guard⟩ c K := by
  obtain ⟨callee, args, argTypes⟩ := cl
  simp only at hcl
  subst hcl
  unfold copyA at h
  split at h
  · rename_i d s t t' ha ht
    have e1 : args = #[d, s] := by apply Array.toList_inj.1; simpa using ha
    have e2 : argTypes = #[t, t'] := by apply Array.toList_inj.1; simpa using ht
    subst e1 e2
    split at h
    · rename_i e hu
      cases hz : (P.underlying e).isSome with
      | false => rw [hz] at h; exact h.elim
      | true =>
        rw [hz] at h
        simp only [cond_true] at h
        intro W0 G0 a w g hi next Q hn
        have hmd : d ∈ (Op.call ⟨.builtin .copy, #[d, s], #[t, t']⟩).operands := by simp [Op.operands, Call.operands]
        have hms : s ∈ (Op.call ⟨.builtin .copy, #[d, s], #[t, t']⟩).operands := by simp [Op.operands, Call.operands]
        obtain ⟨ow, i, off, m, cp, l, os, q, b, cs, et, h, ed, hb, hbox, hheap, hsz, hk0, hmc, _, _, hset⟩ := dst_run hi h (hi.eval (opsOk_mem ho hmd))
        obtain ⟨ms, ls, A, cps, news, ⟨hfit, hpf, hK⟩, es, hrn, hnl, hfc⟩ := src_run (P := P) hi h (hi.eval (opsOk_mem ho hms))
        have hls := RepL.length hrn
        have hmm : Nat.min ms m * P.cellsOf e ≤ m * P.cellsOf e := Nat.mul_le_mul_right _ (Nat.min_le_right _ _)
        have hmm' : Nat.min ms m * P.cellsOf e ≤ ms * P.cellsOf e := Nat.mul_le_mul_right _ (Nat.min_le_left _ _)
        have hL : (ls.take (Nat.min ms m * P.cellsOf e)).length = Nat.min ms m * P.cellsOf e := by rw [List.length_take]; omega
        have hN : (news.take (Nat.min ms m * P.cellsOf e)).length = Nat.min ms m * P.cellsOf e := by rw [List.length_take]; omega
        have hst := run_storeCells_at P b off et (news.take (Nat.min ms m * P.cellsOf e)) 0 cs w hheap (by rw [hN]; omega) (fun v hv => RepL.one hrn v (List.mem_of_mem_take hv))
        simp only [Nat.add_zero] at hst
        have hpf' : ow = true ∨ pfL (ls.take (Nat.min ms m * P.cellsOf e)) = true := hpf.imp id (pfL_take _)
        obtain ⟨s1, s2, s3⟩ := hset off (ls.take (Nat.min ms m * P.cellsOf e)) (os.filter fun j => decide (j < off ∨ off + (ls.take (Nat.min ms m * P.cellsOf e)).length ≤ j)) hpf'
        have hi' := hi.writeRow hb hbox hheap (hrn.take _) (by rw [hL]; omega) (setBox c ow i (.cells (wrL l off (ls.take (Nat.min ms m * P.cellsOf e))) (os.filter fun j => decide (j < off ∨ off + (ls.take (Nat.min ms m * P.cellsOf e)).length ≤ j)))) (by cases ow <;> rfl) (by cases ow <;> rfl) s1 s3 s2
        unfold Oper.wp
        have hrun : (execOp a.eval ⟨dst, .call ⟨.builtin .copy, #[d, s], #[t, t']⟩, type, pos, after, guard⟩).run P w = .ok (.value (goInt (Nat.min ms m))) (w.setRow b (wrL cs.toList off (news.take (Nat.min ms m * P.cellsOf e))).toArray) := by
          have hfc' := hfc (Nat.min ms m) (Nat.min_le_left _ _) w rfl
          rw [es] at hfc'
          simp only [execOp, resolve, invoke, builtin, Sem.run_bind, Sem.run_pure, Result.andThen_ok, List.map_toArray, List.map_cons, List.map_nil, ed, es, Builtin.copy_, Builtin.lenOf]
          simp [hst, wrL_all, run_und hu, run_size (info_of_und hz), hfc']
        rw [hrun]
        exact hn _ _ _ g hK (hi'.putO (opsOk_dst ho) rep_int)
    · exact h.elim
  · exact h.elim
end
end Go.Ev
end
section
/- Written by this session: append to slices that lie in boxes. Conditions: none beyond those in each statement. -/
namespace Go.Ev
open Go

theorem zeroCells_list (z : Array Value) (n : Nat) : (Builtin.zeroCells z n).toList = (List.replicate n z.toList).flatten := by
  unfold Builtin.zeroCells
  induction n with
  | zero => simp
  | succ n ih =>
    rw [List.replicate_succ', List.flatten_concat]
    have e : (Array.map (fun i => z[i % z.size]!) (Array.range ((n + 1) * z.size))).toList = (Array.map (fun i => z[i % z.size]!) (Array.range (n * z.size))).toList ++ z.toList := by
      simp only [Array.toList_map, Array.toList_range]
      rw [Nat.add_mul, Nat.one_mul, List.range_add, List.map_append]
      congr 1
      apply List.ext_getElem
      · simp
      · intro i h1 h2
        have hi : i < z.size := by simpa using h2
        simp only [List.getElem_map, List.getElem_range, Array.getElem_toList]
        rw [show (n * z.size + i) % z.size = i from by rw [Nat.mul_comm, Nat.mul_add_mod, Nat.mod_eq_of_lt hi]]
        simp [hi]
    rw [e, ih]

theorem RepL.replicate {w : World} {hw : Hw} {bs : List Nat} {base : Nat} {l : List AV} {vs : List Value} (h : RepL w hw bs base l vs) : ∀ n : Nat, RepL w hw bs base (List.replicate n l).flatten (List.replicate n vs).flatten
  | 0 => by simp [RepL]
  | n + 1 => by
    rw [List.replicate_succ, List.replicate_succ, List.flatten_cons, List.flatten_cons]
    exact h.append (RepL.replicate h n)

/-- What lies in a new block behind an append. -/
def grownL (old ls : List AV) (rest : Nat) (z : Value) : List AV := old ++ ls ++ (List.replicate rest (cst z).leaves).flatten

def appendB (P : Program) (n : Nat) (c : Cfg) (cl : Call) (dst : Option Tmp) (K : Cfg → Prop) : Prop :=
  match cl.args.toList, cl.argTypes.toList, dst with
  | [x0, x1], [t, t'], some _ => match P.underlying t, P.underlying t' with
    | some (.slice e), some (.slice _) => match P.info? e with
      | some i => match i.zero with
        | some z => bif Nat.blt 0 i.size && Nat.beq z.cells.size i.size && okTmp n (.const z) && leavesOk (cst z) then
            match evA c x0 with
            | .v (.slice none 0 0) => srcA c i.size (evA c x1) fun m1 ls => m1 * i.bytes ≤ 140737488355328 ∧ m1 ≤ 140737488355328 ∧
                (m1 = 0 → K (c.put dst (.v (.slice none 0 0)))) ∧
                (0 < m1 → ∀ c', m1 ≤ c' → c' ≤ 9223372036854775807 → K (({ c with own := c.own ++ [.cells (grownL [] ls (c' - m1) z) []] } : Cfg).put dst (.bs c.own.length 0 i.size m1 c')))
            | x => dstA c i.size x fun ow bi off m cp l os => srcA c i.size (evA c x1) fun m1 ls => (m + m1) * i.bytes ≤ 140737488355328 ∧ m + m1 ≤ 140737488355328 ∧ off + cp * i.size ≤ l.length ∧ (ow = true ∨ pfL ls = true) ∧
                (m + m1 ≤ cp → K ((setBox c ow bi (.cells (wrL l (off + m * i.size) ls) (os.filter fun j => decide (j < off + m * i.size ∨ off + m * i.size + ls.length ≤ j)))).put dst (mkSl ow bi off i.size (m + m1) cp))) ∧
                (cp < m + m1 → ∀ c', m + m1 ≤ c' → c' ≤ 9223372036854775807 → K (({ c with own := c.own ++ [.cells (grownL ((l.drop off).take (m * i.size)) ls (c' - (m + m1)) z) []] } : Cfg).put dst (.bs c.own.length 0 i.size (m + m1) c')))
          else False
        | none => False
      | none => False
    | _, _ => False
  | _, _, _ => False

section
variable {P : Program} {n : Nat} {c : Cfg} {K : Cfg → Prop} {dst : Option Tmp} {type : TypeId} {pos : String} {after : Array Edge} {guard : Option (Nat × Bool)}

theorem appendB_sound {cl : Call} (hcl : cl.callee = .builtin .append) (ho : opsOk n ⟨dst, .call cl, type, pos, after, guard⟩ = true) (h : appendB P n c cl dst K) : XStep P n ⟨dst, .call cl, type, pos, after, guard⟩ c K := by
  obtain ⟨callee, args, argTypes⟩ := cl
  simp only at hcl
  subst hcl
  unfold appendB at h
  split at h
  · rename_i x0 x1 t t' d ha ht
    have e1 : args = #[x0, x1] := by apply Array.toList_inj.1; simpa using ha
    have e2 : argTypes = #[t, t'] := by apply Array.toList_inj.1; simpa using ht
    subst e1 e2
    split at h
    · rename_i e e' hu hu'
      split at h
      · rename_i i hin
        split at h
        · rename_i z hz
          cases hc : (Nat.blt 0 i.size && Nat.beq z.cells.size i.size && okTmp n (.const z) && leavesOk (cst z)) with
          | false => rw [hc] at h; exact h.elim
          | true =>
            rw [hc] at h
            simp only [cond_true] at h
            simp only [Bool.and_eq_true] at hc
            obtain ⟨⟨⟨k0, kz⟩, okz⟩, lz⟩ := hc
            have hzk : z.cells.size = i.size := Nat.eq_of_beq_eq_true kz
            have hk0 : 0 < i.size := by rw [← Nat.blt_eq]; exact k0
            intro W0 G0 a w g hi next Q hn
            have hm0 : x0 ∈ (Op.call ⟨.builtin .append, #[x0, x1], #[t, t']⟩).operands := by simp [Op.operands, Call.operands]
            have hm1 : x1 ∈ (Op.call ⟨.builtin .append, #[x0, x1], #[t, t']⟩).operands := by simp [Op.operands, Call.operands]
            have r0 := hi.eval (opsOk_mem ho hm0)
            have r1 := hi.eval (opsOk_mem ho hm1)
            have hrun0 : ∀ u w', (Builtin.append_ #[t, t'] type #[a.eval x0, a.eval x1]).run P w = .ok u w' → (execOp a.eval ⟨some d, .call ⟨.builtin .append, #[x0, x1], #[t, t']⟩, type, pos, after, guard⟩).run P w = .ok (.value u) w' := by
              intro u w' h
              simp [execOp, resolve, invoke, builtin, h]
            have hzr : RepL w g.hw g.bs c.base (cst z).leaves z.cells.toList := (rep_cells (leavesOk_or lz) (cst_rep (hw := g.hw) (bs := g.bs) (base := c.base) (w := w) z okz)).1
            -- a new block
            have grow : ∀ (A : Option Addr) (m cp : Nat) (old : List AV) (olds : List Value) (m1 : Nat) (ls : List AV) (A1 : Option Addr) (cp1 : Nat) (news : List Value), a.eval x0 = .slice A m cp → a.eval x1 = .slice A1 m1 cp1 →
                RepL w g.hw g.bs c.base old olds → RepL w g.hw g.bs c.base ls news → (∀ w' : World, w'.heap = w.heap → (Builtin.firstCells i.size m (.slice A m cp)).run P w' = .ok olds.toArray w') →
                (∀ w' : World, w'.heap = w.heap → (Builtin.firstCells i.size m1 (.slice A1 m1 cp1)).run P w' = .ok news.toArray w') → cp < m + m1 → (m + m1) * i.bytes ≤ 140737488355328 → m + m1 ≤ 140737488355328 →
                (∀ c', m + m1 ≤ c' → c' ≤ 9223372036854775807 → K (({ c with own := c.own ++ [.cells (grownL old ls (c' - (m + m1)) z) []] } : Cfg).put (some d) (.bs c.own.length 0 i.size (m + m1) c'))) →
                Oper.wp P ⟨some d, .call ⟨.builtin .append, #[x0, x1], #[t, t']⟩, type, pos, after, guard⟩ a w next Q := by
              intro A m cp old olds m1 ls A1 cp1 news e0 e1 ho1 hn1 f0 f1 hg hb h47 hK
              have h63 : m + m1 ≤ maxLen := by simp only [maxLen]; omega
              have hrun := run_append_grows (w := w) (ty := type) (x := .slice A1 m1 cp1) hu hu' hin hz (fun w' => by simp [Builtin.lenOf]) f0 f1 hg hb h63
              rw [← e0, ← e1] at hrun
              have hge := grownCap_ge w (m + m1) cp e
              have hle := grownCap_le_maxLen w (m + m1) cp e h63
              simp only [maxLen] at hle
              generalize hcp : grownCap w (m + m1) cp e = c' at *
              have hid := hi.drew
              obtain ⟨g', hi', hb'⟩ := hid.newBoxG (.cells (grownL old ls (c' - (m + m1)) z) []) (.cells (olds.toArray ++ news.toArray ++ Builtin.zeroCells z.cells (c' - (m + m1))) e) fun g' hH hB =>
                ⟨_, e, heap_push_new, by
                  have hH' : HwLe w g.hw (push w.drew (.cells (olds.toArray ++ news.toArray ++ Builtin.zeroCells z.cells (c' - (m + m1))) e)) g'.hw := HwLe.trans (w2 := w.drew) (HwLe.of_heap (w := w) (w' := w.drew) rfl) hH
                  have q1 := RepL.mono hH' hB _ _ ho1
                  have q2 := RepL.mono hH' hB _ _ hn1
                  have q3 := RepL.mono hH' hB _ _ (hzr.replicate (c' - (m + m1)))
                  have := (q1.append q2).append q3
                  simpa [grownL, zeroCells_list] using this, by simp⟩
              unfold Oper.wp
              rw [hrun0 _ _ hrun]
              refine hn _ _ _ g' (hK c' hge hle) (hi'.put (opsOk_dst ho d rfl) (rep_mk_leaf rfl rfl ?_))
              simp only [RepV]
              exact ⟨_, hb', hk0, hge, hle, rfl⟩
            split at h
            · rename_i hx0
              obtain ⟨m1, ls, A1, cp1, news, ⟨hb, h47, hK0, hK1⟩, es, hrn, hnl, hfc⟩ := src_run (P := P) hi h r1
              have e0 := (rep_v (hx0 ▸ r0)).1
              have hfc' : ∀ w' : World, w'.heap = w.heap → (Builtin.firstCells i.size m1 (.slice A1 m1 cp1)).run P w' = .ok news.toArray w' := fun w' hw' => by
                have := hfc m1 (Nat.le_refl _) w' hw'
                rw [es, List.take_of_length_le (by omega)] at this; exact this
              rcases Nat.eq_zero_or_pos m1 with hz1 | hp
              · subst hz1
                unfold Oper.wp
                have hf := hfc' w rfl
                have hnn : news = [] := List.eq_nil_of_length_eq_zero (by omega)
                subst hnn
                rw [hrun0 (.slice none 0 0) w (by rw [e0, es]; simp [Builtin.append_, run_und hu, run_und hu', sizeOf, typeInfo, hin, Builtin.lenOf, hf])]
                exact hn _ _ _ g (hK0 rfl) (hi.put (opsOk_dst ho d rfl) (rep_v_mk rfl))
              · refine grow none 0 0 [] [] m1 ls A1 cp1 news e0 es (by simp only [RepL]) hrn (fun w' _ => by simp [Builtin.firstCells]) hfc' (by omega) (by simpa using hb) (by omega) (fun c' q1 q2 => ?_)
                have := hK1 hp c' (by omega) q2
                simpa using this
            · obtain ⟨ow, bi, off, m, cp, l, os, q, b, cs, et, h, ed, hb, hbox, hheap, hsz, _, hmc, hcp47, hrep, hset⟩ := dst_run hi h r0
              obtain ⟨m1, ls, A1, cp1, news, ⟨hby, h47, hfit, hpf, hK0, hK1⟩, es, hrn, hnl, hfc⟩ := src_run (P := P) hi h r1
              have hls := RepL.length hrn
              have hfc' : ∀ w' : World, w'.heap = w.heap → (Builtin.firstCells i.size m1 (.slice A1 m1 cp1)).run P w' = .ok news.toArray w' := fun w' hw' => by
                have := hfc m1 (Nat.le_refl _) w' hw'
                rw [es, List.take_of_length_le (by omega)] at this; exact this
              have hmk : m * i.size ≤ cp * i.size := Nat.mul_le_mul_right _ hmc
              by_cases hroom : m + m1 ≤ cp
              · have hmul : m * i.size + m1 * i.size ≤ cp * i.size := by rw [← Nat.add_mul]; exact Nat.mul_le_mul_right _ hroom
                have hrun := run_append_fits (w := w) (ty := type) (x := .slice A1 m1 cp1) (o := off) hu hu' hin (fun w' => by simp [Builtin.lenOf]) hfc' hheap hnl (RepL.one hrn) hroom (by rw [hsz]; exact hfit)
                rw [← ed, ← es] at hrun
                obtain ⟨s1, s2, s3⟩ := hset (off + m * i.size) ls (os.filter fun j => decide (j < off + m * i.size ∨ off + m * i.size + ls.length ≤ j)) hpf
                have hi' := hi.writeRow hb hbox hheap hrn (by rw [← hls, hnl]; omega) (setBox c ow bi (.cells (wrL l (off + m * i.size) ls) (os.filter fun j => decide (j < off + m * i.size ∨ off + m * i.size + ls.length ≤ j)))) (by cases ow <;> rfl) (by cases ow <;> rfl) s1 s3 s2
                unfold Oper.wp
                rw [hrun0 _ _ hrun]
                refine hn _ _ _ g (hK0 hroom) (hi'.put (opsOk_dst ho d rfl) ?_)
                rw [s3]; exact hrep _ _ _ hroom
              · refine grow _ m cp ((l.drop off).take (m * i.size)) ((cs.toList.drop off).take (m * i.size)) m1 ls A1 cp1 news ed es ?_ hrn (fun w' hw' => ?_) hfc' (by omega) hby h47 (hK1 (by omega))
                · obtain ⟨cs0, e0, hheap0, hrl, _⟩ := hi.good.box q _ b hbox hb
                  rw [hheap] at hheap0
                  cases hheap0
                  exact (hrl.drop off).take _
                · have hc : CellsAt w' b off ((cs.toList.drop off).take (m * i.size)) := by
                    have h0 := (cells_of_block (w := w') (b := b) (cs := cs) (e := et) (f := (0, 0)) (by rw [hw']; exact hheap)).sub off (m * i.size)
                    simpa using h0
                  simp only [Builtin.firstCells]
                  unfold loadCells
                  rw [run_loadCellsFrom (m * i.size) 0 #[] ((cs.toList.drop off).take (m * i.size)) (by simp only [List.length_take, List.length_drop, Array.length_toList, hsz]; omega) (fun i v hv => by simpa using hc i v hv)]
                  simp
        · exact h.elim
      · exact h.elim
    · exact h.elim
  · exact h.elim
end
end Go.Ev
end
section
/- Written by this session: a slice out of parts, in a box. Conditions: none beyond those in each statement. -/
namespace Go.Ev
open Go

theorem repL_flat {w : World} {hw : Hw} {bs : List Nat} {base k : Nat} : ∀ (l : List AV) (ys : List Value), RepT w hw bs base l ys → (∀ x ∈ l, leavesOk x = true ∧ x.leaves.length = k) →
    RepL w hw bs base (l.flatMap AV.leaves) (ys.flatMap fun v => v.cells.toList) ∧ (∀ y ∈ ys, y.cells.size = k) ∧ ys.length = l.length
  | [], _, h, _ => by simp only [RepT] at h; subst h; simp [RepL]
  | x :: l, _, h, hl => by
    simp only [RepT] at h
    obtain ⟨y, ys, rfl, h1, h2⟩ := h
    obtain ⟨q1, q3⟩ := hl x (by simp)
    obtain ⟨r1, r2⟩ := rep_cells (leavesOk_or q1) (rep_of h1)
    obtain ⟨i1, i2, i3⟩ := repL_flat l ys h2 fun z hz => hl z (by simp [hz])
    refine ⟨by simp only [List.flatMap_cons]; exact r1.append i1, fun z hz => ?_, by simp [i3]⟩
    rcases List.mem_cons.1 hz with rfl | hz
    · rw [r2, q3]
    · exact i2 z hz

section
variable {P : Program} {n : Nat} {c : Cfg} {K : Cfg → Prop}

theorem XStep.buildSliceB {t e : TypeId} {len k : Nat} {parts : Array (Nat × Operand)} {xs : List Operand} {i : TypeInfo} {z : Value} {d : Nat} {type : TypeId} {pos : String} {after : Array Edge} {guard : Option (Nat × Bool)}
    (ho : opsOk n ⟨some d, .buildSlice t len parts, type, pos, after, guard⟩ = true) (ht : P.underlying t = some (.slice e)) (hin : P.info? e = some i) (hz : i.zero = some z) (hk : i.size = k) (hk0 : 0 < k)
    (hlen : len = xs.length) (hparts : parts.toList = xs.zipIdx.map fun (x, j) => (j, x)) (hsm : len * k ≤ 16777216)
    (hxs : ∀ x ∈ xs, leavesOk (evA c x) = true ∧ (evA c x).isTup = false ∧ (evA c x).leaves.length = k)
    (h : K (({ c with own := c.own ++ [.cells ((xs.map (evA c)).flatMap AV.leaves) []] } : Cfg).put (some d) (.bs c.own.length 0 k xs.length xs.length))) : XStep P n ⟨some d, .buildSlice t len parts, type, pos, after, guard⟩ c K := by
  intro W0 G0 a w g hi next Q hn
  have hmem : ∀ x ∈ xs, x ∈ (Op.buildSlice t len parts).operands := fun x hx => by
    obtain ⟨j, hj, rfl⟩ := List.mem_iff_getElem.1 hx
    simp only [Op.operands, List.mem_toArray, List.mem_map, hparts]
    exact ⟨(j, xs[j]), ⟨(xs[j], j), by simp [List.mem_zipIdx_iff_getElem?, List.getElem?_eq_getElem hj], rfl⟩, rfl⟩
  have hT := argsRep hi xs (fun x hx => opsOk_mem ho (hmem x hx)) (by
    rw [List.all_eq_true]; intro x hx; rw [(hxs x hx).2.1]; rfl)
  obtain ⟨hE, hcs, hl⟩ := repL_flat (k := k) _ _ hT (by
    intro y hy
    obtain ⟨x, hx, rfl⟩ := List.mem_map.1 hy
    exact ⟨(hxs x hx).1, (hxs x hx).2.2⟩)
  simp only [List.length_map] at hl
  subst hlen
  let cells0 : Array Value := (Array.range (xs.length * k)).map fun j => (if xs.length * k = 0 then (#[] : Array Value) else z.cells)[j % (if xs.length * k = 0 then (#[] : Array Value) else z.cells).size]!
  obtain ⟨cells', hfill, hcl⟩ := fill_row hk0 (xs.map a.eval) 0 cells0 [] hcs (by simp) (by simp [cells0])
  have hcells : cells' = ((xs.map a.eval).flatMap fun v => v.cells.toList).toArray := by apply Array.toList_inj.1; rw [hcl]; simp
  have hps : (parts.map fun (p : Nat × Operand) => (p.1, a.eval p.2)).toList = ((xs.map a.eval).zipIdx 0).map fun (v, j) => (j, v) := by
    rw [Array.toList_map, hparts]
    simp [List.zipIdx_map]
  obtain ⟨g', hi', hb'⟩ := hi.newBoxG (.cells ((xs.map (evA c)).flatMap AV.leaves) []) (.cells cells' e) fun g' hH hB =>
    ⟨_, e, heap_push_new, by rw [show cells'.toList = (xs.map a.eval).flatMap fun v => v.cells.toList from by rw [hcl]; simp]; exact RepL.mono hH hB _ _ hE, by simp⟩
  unfold Oper.wp
  have hsz : (sizeOf e).run P w = .ok k w := by simp [sizeOf, typeInfo, hin, hk]
  have hrun : (execOp a.eval ⟨some d, .buildSlice t xs.length parts, type, pos, after, guard⟩).run P w = .ok (.value (.slice (some ⟨w.heap.size, 0, none⟩) xs.length xs.length)) (push w (.cells cells' e)) := by
    have hc0 : ∀ zz : Array Value, zz = (if xs.length * k = 0 then (#[] : Array Value) else z.cells) → (Array.range (xs.length * k)).map (fun x => zz[x % zz.size]!) = cells0 := by rintro _ rfl; rfl
    simp only [execOp, Instr.buildSlice, Sem.run_bind, run_und ht, Result.andThen_ok, hsz]
    rw [if_neg (by omega : ¬ xs.length * k > 2 ^ 24)]
    simp only [hps]
    by_cases h0 : xs.length * k = 0
    · rw [if_pos h0]
      simp only [Sem.run_bind, Sem.run_pure, Result.andThen_ok]
      rw [hc0 #[] (by rw [if_pos h0]), hfill]
      simp [newRow, push]
    · rw [if_neg h0]
      have hzv : (zeroValue e).run P w = .ok z w := by simp [zeroValue, typeInfo, hin, hz]
      simp only [Sem.run_bind, Sem.run_pure, Result.andThen_ok, hzv]
      rw [hc0 z.cells (by rw [if_neg h0]), hfill]
      simp [newRow, push]
  rw [hrun]
  refine hn _ _ _ g' h (hi'.put (opsOk_dst ho d rfl) (rep_mk_leaf rfl rfl ?_))
  simp only [RepV]
  exact ⟨_, hb', hk0, Nat.le_refl _, Nat.le_trans (Nat.le_mul_of_pos_right _ hk0) (Nat.le_trans hsm (by decide)), rfl⟩
end
end Go.Ev
end
