/- Written by programs of this session: laws and contracts that the law's proof stands on, merged into one text. Conditions: none beyond those in each statement. -/
import Derived.Test.YtepdiooaoegpfaaGreatDoorPkEv11
import Derived.Lib.AppendZerosOnto
import Derived.Lib.Overlaps
section
/- Written by this session: append of zeros to a slice in a box that has no room. Conditions: none beyond those in each statement. -/
namespace Go.Ev
open Go

def appendZ (P : Program) (n : Nat) (c : Cfg) (cl : Call) (dst : Option Tmp) (K : Cfg → Prop) : Prop :=
  match cl.args.toList, cl.argTypes.toList, dst with
  | [x0, x1], [t, t'], some _ => match P.underlying t, P.underlying t', evA c x1 with
    | some (.slice e), some (.int _), .v (.int _ q) => match P.info? e with
      | some i => match i.zero with
        | some z => bif Nat.blt 0 i.size && Nat.beq z.cells.size i.size && okTmp n (.const z) && leavesOk (cst z) then
            dstA c i.size (evA c x0) fun _ _ off m cp l _ => 0 < q ∧ (m + q.toNat) * i.bytes ≤ 140737488355328 ∧ m + q.toNat ≤ 140737488355328 ∧ off + cp * i.size ≤ l.length ∧ cp < m + q.toNat ∧
                (∀ c', m + q.toNat ≤ c' → c' ≤ 9223372036854775807 → K (({ c with own := c.own ++ [.cells (grownL ((l.drop off).take (m * i.size)) (List.replicate q.toNat (cst z).leaves).flatten (c' - (m + q.toNat)) z) []] } : Cfg).put dst (.bs c.own.length 0 i.size (m + q.toNat) c')))
          else False
        | none => False
      | none => False
    | _, _, _ => False
  | _, _, _ => False

section
variable {P : Program} {n : Nat} {c : Cfg} {K : Cfg → Prop} {dst : Option Tmp} {type : TypeId} {pos : String} {after : Array Edge} {guard : Option (Nat × Bool)}

theorem appendZ_sound {cl : Call} (hcl : cl.callee = .builtin .append) (ho : opsOk n ⟨dst, .call cl, type, pos, after, guard⟩ = true) (h : appendZ P n c cl dst K) : XStep P n ⟨dst, .call cl, type, pos, after, guard⟩ c K := by
  obtain ⟨callee, args, argTypes⟩ := cl
  simp only at hcl
  subst hcl
  unfold appendZ at h
  split at h
  · rename_i x0 x1 t t' d ha ht
    have e1 : args = #[x0, x1] := by apply Array.toList_inj.1; simpa using ha
    have e2 : argTypes = #[t, t'] := by apply Array.toList_inj.1; simpa using ht
    subst e1 e2
    split at h
    · rename_i e kn kq qi hu hu' hx1
      split at h
      · rename_i i hin
        split at h
        · rename_i z hz
          cases hc : (Nat.blt 0 i.size && Nat.beq z.cells.size i.size && okTmp n (.const z) && leavesOk (cst z)) with
          | false => rw [hc] at h; exact h.elim
          | true =>
            rw [hc] at h
            simp only [cond_true] at h
            simp only [Bool.and_eq_true] at hc
            obtain ⟨⟨⟨k0, kz⟩, okz⟩, lz⟩ := hc
            have hzk : z.cells.size = i.size := Nat.eq_of_beq_eq_true kz
            have hk0 : 0 < i.size := by rw [← Nat.blt_eq]; exact k0
            intro W0 G0 a w g hi next Q hn
            have hm0 : x0 ∈ (Op.call ⟨.builtin .append, #[x0, x1], #[t, t']⟩).operands := by simp [Op.operands, Call.operands]
            have hm1 : x1 ∈ (Op.call ⟨.builtin .append, #[x0, x1], #[t, t']⟩).operands := by simp [Op.operands, Call.operands]
            have r0 := hi.eval (opsOk_mem ho hm0)
            have ex1 := (rep_v (hx1 ▸ hi.eval (opsOk_mem ho hm1))).1
            have hrun0 : ∀ u w', (Builtin.append_ #[t, t'] type #[a.eval x0, a.eval x1]).run P w = .ok u w' → (execOp a.eval ⟨some d, .call ⟨.builtin .append, #[x0, x1], #[t, t']⟩, type, pos, after, guard⟩).run P w = .ok (.value u) w' := by
              intro u w' h
              simp [execOp, resolve, invoke, builtin, h]
            have hzr : RepL w g.hw g.bs c.base (cst z).leaves z.cells.toList := (rep_cells (leavesOk_or lz) (cst_rep (hw := g.hw) (bs := g.bs) (base := c.base) (w := w) z okz)).1
            obtain ⟨ow, bi, off, m, cp, l, os, q, b, cs, et, ⟨hq, hby, h47, hfit, hg, hK⟩, ed, hb, hbox, hheap, hsz, _, hmc, hcp47, hrep, hset⟩ := dst_run hi h r0
            have hmk : m * i.size ≤ cp * i.size := Nat.mul_le_mul_right _ hmc
            have hold : RepL w g.hw g.bs c.base ((l.drop off).take (m * i.size)) ((cs.toList.drop off).take (m * i.size)) := by
              obtain ⟨cs0, e0, hheap0, hrl, _⟩ := hi.good.box q _ b hbox hb
              rw [hheap] at hheap0
              cases hheap0
              exact (hrl.drop off).take _
            have hf0 : ∀ w' : World, w'.heap = w.heap → (Builtin.firstCells i.size m (.slice (some ⟨b, off, none⟩) m cp)).run P w' = .ok ((cs.toList.drop off).take (m * i.size)).toArray w' := fun w' hw' => by
              have hc : CellsAt w' b off ((cs.toList.drop off).take (m * i.size)) := by
                have h0 := (cells_of_block (w := w') (b := b) (cs := cs) (e := et) (f := (0, 0)) (by rw [hw']; exact hheap)).sub off (m * i.size)
                simpa using h0
              simp only [Builtin.firstCells]
              unfold loadCells
              rw [run_loadCellsFrom (m * i.size) 0 #[] ((cs.toList.drop off).take (m * i.size)) (by simp only [List.length_take, List.length_drop, Array.length_toList, hsz]; omega) (fun i v hv => by simpa using hc i v hv)]
              simp
            have h63 : m + qi.toNat ≤ maxLen := by simp only [maxLen]; omega
            have hfit2 : Builtin.nextslicecap (m + qi.toNat) cp * i.bytes ≤ 281474976710656 := by have := growslice_fits hg hby; omega
            have hb2 : qi.toNat * i.bytes ≤ (m + qi.toNat) * i.bytes := Nat.mul_le_mul_right _ (by omega)
            have hrun := Lib.run_append_grow_zeros (P := P) w t t' type e i z kq kn hu hu' hin hz (some ⟨b, off, none⟩) m cp _ (hf0 w.drew rfl) qi.toNat (by omega) hk0 hg (by simp only [maxLen] at h63; omega) (by omega) hfit2
            have eq : ((qi.toNat : Nat) : Int) = qi := Int.toNat_of_nonneg (by omega)
            rw [eq, ← ed, ← ex1] at hrun
            have hge := grownCap_ge w (m + qi.toNat) cp e
            have hle := grownCap_le_maxLen w (m + qi.toNat) cp e h63
            simp only [maxLen] at hle
            generalize hcp : grownCap w (m + qi.toNat) cp e = c' at *
            have hid := hi.drew
            obtain ⟨g', hi', hb'⟩ := hid.newBoxG (.cells (grownL ((l.drop off).take (m * i.size)) (List.replicate qi.toNat (cst z).leaves).flatten (c' - (m + qi.toNat)) z) []) (.cells (((cs.toList.drop off).take (m * i.size)).toArray ++ Builtin.zeroCells z.cells qi.toNat ++ Builtin.zeroCells z.cells (c' - (m + qi.toNat))) e) fun g' hH hB =>
              ⟨_, e, heap_push_new, by
                have hH' : HwLe w g.hw (push w.drew (.cells (((cs.toList.drop off).take (m * i.size)).toArray ++ Builtin.zeroCells z.cells qi.toNat ++ Builtin.zeroCells z.cells (c' - (m + qi.toNat))) e)) g'.hw := HwLe.trans (w2 := w.drew) (HwLe.of_heap (w := w) (w' := w.drew) rfl) hH
                have q1 := RepL.mono hH' hB _ _ hold
                have q2 := RepL.mono hH' hB _ _ (hzr.replicate qi.toNat)
                have q3 := RepL.mono hH' hB _ _ (hzr.replicate (c' - (m + qi.toNat)))
                have := (q1.append q2).append q3
                simpa [grownL, zeroCells_list] using this, by simp⟩
            unfold Oper.wp
            rw [hrun0 _ _ hrun]
            refine hn _ _ _ g' (hK c' hge hle) (hi'.put (opsOk_dst ho d rfl) (rep_mk_leaf rfl rfl ?_))
            simp only [RepV]
            exact ⟨_, hb', hk0, hge, hle, rfl⟩
        · exact h.elim
      · exact h.elim
    · exact h.elim
  · exact h.elim
end
end Go.Ev
end
section
/- Written by this session: calls of functions that the model itself answers. Conditions: none beyond those in each statement. -/
namespace Go.Ev
open Go

/-- The model answers so, and leaves memory as it is. -/
def ExtAt (P : Program) (f : FuncId) (env own : List Bx) (args : List AV) (v : AV) : Prop :=
  ∀ (w : World) (g : Gh) (vs : List Value), Good w g (env ++ own) env.length → RepT w g.hw g.bs env.length args vs → ∃ u, (callFunc f vs.toArray).run P w = .ok (.value u) w ∧ Rep w g.hw g.bs env.length v u

theorem XStep.callExt {P : Program} {n : Nat} {c : Cfg} {K : Cfg → Prop} {dst : Option Tmp} {type : TypeId} {pos : String} {after : Array Edge} {guard : Option (Nat × Bool)} {f : FuncId} {args : Array Operand} {ts : Array TypeId} {v : AV}
    (ho : opsOk n ⟨dst, .call ⟨.value (.func f), args, ts⟩, type, pos, after, guard⟩ = true) (htup : (args.toList.all fun x => !(evA c x).isTup) = true) (hx : ExtAt P f c.env c.own (args.toList.map (evA c)) v) (h : K (c.put dst v)) :
    XStep P n ⟨dst, .call ⟨.value (.func f), args, ts⟩, type, pos, after, guard⟩ c K := by
  intro W0 G0 a w g hi next Q hn
  have hargs : ∀ x ∈ args.toList, okTmp n x = true := fun x hx => opsOk_mem ho (by simp [Op.operands, Call.operands]; exact .inr (by simpa using hx))
  have hA := argsRep hi args.toList hargs htup
  obtain ⟨u, hu, hr⟩ := hx w g _ hi.good hA
  unfold Oper.wp
  have hrun : (execOp a.eval ⟨dst, .call ⟨.value (.func f), args, ts⟩, type, pos, after, guard⟩).run P w = .ok (.value u) w := by
    have hq : a.eval (.func f) = .func (.func f) #[] #[] := rfl
    simp only [execOp, Sem.run_bind, resolve, hq, Deferred.ofValue, Sem.run_pure, Result.andThen_ok, invoke]
    have e : #[] ++ Array.map a.eval args ++ #[] = (args.toList.map a.eval).toArray := by apply Array.toList_inj.1; simp
    rw [e]; exact hu
  rw [hrun]
  exact hn _ _ _ g h (hi.putO (opsOk_dst ho) hr)

def slBox (base : Nat) : AV → Option Nat
  | .bs i _ _ _ _ => some (base + i)
  | .xs i _ _ _ _ => some i
  | _ => none

/-- Slices in two boxes have nothing in common. -/
theorem ExtAt.overlaps {P : Program} {f : FuncId} {fn : Func} {env own : List Bx} {x y : AV} {qx qy : Nat} {tS tR e : TypeId} {lx ly : List AV} {ox oy : List Nat} (hf : P.funcs[f]? = some fn) (hname : (fn.name == "runtime.NumGoroutine") = false)
    (hb : fn.body.isNone = true) (hn : Extern.findNext fn = none) (he : Extern.find fn = some (Extern.SlicesOverlaps.overlaps #[tS, tS] #[tR])) (ht : P.underlying tS = some (.slice e)) (hz : (P.underlying e).isSome = true)
    (hx : slBox env.length x = some qx) (hy : slBox env.length y = some qy) (hne : qx ≠ qy) (bx : (env ++ own)[qx]? = some (.cells lx ox)) (byy : (env ++ own)[qy]? = some (.cells ly oy)) (hl : ly ≠ []) :
    ExtAt P f env own [x, y] (.v (.bool false)) := by
  intro w g vs G hv
  have at_ : ∀ (x : AV) (u : Value) (q : Nat), slBox env.length x = some q → Rep1 w g.hw g.bs env.length x u → ∃ b off n c, g.bs[q]? = some b ∧ u = .slice (some ⟨b, off, none⟩) n c := by
    intro x u q hq hr
    unfold slBox at hq
    split at hq
    · cases hq; obtain ⟨b, h1, _, _, _, h2⟩ := rep_bs (rep_of hr); exact ⟨b, _, _, _, h1, h2⟩
    · cases hq; obtain ⟨_, b, h1, _, _, _, h2⟩ := rep_xs (rep_of hr); exact ⟨b, _, _, _, h1, h2⟩
    · cases hq
  simp only [RepT] at hv
  obtain ⟨u1, _, rfl, r1, u2, _, rfl, r2, rfl⟩ := hv
  obtain ⟨b1, o1, n1, c1, hb1, rfl⟩ := at_ x u1 qx hx r1
  obtain ⟨b2, o2, n2, c2, hb2, rfl⟩ := at_ y u2 qy hy r2
  obtain ⟨cs1, e1, hh1, hr1, _⟩ := G.box qx _ b1 bx hb1
  obtain ⟨cs2, e2, hh2, hr2, _⟩ := G.box qy _ b2 byy hb2
  have hbne : b1 ≠ b2 := by
    rintro rfl
    apply hne
    have h1 := (List.getElem?_eq_some_iff.1 hb1)
    have h2 := (List.getElem?_eq_some_iff.1 hb2)
    exact (List.getElem_inj G.nd (h₀ := h1.1) (h₁ := h2.1)).1 (h1.2.trans h2.2.symm)
  have hsz2 : cs2.size ≠ 0 := by
    have := RepL.length hr2
    simp only [Array.length_toList] at this
    intro h0
    rw [h0] at this
    exact hl (List.eq_nil_of_length_eq_zero this.symm)
  refine ⟨.bool false, ?_, rep_bool⟩
  have hrun := Lib.run_overlaps_apart (P := P) w tS tR e ht (P.cellsOf e) (fun w => run_size (info_of_und hz) w) ⟨b1, o1, none⟩ ⟨b2, o2, none⟩ n1 c1 n2 c2 hbne e1 e2 cs1.size cs2.size (by simp [World.shape?, hh1]) (by simp [World.shape?, hh2]) hsz2
    (by simp [World.frozen?, hh1]) (by simp [World.frozen?, hh1])
  rw [run_callFunc_extern hf hname hb hn he]
  rw [show [Value.slice (some ⟨b1, o1, none⟩) n1 c1, Value.slice (some ⟨b2, o2, none⟩) n2 c2].toArray = #[Value.slice (some ⟨b1, o1, none⟩) n1 c1, Value.slice (some ⟨b2, o2, none⟩) n2 c2] from rfl, hrun]
  rfl
end Go.Ev
end
section
/- Written by this session: clear of a slice in a box. Conditions: none beyond those in each statement. -/
namespace Go.Ev
open Go

/-- clear. -/
def clearA (P : Program) (n : Nat) (c : Cfg) (cl : Call) (dst : Option Tmp) (K : Cfg → Prop) : Prop :=
  match cl.args.toList, cl.argTypes.toList, dst with
  | [x], [t], none => match P.underlying t with
    | some (.slice e) => match P.info? e with
      | some i => match i.zero with
        | some z => bif Nat.blt 0 i.size && Nat.beq z.cells.size i.size && okTmp n (.const z) && leavesOk (cst z) then
            dstA c i.size (evA c x) fun ow bi off m _ l os => 0 < m ∧ off + (List.replicate m (cst z).leaves).flatten.length ≤ l.length ∧ (ow = true ∨ pfL (List.replicate m (cst z).leaves).flatten = true) ∧
              K (setBox c ow bi (.cells (wrL l off (List.replicate m (cst z).leaves).flatten) (os.filter fun j => decide (j < off ∨ off + (List.replicate m (cst z).leaves).flatten.length ≤ j))))
          else False
        | none => False
      | none => False
    | _ => False
  | _, _, _ => False

section
variable {P : Program} {n : Nat} {c : Cfg} {K : Cfg → Prop} {dst : Option Tmp} {type : TypeId} {pos : String} {after : Array Edge} {guard : Option (Nat × Bool)}

theorem clearA_sound {cl : Call} (hcl : cl.callee = .builtin .clear) (ho : opsOk n ⟨dst, .call cl, type, pos, after, guard⟩ = true) (h : clearA P n c cl dst K) : XStep P n ⟨dst, .call cl, type, pos, after, guard⟩ c K := by
  obtain ⟨callee, args, argTypes⟩ := cl
  simp only at hcl
  subst hcl
  unfold clearA at h
  split at h
  · rename_i x t ha ht
    have e1 : args = #[x] := by apply Array.toList_inj.1; simpa using ha
    have e2 : argTypes = #[t] := by apply Array.toList_inj.1; simpa using ht
    subst e1 e2
    split at h
    · rename_i e hu
      split at h
      · rename_i i hin
        split at h
        · rename_i z hz
          cases hc : (Nat.blt 0 i.size && Nat.beq z.cells.size i.size && okTmp n (.const z) && leavesOk (cst z)) with
          | false => rw [hc] at h; exact h.elim
          | true =>
            rw [hc] at h
            simp only [cond_true] at h
            simp only [Bool.and_eq_true] at hc
            obtain ⟨⟨⟨k0, kz⟩, okz⟩, lz⟩ := hc
            intro W0 G0 a w g hi next Q hn
            have hmd : x ∈ (Op.call ⟨.builtin .clear, #[x], #[t]⟩).operands := by simp [Op.operands, Call.operands]
            obtain ⟨ow, bi, off, m, cp, l, os, q, b, cs, et, ⟨hm0, hfit, hpf, hK⟩, ed, hb, hbox, hheap, hsz, hk0, hmc, _, _, hset⟩ := dst_run hi h (hi.eval (opsOk_mem ho hmd))
            have hzr : RepL w g.hw g.bs c.base (cst z).leaves z.cells.toList := (rep_cells (leavesOk_or lz) (cst_rep (hw := g.hw) (bs := g.bs) (base := c.base) (w := w) z okz)).1
            have hzs := hzr.replicate m
            have hL : (List.replicate m z.cells.toList).flatten.length = (List.replicate m (cst z).leaves).flatten.length := RepL.length hzs
            have hst := run_storeCells_at P b off et (List.replicate m z.cells.toList).flatten 0 cs w hheap (by rw [hL]; omega) (fun v hv => RepL.one hzs v hv)
            simp only [Nat.add_zero] at hst
            obtain ⟨s1, s2, s3⟩ := hset off (List.replicate m (cst z).leaves).flatten (os.filter fun j => decide (j < off ∨ off + (List.replicate m (cst z).leaves).flatten.length ≤ j)) hpf
            have hi' := hi.writeRow hb hbox hheap hzs hfit (setBox c ow bi (.cells (wrL l off (List.replicate m (cst z).leaves).flatten) (os.filter fun j => decide (j < off ∨ off + (List.replicate m (cst z).leaves).flatten.length ≤ j)))) (by cases ow <;> rfl) (by cases ow <;> rfl) s1 s3 s2
            unfold Oper.wp
            have hrun : (execOp a.eval ⟨none, .call ⟨.builtin .clear, #[x], #[t]⟩, type, pos, after, guard⟩).run P w = .ok (.value (.tuple #[])) (w.setRow b (wrL cs.toList off (List.replicate m z.cells.toList).flatten).toArray) := by
              obtain ⟨m', rfl⟩ : ∃ m', m = m' + 1 := ⟨m - 1, by omega⟩
              simp only [execOp, resolve, invoke, builtin, Sem.run_bind, Sem.run_pure, Result.andThen_ok, List.map_toArray, List.map_cons, List.map_nil, ed, Builtin.clear_]
              simp [hst, wrL_all, run_und hu, zeroValue, typeInfo, hin, hz, zeroCells_list]
            rw [hrun]
            exact hn _ _ _ g hK hi'
        · exact h.elim
      · exact h.elim
    · exact h.elim
  · exact h.elim
end
end Go.Ev
end
