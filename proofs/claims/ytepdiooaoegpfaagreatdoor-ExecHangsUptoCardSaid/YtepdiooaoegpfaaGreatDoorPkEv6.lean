/- Written by programs of this session: laws and contracts that the law's proof stands on, merged into one text. Conditions: none beyond those in each statement. -/
import Derived.Test.YtepdiooaoegpfaaGreatDoorPkEv5
import Derived.Lib.AppendZerosOnto
import Derived.Lib.Overlaps
section
/- Written by this session: append to slices that lie in boxes. Conditions: none beyond those in each statement. -/
namespace Go.Ev
open Go

theorem zeroCells_list (z : Array Value) (n : Nat) : (Builtin.zeroCells z n).toList = (List.replicate n z.toList).flatten := by
  unfold Builtin.zeroCells
  induction n with
  | zero => simp
  | succ n ih =>
    rw [List.replicate_succ', List.flatten_concat]
    have e : (Array.map (fun i => z[i % z.size]!) (Array.range ((n + 1) * z.size))).toList = (Array.map (fun i => z[i % z.size]!) (Array.range (n * z.size))).toList ++ z.toList := by
      simp only [Array.toList_map, Array.toList_range]
      rw [Nat.add_mul, Nat.one_mul, List.range_add, List.map_append]
      congr 1
      apply List.ext_getElem
      · simp
      · intro i h1 h2
        have hi : i < z.size := by simpa using h2
        simp only [List.getElem_map, List.getElem_range, Array.getElem_toList]
        rw [show (n * z.size + i) % z.size = i from by rw [Nat.mul_comm, Nat.mul_add_mod, Nat.mod_eq_of_lt hi]]
        simp [hi]
    rw [e, ih]

theorem RepL.replicate {w : World} {hw : Hw} {bs : List Nat} {base : Nat} {l : List AV} {vs : List Value} (h : RepL w hw bs base l vs) : ∀ n : Nat, RepL w hw bs base (List.replicate n l).flatten (List.replicate n vs).flatten
  | 0 => by simp [RepL]
  | n + 1 => by
    rw [List.replicate_succ, List.replicate_succ, List.flatten_cons, List.flatten_cons]
    exact h.append (RepL.replicate h n)

/-- What lies in a new block behind an append. -/
def grownL (old ls : List AV) (rest : Nat) (z : Value) : List AV := old ++ ls ++ (List.replicate rest (cst z).leaves).flatten

def appendB (P : Program) (n : Nat) (c : Cfg) (cl : Call) (dst : Option Tmp) (K : Cfg → Prop) : Prop :=
  match cl.args.toList, cl.argTypes.toList, dst with
  | [x0, x1], [t, t'], some _ => match P.underlying t, P.underlying t' with
    | some (.slice e), some (.slice _) => match P.info? e with
      | some i => match i.zero with
        | some z => bif Nat.blt 0 i.size && Nat.beq z.cells.size i.size && okTmp n (.const z) && leavesOk (cst z) then
            match evA c x0 with
            | .v (.slice none 0 0) => srcA c i.size (evA c x1) fun m1 ls => m1 * i.bytes ≤ 140737488355328 ∧ m1 ≤ 140737488355328 ∧
                (m1 = 0 → K (c.put dst (.v (.slice none 0 0)))) ∧
                (0 < m1 → ∀ c', m1 ≤ c' → c' ≤ 9223372036854775807 → K (({ c with own := c.own ++ [.cells (grownL [] ls (c' - m1) z) []] } : Cfg).put dst (.bs c.own.length 0 i.size m1 c')))
            | x => dstA c i.size x fun ow bi off m cp l os => srcA c i.size (evA c x1) fun m1 ls => (m + m1) * i.bytes ≤ 140737488355328 ∧ m + m1 ≤ 140737488355328 ∧ off + cp * i.size ≤ l.length ∧ (ow = true ∨ pfL ls = true) ∧
                (m + m1 ≤ cp → K ((setBox c ow bi (.cells (wrL l (off + m * i.size) ls) (os.filter fun j => decide (j < off + m * i.size ∨ off + m * i.size + ls.length ≤ j)))).put dst (mkSl ow bi off i.size (m + m1) cp))) ∧
                (cp < m + m1 → ∀ c', m + m1 ≤ c' → c' ≤ 9223372036854775807 → K (({ c with own := c.own ++ [.cells (grownL ((l.drop off).take (m * i.size)) ls (c' - (m + m1)) z) []] } : Cfg).put dst (.bs c.own.length 0 i.size (m + m1) c')))
          else False
        | none => False
      | none => False
    | _, _ => False
  | _, _, _ => False

section
variable {P : Program} {n : Nat} {c : Cfg} {K : Cfg → Prop} {dst : Option Tmp} {type : TypeId} {pos : String} {after : Array Edge} {guard : Option (Nat × Bool)}

theorem appendB_sound {cl : Call} (hcl : cl.callee = .builtin .append) (ho : opsOk n ⟨dst, .call cl, type, pos, after, guard⟩ = true) (h : appendB P n c cl dst K) : XStep P n ⟨dst, .call cl, type, pos, after, guard⟩ c K := by
  obtain ⟨callee, args, argTypes⟩ := cl
  simp only at hcl
  subst hcl
  unfold appendB at h
  split at h
  · rename_i x0 x1 t t' d ha ht
    have e1 : args = #[x0, x1] := by apply Array.toList_inj.1; simpa using ha
    have e2 : argTypes = #[t, t'] := by apply Array.toList_inj.1; simpa using ht
    subst e1 e2
    split at h
    · rename_i e e' hu hu'
      split at h
      · rename_i i hin
        split at h
        · rename_i z hz
          cases hc : (Nat.blt 0 i.size && Nat.beq z.cells.size i.size && okTmp n (.const z) && leavesOk (cst z)) with
          | false => rw [hc] at h; exact h.elim
          | true =>
            rw [hc] at h
            simp only [cond_true] at h
            simp only [Bool.and_eq_true] at hc
            obtain ⟨⟨⟨k0, kz⟩, okz⟩, lz⟩ := hc
            have hzk : z.cells.size = i.size := Nat.eq_of_beq_eq_true kz
            have hk0 : 0 < i.size := by rw [← Nat.blt_eq]; exact k0
            intro W0 G0 a w g hi next Q hn
            have hm0 : x0 ∈ (Op.call ⟨.builtin .append, #[x0, x1], #[t, t']⟩).operands := by simp [Op.operands, Call.operands]
            have hm1 : x1 ∈ (Op.call ⟨.builtin .append, #[x0, x1], #[t, t']⟩).operands := by simp [Op.operands, Call.operands]
            have r0 := hi.eval (opsOk_mem ho hm0)
            have r1 := hi.eval (opsOk_mem ho hm1)
            have hrun0 : ∀ u w', (Builtin.append_ #[t, t'] type #[a.eval x0, a.eval x1]).run P w = .ok u w' → (execOp a.eval ⟨some d, .call ⟨.builtin .append, #[x0, x1], #[t, t']⟩, type, pos, after, guard⟩).run P w = .ok (.value u) w' := by
              intro u w' h
              simp [execOp, resolve, invoke, builtin, h]
            have hzr : RepL w g.hw g.bs c.base (cst z).leaves z.cells.toList := (rep_cells (leavesOk_or lz) (cst_rep (hw := g.hw) (bs := g.bs) (base := c.base) (w := w) z okz)).1
            -- a new block
            have grow : ∀ (A : Option Addr) (m cp : Nat) (old : List AV) (olds : List Value) (m1 : Nat) (ls : List AV) (A1 : Option Addr) (cp1 : Nat) (news : List Value), a.eval x0 = .slice A m cp → a.eval x1 = .slice A1 m1 cp1 →
                RepL w g.hw g.bs c.base old olds → RepL w g.hw g.bs c.base ls news → (∀ w' : World, w'.heap = w.heap → (Builtin.firstCells i.size m (.slice A m cp)).run P w' = .ok olds.toArray w') →
                (∀ w' : World, w'.heap = w.heap → (Builtin.firstCells i.size m1 (.slice A1 m1 cp1)).run P w' = .ok news.toArray w') → cp < m + m1 → (m + m1) * i.bytes ≤ 140737488355328 → m + m1 ≤ 140737488355328 →
                (∀ c', m + m1 ≤ c' → c' ≤ 9223372036854775807 → K (({ c with own := c.own ++ [.cells (grownL old ls (c' - (m + m1)) z) []] } : Cfg).put (some d) (.bs c.own.length 0 i.size (m + m1) c'))) →
                Oper.wp P ⟨some d, .call ⟨.builtin .append, #[x0, x1], #[t, t']⟩, type, pos, after, guard⟩ a w next Q := by
              intro A m cp old olds m1 ls A1 cp1 news e0 e1 ho1 hn1 f0 f1 hg hb h47 hK
              have h63 : m + m1 ≤ maxLen := by simp only [maxLen]; omega
              have hrun := run_append_grows (w := w) (ty := type) (x := .slice A1 m1 cp1) hu hu' hin hz (fun w' => by simp [Builtin.lenOf]) f0 f1 hg hb h63
              rw [← e0, ← e1] at hrun
              have hge := grownCap_ge w (m + m1) cp e
              have hle := grownCap_le_maxLen w (m + m1) cp e h63
              simp only [maxLen] at hle
              generalize hcp : grownCap w (m + m1) cp e = c' at *
              have hid := hi.drew
              obtain ⟨g', hi', hb'⟩ := hid.newBoxG (.cells (grownL old ls (c' - (m + m1)) z) []) (.cells (olds.toArray ++ news.toArray ++ Builtin.zeroCells z.cells (c' - (m + m1))) e) fun g' hH hB =>
                ⟨_, e, heap_push_new, by
                  have hH' : HwLe w g.hw (push w.drew (.cells (olds.toArray ++ news.toArray ++ Builtin.zeroCells z.cells (c' - (m + m1))) e)) g'.hw := HwLe.trans (w2 := w.drew) (HwLe.of_heap (w := w) (w' := w.drew) rfl) hH
                  have q1 := RepL.mono hH' hB _ _ ho1
                  have q2 := RepL.mono hH' hB _ _ hn1
                  have q3 := RepL.mono hH' hB _ _ (hzr.replicate (c' - (m + m1)))
                  have := (q1.append q2).append q3
                  simpa [grownL, zeroCells_list] using this, by simp⟩
              unfold Oper.wp
              rw [hrun0 _ _ hrun]
              refine hn _ _ _ g' (hK c' hge hle) (hi'.put (opsOk_dst ho d rfl) (rep_mk_leaf rfl rfl ?_))
              simp only [RepV]
              exact ⟨_, hb', hk0, hge, hle, rfl⟩
            split at h
            · rename_i hx0
              obtain ⟨m1, ls, A1, cp1, news, ⟨hb, h47, hK0, hK1⟩, es, hrn, hnl, hfc⟩ := src_run (P := P) hi h r1
              have e0 := (rep_v (hx0 ▸ r0)).1
              have hfc' : ∀ w' : World, w'.heap = w.heap → (Builtin.firstCells i.size m1 (.slice A1 m1 cp1)).run P w' = .ok news.toArray w' := fun w' hw' => by
                have := hfc m1 (Nat.le_refl _) w' hw'
                rw [es, List.take_of_length_le (by omega)] at this; exact this
              rcases Nat.eq_zero_or_pos m1 with hz1 | hp
              · subst hz1
                unfold Oper.wp
                have hf := hfc' w rfl
                have hnn : news = [] := List.eq_nil_of_length_eq_zero (by omega)
                subst hnn
                rw [hrun0 (.slice none 0 0) w (by rw [e0, es]; simp [Builtin.append_, run_und hu, run_und hu', sizeOf, typeInfo, hin, Builtin.lenOf, hf])]
                exact hn _ _ _ g (hK0 rfl) (hi.put (opsOk_dst ho d rfl) (rep_v_mk rfl))
              · refine grow none 0 0 [] [] m1 ls A1 cp1 news e0 es (by simp only [RepL]) hrn (fun w' _ => by simp [Builtin.firstCells]) hfc' (by omega) (by simpa using hb) (by omega) (fun c' q1 q2 => ?_)
                have := hK1 hp c' (by omega) q2
                simpa using this
            · obtain ⟨ow, bi, off, m, cp, l, os, q, b, cs, et, h, ed, hb, hbox, hheap, hsz, _, hmc, hcp47, hrep, hset⟩ := dst_run hi h r0
              obtain ⟨m1, ls, A1, cp1, news, ⟨hby, h47, hfit, hpf, hK0, hK1⟩, es, hrn, hnl, hfc⟩ := src_run (P := P) hi h r1
              have hls := RepL.length hrn
              have hfc' : ∀ w' : World, w'.heap = w.heap → (Builtin.firstCells i.size m1 (.slice A1 m1 cp1)).run P w' = .ok news.toArray w' := fun w' hw' => by
                have := hfc m1 (Nat.le_refl _) w' hw'
                rw [es, List.take_of_length_le (by omega)] at this; exact this
              have hmk : m * i.size ≤ cp * i.size := Nat.mul_le_mul_right _ hmc
              by_cases hroom : m + m1 ≤ cp
              · have hmul : m * i.size + m1 * i.size ≤ cp * i.size := by rw [← Nat.add_mul]; exact Nat.mul_le_mul_right _ hroom
                have hrun := run_append_fits (w := w) (ty := type) (x := .slice A1 m1 cp1) (o := off) hu hu' hin (fun w' => by simp [Builtin.lenOf]) hfc' hheap hnl (RepL.one hrn) hroom (by rw [hsz]; exact hfit)
                rw [← ed, ← es] at hrun
                obtain ⟨s1, s2, s3⟩ := hset (off + m * i.size) ls (os.filter fun j => decide (j < off + m * i.size ∨ off + m * i.size + ls.length ≤ j)) hpf
                have hi' := hi.writeRow hb hbox hheap hrn (by rw [← hls, hnl]; omega) (setBox c ow bi (.cells (wrL l (off + m * i.size) ls) (os.filter fun j => decide (j < off + m * i.size ∨ off + m * i.size + ls.length ≤ j)))) (by cases ow <;> rfl) (by cases ow <;> rfl) s1 s3 s2
                unfold Oper.wp
                rw [hrun0 _ _ hrun]
                refine hn _ _ _ g (hK0 hroom) (hi'.put (opsOk_dst ho d rfl) ?_)
                rw [s3]; exact hrep _ _ _ hroom
              · refine grow _ m cp ((l.drop off).take (m * i.size)) ((cs.toList.drop off).take (m * i.size)) m1 ls A1 cp1 news ed es ?_ hrn (fun w' hw' => ?_) hfc' (by omega) hby h47 (hK1 (by omega))
                · obtain ⟨cs0, e0, hheap0, hrl, _⟩ := hi.good.box q _ b hbox hb
                  rw [hheap] at hheap0
                  cases hheap0
                  exact (hrl.drop off).take _
                · have hc : CellsAt w' b off ((cs.toList.drop off).take (m * i.size)) := by
                    have h0 := (cells_of_block (w := w') (b := b) (cs := cs) (e := et) (f := (0, 0)) (by rw [hw']; exact hheap)).sub off (m * i.size)
                    simpa using h0
                  simp only [Builtin.firstCells]
                  unfold loadCells
                  rw [run_loadCellsFrom (m * i.size) 0 #[] ((cs.toList.drop off).take (m * i.size)) (by simp only [List.length_take, List.length_drop, Array.length_toList, hsz]; omega) (fun i v hv => by simpa using hc i v hv)]
                  simp
        · exact h.elim
      · exact h.elim
    · exact h.elim
  · exact h.elim
end
end Go.Ev
end
section
/- Written by this session: a slice out of parts, in a box. Conditions: none beyond those in each statement. -/
namespace Go.Ev
open Go

theorem repL_flat {w : World} {hw : Hw} {bs : List Nat} {base k : Nat} : ∀ (l : List AV) (ys : List Value), RepT w hw bs base l ys → (∀ x ∈ l, leavesOk x = true ∧ x.leaves.length = k) →
    RepL w hw bs base (l.flatMap AV.leaves) (ys.flatMap fun v => v.cells.toList) ∧ (∀ y ∈ ys, y.cells.size = k) ∧ ys.length = l.length
  | [], _, h, _ => by simp only [RepT] at h; subst h; simp [RepL]
  | x :: l, _, h, hl => by
    simp only [RepT] at h
    obtain ⟨y, ys, rfl, h1, h2⟩ := h
    obtain ⟨q1, q3⟩ := hl x (by simp)
    obtain ⟨r1, r2⟩ := rep_cells (leavesOk_or q1) (rep_of h1)
    obtain ⟨i1, i2, i3⟩ := repL_flat l ys h2 fun z hz => hl z (by simp [hz])
    refine ⟨by simp only [List.flatMap_cons]; exact r1.append i1, fun z hz => ?_, by simp [i3]⟩
    rcases List.mem_cons.1 hz with rfl | hz
    · rw [r2, q3]
    · exact i2 z hz

section
variable {P : Program} {n : Nat} {c : Cfg} {K : Cfg → Prop}

theorem XStep.buildSliceB {t e : TypeId} {len k : Nat} {parts : Array (Nat × Operand)} {xs : List Operand} {i : TypeInfo} {z : Value} {d : Nat} {type : TypeId} {pos : String} {after : Array Edge} {guard : Option (Nat × Bool)}
    (ho : opsOk n ⟨some d, .buildSlice t len parts, type, pos, after, guard⟩ = true) (ht : P.underlying t = some (.slice e)) (hin : P.info? e = some i) (hz : i.zero = some z) (hk : i.size = k) (hk0 : 0 < k)
    (hlen : len = xs.length) (hparts : parts.toList = xs.zipIdx.map fun (x, j) => (j, x)) (hsm : len * k ≤ 16777216)
    (hxs : ∀ x ∈ xs, leavesOk (evA c x) = true ∧ (evA c x).isTup = false ∧ (evA c x).leaves.length = k)
    (h : K (({ c with own := c.own ++ [.cells ((xs.map (evA c)).flatMap AV.leaves) []] } : Cfg).put (some d) (.bs c.own.length 0 k xs.length xs.length))) : XStep P n ⟨some d, .buildSlice t len parts, type, pos, after, guard⟩ c K := by
  intro W0 G0 a w g hi next Q hn
  have hmem : ∀ x ∈ xs, x ∈ (Op.buildSlice t len parts).operands := fun x hx => by
    obtain ⟨j, hj, rfl⟩ := List.mem_iff_getElem.1 hx
    simp only [Op.operands, List.mem_toArray, List.mem_map, hparts]
    exact ⟨(j, xs[j]), ⟨(xs[j], j), by simp [List.mem_zipIdx_iff_getElem?, List.getElem?_eq_getElem hj], rfl⟩, rfl⟩
  have hT := argsRep hi xs (fun x hx => opsOk_mem ho (hmem x hx)) (by
    rw [List.all_eq_true]; intro x hx; rw [(hxs x hx).2.1]; rfl)
  obtain ⟨hE, hcs, hl⟩ := repL_flat (k := k) _ _ hT (by
    intro y hy
    obtain ⟨x, hx, rfl⟩ := List.mem_map.1 hy
    exact ⟨(hxs x hx).1, (hxs x hx).2.2⟩)
  simp only [List.length_map] at hl
  subst hlen
  let cells0 : Array Value := (Array.range (xs.length * k)).map fun j => (if xs.length * k = 0 then (#[] : Array Value) else z.cells)[j % (if xs.length * k = 0 then (#[] : Array Value) else z.cells).size]!
  obtain ⟨cells', hfill, hcl⟩ := fill_row hk0 (xs.map a.eval) 0 cells0 [] hcs (by simp) (by simp [cells0])
  have hcells : cells' = ((xs.map a.eval).flatMap fun v => v.cells.toList).toArray := by apply Array.toList_inj.1; rw [hcl]; simp
  have hps : (parts.map fun (p : Nat × Operand) => (p.1, a.eval p.2)).toList = ((xs.map a.eval).zipIdx 0).map fun (v, j) => (j, v) := by
    rw [Array.toList_map, hparts]
    simp [List.zipIdx_map]
  obtain ⟨g', hi', hb'⟩ := hi.newBoxG (.cells ((xs.map (evA c)).flatMap AV.leaves) []) (.cells cells' e) fun g' hH hB =>
    ⟨_, e, heap_push_new, by rw [show cells'.toList = (xs.map a.eval).flatMap fun v => v.cells.toList from by rw [hcl]; simp]; exact RepL.mono hH hB _ _ hE, by simp⟩
  unfold Oper.wp
  have hsz : (sizeOf e).run P w = .ok k w := by simp [sizeOf, typeInfo, hin, hk]
  have hrun : (execOp a.eval ⟨some d, .buildSlice t xs.length parts, type, pos, after, guard⟩).run P w = .ok (.value (.slice (some ⟨w.heap.size, 0, none⟩) xs.length xs.length)) (push w (.cells cells' e)) := by
    have hc0 : ∀ zz : Array Value, zz = (if xs.length * k = 0 then (#[] : Array Value) else z.cells) → (Array.range (xs.length * k)).map (fun x => zz[x % zz.size]!) = cells0 := by rintro _ rfl; rfl
    simp only [execOp, Instr.buildSlice, Sem.run_bind, run_und ht, Result.andThen_ok, hsz]
    rw [if_neg (by omega : ¬ xs.length * k > 2 ^ 24)]
    simp only [hps]
    by_cases h0 : xs.length * k = 0
    · rw [if_pos h0]
      simp only [Sem.run_bind, Sem.run_pure, Result.andThen_ok]
      rw [hc0 #[] (by rw [if_pos h0]), hfill]
      simp [newRow, push]
    · rw [if_neg h0]
      have hzv : (zeroValue e).run P w = .ok z w := by simp [zeroValue, typeInfo, hin, hz]
      simp only [Sem.run_bind, Sem.run_pure, Result.andThen_ok, hzv]
      rw [hc0 z.cells (by rw [if_neg h0]), hfill]
      simp [newRow, push]
  rw [hrun]
  refine hn _ _ _ g' h (hi'.put (opsOk_dst ho d rfl) (rep_mk_leaf rfl rfl ?_))
  simp only [RepV]
  exact ⟨_, hb', hk0, Nat.le_refl _, Nat.le_trans (Nat.le_mul_of_pos_right _ hk0) (Nat.le_trans hsm (by decide)), rfl⟩
end
end Go.Ev
end
section
/- Written by this session: append of zeros to a slice in a box that has no room. Conditions: none beyond those in each statement. -/
namespace Go.Ev
open Go

def appendZ (P : Program) (n : Nat) (c : Cfg) (cl : Call) (dst : Option Tmp) (K : Cfg → Prop) : Prop :=
  match cl.args.toList, cl.argTypes.toList, dst with
  | [x0, x1], [t, t'], some _ => match P.underlying t, P.underlying t', evA c x1 with
    | some (.slice e), some (.int _), .v (.int _ q) => match P.info? e with
      | some i => match i.zero with
        | some z => bif Nat.blt 0 i.size && Nat.beq z.cells.size i.size && okTmp n (.const z) && leavesOk (cst z) then
            dstA c i.size (evA c x0) fun _ _ off m cp l _ => 0 < q ∧ (m + q.toNat) * i.bytes ≤ 140737488355328 ∧ m + q.toNat ≤ 140737488355328 ∧ off + cp * i.size ≤ l.length ∧ cp < m + q.toNat ∧
                (∀ c', m + q.toNat ≤ c' → c' ≤ 9223372036854775807 → K (({ c with own := c.own ++ [.cells (grownL ((l.drop off).take (m * i.size)) (List.replicate q.toNat (cst z).leaves).flatten (c' - (m + q.toNat)) z) []] } : Cfg).put dst (.bs c.own.length 0 i.size (m + q.toNat) c')))
          else False
        | none => False
      | none => False
    | _, _, _ => False
  | _, _, _ => False

section
variable {P : Program} {n : Nat} {c : Cfg} {K : Cfg → Prop} {dst : Option Tmp} {type : TypeId} {pos : String} {after : Array Edge} {guard : Option (Nat × Bool)}

theorem appendZ_sound {cl : Call} (hcl : cl.callee = .builtin .append) (ho : opsOk n ⟨dst, .call cl, type, pos, after, guard⟩ = true) (h : appendZ P n c cl dst K) : XStep P n ⟨dst, .call cl, type, pos, after, guard⟩ c K := by
  obtain ⟨callee, args, argTypes⟩ := cl
  simp only at hcl
  subst hcl
  unfold appendZ at h
  split at h
  · rename_i x0 x1 t t' d ha ht
    have e1 : args = #[x0, x1] := by apply Array.toList_inj.1; simpa using ha
    have e2 : argTypes = #[t, t'] := by apply Array.toList_inj.1; simpa using ht
    subst e1 e2
    split at h
    · rename_i e kn kq qi hu hu' hx1
      split at h
      · rename_i i hin
        split at h
        · rename_i z hz
          cases hc : (Nat.blt 0 i.size && Nat.beq z.cells.size i.size && okTmp n (.const z) && leavesOk (cst z)) with
          | false => rw [hc] at h; exact h.elim
          | true =>
            rw [hc] at h
            simp only [cond_true] at h
            simp only [Bool.and_eq_true] at hc
            obtain ⟨⟨⟨k0, kz⟩, okz⟩, lz⟩ := hc
            have hzk : z.cells.size = i.size := Nat.eq_of_beq_eq_true kz
            have hk0 : 0 < i.size := by rw [← Nat.blt_eq]; exact k0
            intro W0 G0 a w g hi next Q hn
            have hm0 : x0 ∈ (Op.call ⟨.builtin .append, #[x0, x1], #[t, t']⟩).operands := by simp [Op.operands, Call.operands]
            have hm1 : x1 ∈ (Op.call ⟨.builtin .append, #[x0, x1], #[t, t']⟩).operands := by simp [Op.operands, Call.operands]
            have r0 := hi.eval (opsOk_mem ho hm0)
            have ex1 := (rep_v (hx1 ▸ hi.eval (opsOk_mem ho hm1))).1
            have hrun0 : ∀ u w', (Builtin.append_ #[t, t'] type #[a.eval x0, a.eval x1]).run P w = .ok u w' → (execOp a.eval ⟨some d, .call ⟨.builtin .append, #[x0, x1], #[t, t']⟩, type, pos, after, guard⟩).run P w = .ok (.value u) w' := by
              intro u w' h
              simp [execOp, resolve, invoke, builtin, h]
            have hzr : RepL w g.hw g.bs c.base (cst z).leaves z.cells.toList := (rep_cells (leavesOk_or lz) (cst_rep (hw := g.hw) (bs := g.bs) (base := c.base) (w := w) z okz)).1
            obtain ⟨ow, bi, off, m, cp, l, os, q, b, cs, et, ⟨hq, hby, h47, hfit, hg, hK⟩, ed, hb, hbox, hheap, hsz, _, hmc, hcp47, hrep, hset⟩ := dst_run hi h r0
            have hmk : m * i.size ≤ cp * i.size := Nat.mul_le_mul_right _ hmc
            have hold : RepL w g.hw g.bs c.base ((l.drop off).take (m * i.size)) ((cs.toList.drop off).take (m * i.size)) := by
              obtain ⟨cs0, e0, hheap0, hrl, _⟩ := hi.good.box q _ b hbox hb
              rw [hheap] at hheap0
              cases hheap0
              exact (hrl.drop off).take _
            have hf0 : ∀ w' : World, w'.heap = w.heap → (Builtin.firstCells i.size m (.slice (some ⟨b, off, none⟩) m cp)).run P w' = .ok ((cs.toList.drop off).take (m * i.size)).toArray w' := fun w' hw' => by
              have hc : CellsAt w' b off ((cs.toList.drop off).take (m * i.size)) := by
                have h0 := (cells_of_block (w := w') (b := b) (cs := cs) (e := et) (f := (0, 0)) (by rw [hw']; exact hheap)).sub off (m * i.size)
                simpa using h0
              simp only [Builtin.firstCells]
              unfold loadCells
              rw [run_loadCellsFrom (m * i.size) 0 #[] ((cs.toList.drop off).take (m * i.size)) (by simp only [List.length_take, List.length_drop, Array.length_toList, hsz]; omega) (fun i v hv => by simpa using hc i v hv)]
              simp
            have h63 : m + qi.toNat ≤ maxLen := by simp only [maxLen]; omega
            have hfit2 : Builtin.nextslicecap (m + qi.toNat) cp * i.bytes ≤ 281474976710656 := by have := growslice_fits hg hby; omega
            have hb2 : qi.toNat * i.bytes ≤ (m + qi.toNat) * i.bytes := Nat.mul_le_mul_right _ (by omega)
            have hrun := Lib.run_append_grow_zeros (P := P) w t t' type e i z kq kn hu hu' hin hz (some ⟨b, off, none⟩) m cp _ (hf0 w.drew rfl) qi.toNat (by omega) hk0 hg (by simp only [maxLen] at h63; omega) (by omega) hfit2
            have eq : ((qi.toNat : Nat) : Int) = qi := Int.toNat_of_nonneg (by omega)
            rw [eq, ← ed, ← ex1] at hrun
            have hge := grownCap_ge w (m + qi.toNat) cp e
            have hle := grownCap_le_maxLen w (m + qi.toNat) cp e h63
            simp only [maxLen] at hle
            generalize hcp : grownCap w (m + qi.toNat) cp e = c' at *
            have hid := hi.drew
            obtain ⟨g', hi', hb'⟩ := hid.newBoxG (.cells (grownL ((l.drop off).take (m * i.size)) (List.replicate qi.toNat (cst z).leaves).flatten (c' - (m + qi.toNat)) z) []) (.cells (((cs.toList.drop off).take (m * i.size)).toArray ++ Builtin.zeroCells z.cells qi.toNat ++ Builtin.zeroCells z.cells (c' - (m + qi.toNat))) e) fun g' hH hB =>
              ⟨_, e, heap_push_new, by
                have hH' : HwLe w g.hw (push w.drew (.cells (((cs.toList.drop off).take (m * i.size)).toArray ++ Builtin.zeroCells z.cells qi.toNat ++ Builtin.zeroCells z.cells (c' - (m + qi.toNat))) e)) g'.hw := HwLe.trans (w2 := w.drew) (HwLe.of_heap (w := w) (w' := w.drew) rfl) hH
                have q1 := RepL.mono hH' hB _ _ hold
                have q2 := RepL.mono hH' hB _ _ (hzr.replicate qi.toNat)
                have q3 := RepL.mono hH' hB _ _ (hzr.replicate (c' - (m + qi.toNat)))
                have := (q1.append q2).append q3
                simpa [grownL, zeroCells_list] using this, by simp⟩
            unfold Oper.wp
            rw [hrun0 _ _ hrun]
            refine hn _ _ _ g' (hK c' hge hle) (hi'.put (opsOk_dst ho d rfl) (rep_mk_leaf rfl rfl ?_))
            simp only [RepV]
            exact ⟨_, hb', hk0, hge, hle, rfl⟩
        · exact h.elim
      · exact h.elim
    · exact h.elim
  · exact h.elim
end
end Go.Ev
end
section
/- Written by this session: calls of functions that the model itself answers. Conditions: none beyond those in each statement. -/
namespace Go.Ev
open Go

/-- The model answers so, and leaves memory as it is. -/
def ExtAt (P : Program) (f : FuncId) (env own : List Bx) (args : List AV) (v : AV) : Prop :=
  ∀ (w : World) (g : Gh) (vs : List Value), Good w g (env ++ own) env.length → RepT w g.hw g.bs env.length args vs → ∃ u, (callFunc f vs.toArray).run P w = .ok (.value u) w ∧ Rep w g.hw g.bs env.length v u

theorem XStep.callExt {P : Program} {n : Nat} {c : Cfg} {K : Cfg → Prop} {dst : Option Tmp} {type : TypeId} {pos : String} {after : Array Edge} {guard : Option (Nat × Bool)} {f : FuncId} {args : Array Operand} {ts : Array TypeId} {v : AV}
    (ho : opsOk n ⟨dst, .call ⟨.value (.func f), args, ts⟩, type, pos, after, guard⟩ = true) (htup : (args.toList.all fun x => !(evA c x).isTup) = true) (hx : ExtAt P f c.env c.own (args.toList.map (evA c)) v) (h : K (c.put dst v)) :
    XStep P n ⟨dst, .call ⟨.value (.func f), args, ts⟩, type, pos, after, guard⟩ c K := by
  intro W0 G0 a w g hi next Q hn
  have hargs : ∀ x ∈ args.toList, okTmp n x = true := fun x hx => opsOk_mem ho (by simp [Op.operands, Call.operands]; exact .inr (by simpa using hx))
  have hA := argsRep hi args.toList hargs htup
  obtain ⟨u, hu, hr⟩ := hx w g _ hi.good hA
  unfold Oper.wp
  have hrun : (execOp a.eval ⟨dst, .call ⟨.value (.func f), args, ts⟩, type, pos, after, guard⟩).run P w = .ok (.value u) w := by
    have hq : a.eval (.func f) = .func (.func f) #[] #[] := rfl
    simp only [execOp, Sem.run_bind, resolve, hq, Deferred.ofValue, Sem.run_pure, Result.andThen_ok, invoke]
    have e : #[] ++ Array.map a.eval args ++ #[] = (args.toList.map a.eval).toArray := by apply Array.toList_inj.1; simp
    rw [e]; exact hu
  rw [hrun]
  exact hn _ _ _ g h (hi.putO (opsOk_dst ho) hr)

def slBox (base : Nat) : AV → Option Nat
  | .bs i _ _ _ _ => some (base + i)
  | .xs i _ _ _ _ => some i
  | _ => none

/-- Slices in two boxes have nothing in common. -/
theorem ExtAt.overlaps {P : Program} {f : FuncId} {fn : Func} {env own : List Bx} {x y : AV} {qx qy : Nat} {tS tR e : TypeId} {lx ly : List AV} {ox oy : List Nat} (hf : P.funcs[f]? = some fn) (hname : (fn.name == "runtime.NumGoroutine") = false)
    (hb : fn.body.isNone = true) (hn : Extern.findNext fn = none) (he : Extern.find fn = some (Extern.SlicesOverlaps.overlaps #[tS, tS] #[tR])) (ht : P.underlying tS = some (.slice e)) (hz : (P.underlying e).isSome = true)
    (hx : slBox env.length x = some qx) (hy : slBox env.length y = some qy) (hne : qx ≠ qy) (bx : (env ++ own)[qx]? = some (.cells lx ox)) (byy : (env ++ own)[qy]? = some (.cells ly oy)) (hl : ly ≠ []) :
    ExtAt P f env own [x, y] (.v (.bool false)) := by
  intro w g vs G hv
  have at_ : ∀ (x : AV) (u : Value) (q : Nat), slBox env.length x = some q → Rep1 w g.hw g.bs env.length x u → ∃ b off n c, g.bs[q]? = some b ∧ u = .slice (some ⟨b, off, none⟩) n c := by
    intro x u q hq hr
    unfold slBox at hq
    split at hq
    · cases hq; obtain ⟨b, h1, _, _, _, h2⟩ := rep_bs (rep_of hr); exact ⟨b, _, _, _, h1, h2⟩
    · cases hq; obtain ⟨_, b, h1, _, _, _, h2⟩ := rep_xs (rep_of hr); exact ⟨b, _, _, _, h1, h2⟩
    · cases hq
  simp only [RepT] at hv
  obtain ⟨u1, _, rfl, r1, u2, _, rfl, r2, rfl⟩ := hv
  obtain ⟨b1, o1, n1, c1, hb1, rfl⟩ := at_ x u1 qx hx r1
  obtain ⟨b2, o2, n2, c2, hb2, rfl⟩ := at_ y u2 qy hy r2
  obtain ⟨cs1, e1, hh1, hr1, _⟩ := G.box qx _ b1 bx hb1
  obtain ⟨cs2, e2, hh2, hr2, _⟩ := G.box qy _ b2 byy hb2
  have hbne : b1 ≠ b2 := by
    rintro rfl
    apply hne
    have h1 := (List.getElem?_eq_some_iff.1 hb1)
    have h2 := (List.getElem?_eq_some_iff.1 hb2)
    exact (List.getElem_inj G.nd (h₀ := h1.1) (h₁ := h2.1)).1 (h1.2.trans h2.2.symm)
  have hsz2 : cs2.size ≠ 0 := by
    have := RepL.length hr2
    simp only [Array.length_toList] at this
    intro h0
    rw [h0] at this
    exact hl (List.eq_nil_of_length_eq_zero this.symm)
  refine ⟨.bool false, ?_, rep_bool⟩
  have hrun := Lib.run_overlaps_apart (P := P) w tS tR e ht (P.cellsOf e) (fun w => run_size (info_of_und hz) w) ⟨b1, o1, none⟩ ⟨b2, o2, none⟩ n1 c1 n2 c2 hbne e1 e2 cs1.size cs2.size (by simp [World.shape?, hh1]) (by simp [World.shape?, hh2]) hsz2
    (by simp [World.frozen?, hh1]) (by simp [World.frozen?, hh1])
  rw [run_callFunc_extern hf hname hb hn he]
  rw [show [Value.slice (some ⟨b1, o1, none⟩) n1 c1, Value.slice (some ⟨b2, o2, none⟩) n2 c2].toArray = #[Value.slice (some ⟨b1, o1, none⟩) n1 c1, Value.slice (some ⟨b2, o2, none⟩) n2 c2] from rfl, hrun]
  rfl
end Go.Ev
end
section
/- Written by this session: clear of a slice in a box. Conditions: none beyond those in each statement. -/
namespace Go.Ev
open Go

/-- clear. -/
def clearA (P : Program) (n : Nat) (c : Cfg) (cl : Call) (dst : Option Tmp) (K : Cfg → Prop) : Prop :=
  match cl.args.toList, cl.argTypes.toList, dst with
  | [x], [t], none => match P.underlying t with
    | some (.slice e) => match P.info? e with
      | some i => match i.zero with
        | some z => bif Nat.blt 0 i.size && Nat.beq z.cells.size i.size && okTmp n (.const z) && leavesOk (cst z) then
            dstA c i.size (evA c x) fun ow bi off m _ l os => 0 < m ∧ off + (List.replicate m (cst z).leaves).flatten.length ≤ l.length ∧ (ow = true ∨ pfL (List.replicate m (cst z).leaves).flatten = true) ∧
              K (setBox c ow bi (.cells (wrL l off (List.replicate m (cst z).leaves).flatten) (os.filter fun j => decide (j < off ∨ off + (List.replicate m (cst z).leaves).flatten.length ≤ j))))
          else False
        | none => False
      | none => False
    | _ => False
  | _, _, _ => False

section
variable {P : Program} {n : Nat} {c : Cfg} {K : Cfg → Prop} {dst : Option Tmp} {type : TypeId} {pos : String} {after : Array Edge} {guard : Option (Nat × Bool)}

theorem clearA_sound {cl : Call} (hcl : cl.callee = .builtin .clear) (ho : opsOk n ⟨dst, .call cl, type, pos, after, guard⟩ = true) (h : clearA P n c cl dst K) : XStep P n ⟨dst, .call cl, type, pos, after, guard⟩ c K := by
  obtain ⟨callee, args, argTypes⟩ := cl
  simp only at hcl
  subst hcl
  unfold clearA at h
  split at h
  · rename_i x t ha ht
    have e1 : args = #[x] := by apply Array.toList_inj.1; simpa using ha
    have e2 : argTypes = #[t] := by apply Array.toList_inj.1; simpa using ht
    subst e1 e2
    split at h
    · rename_i e hu
      split at h
      · rename_i i hin
        split at h
        · rename_i z hz
          cases hc : (Nat.blt 0 i.size && Nat.beq z.cells.size i.size && okTmp n (.const z) && leavesOk (cst z)) with
          | false => rw [hc] at h; exact h.elim
          | true =>
            rw [hc] at h
            simp only [cond_true] at h
            simp only [Bool.and_eq_true] at hc
            obtain ⟨⟨⟨k0, kz⟩, okz⟩, lz⟩ := hc
            intro W0 G0 a w g hi next Q hn
            have hmd : x ∈ (Op.call ⟨.builtin .clear, #[x], #[t]⟩).operands := by simp [Op.operands, Call.operands]
            obtain ⟨ow, bi, off, m, cp, l, os, q, b, cs, et, ⟨hm0, hfit, hpf, hK⟩, ed, hb, hbox, hheap, hsz, hk0, hmc, _, _, hset⟩ := dst_run hi h (hi.eval (opsOk_mem ho hmd))
            have hzr : RepL w g.hw g.bs c.base (cst z).leaves z.cells.toList := (rep_cells (leavesOk_or lz) (cst_rep (hw := g.hw) (bs := g.bs) (base := c.base) (w := w) z okz)).1
            have hzs := hzr.replicate m
            have hL : (List.replicate m z.cells.toList).flatten.length = (List.replicate m (cst z).leaves).flatten.length := RepL.length hzs
            have hst := run_storeCells_at P b off et (List.replicate m z.cells.toList).flatten 0 cs w hheap (by rw [hL]; omega) (fun v hv => RepL.one hzs v hv)
            simp only [Nat.add_zero] at hst
            obtain ⟨s1, s2, s3⟩ := hset off (List.replicate m (cst z).leaves).flatten (os.filter fun j => decide (j < off ∨ off + (List.replicate m (cst z).leaves).flatten.length ≤ j)) hpf
            have hi' := hi.writeRow hb hbox hheap hzs hfit (setBox c ow bi (.cells (wrL l off (List.replicate m (cst z).leaves).flatten) (os.filter fun j => decide (j < off ∨ off + (List.replicate m (cst z).leaves).flatten.length ≤ j)))) (by cases ow <;> rfl) (by cases ow <;> rfl) s1 s3 s2
            unfold Oper.wp
            have hrun : (execOp a.eval ⟨none, .call ⟨.builtin .clear, #[x], #[t]⟩, type, pos, after, guard⟩).run P w = .ok (.value (.tuple #[])) (w.setRow b (wrL cs.toList off (List.replicate m z.cells.toList).flatten).toArray) := by
              obtain ⟨m', rfl⟩ : ∃ m', m = m' + 1 := ⟨m - 1, by omega⟩
              simp only [execOp, resolve, invoke, builtin, Sem.run_bind, Sem.run_pure, Result.andThen_ok, List.map_toArray, List.map_cons, List.map_nil, ed, Builtin.clear_]
              simp [hst, wrL_all, run_und hu, zeroValue, typeInfo, hin, hz, zeroCells_list]
            rw [hrun]
            exact hn _ _ _ g hK hi'
        · exact h.elim
      · exact h.elim
    · exact h.elim
  · exact h.elim
end
end Go.Ev
end
section
/- Written by this session: what is to be shown of a region, over trees, as a proposition; and that it is enough. Conditions: none beyond those in each statement. -/
namespace Go.Ev
open Go

def appArg (ops : List Oper) (d : Nat) : Bool :=
  ops.any fun o => match o.op with
    | .call cl => (match cl.callee, cl.args.toList with
      | .builtin .append, .tmp t :: _ => Nat.beq t d
      | _, _ => false)
    | _ => false

def mayGive (ops : List Oper) (o : Oper) (c : Cfg) : Option (Nat × Nat) :=
  match o.op, o.dst with
  | .assign (.tmp s), some d => bif c.os.any (Nat.beq s) then some (s, d) else none
  | .move (.tmp s), some d => bif c.os.any (Nat.beq s) && appArg ops d then some (s, d) else none
  | _, _ => none

def ownSl (c : Cfg) : Operand → Option (Nat × Nat × List AV)
  | .tmp s => bif c.os.any (Nat.beq s) then (match Fr.get c.fr s with
    | .sl k l => some (s, k, l)
    | _ => none) else none
  | _ => none

/-- A slice in a box to which may be appended; and what is left when it is taken. -/
def cellOwn (c : Cfg) (p : Operand) : Option (Nat × List AV × Cfg) :=
  match evA c p with
  | .bp i off => match c.own[i]? with
    | some (.cells l os) => match l[off]? with
      | some (.sl k l') => bif os.any (Nat.beq off) then some (k, l', { c with own := c.own.set i (.cells l (os.filter fun j => !Nat.beq j off)) }) else none
      | _ => none
    | _ => none
  | .xp i off => match c.env[i]? with
    | some (.cells l os) => match l[off]? with
      | some (.sl k l') => bif os.any (Nat.beq off) then some (k, l', { c with env := c.env.set i (.cells l (os.filter fun j => !Nat.beq j off)) }) else none
      | _ => none
    | _ => none
  | _ => none

def storeA (P : Program) (c : Cfg) (t : TypeId) (p x : Operand) (dst : Option Tmp) (K : Cfg → Prop) : Prop :=
  match evA c p with
  | .bp i off => match c.own[i]? with
    | some (.cells l os) => match ownSl c x with
      | some (s, k, l') => bif (P.underlying t).isSome && Nat.beq 1 (P.cellsOf t) && Nat.ble (off + 1) l.length then
          K (({ c with os := c.os.filter (fun i => !Nat.beq i s), own := c.own.set i (.cells (wrL l off [.sl k l']) (off :: os.filter fun j => decide (j < off ∨ off + 1 ≤ j))) } : Cfg).put dst (.v undef)) else False
      | none => bif (P.underlying t).isSome && leavesOk (evA c x) && Nat.beq (evA c x).leaves.length (P.cellsOf t) && Nat.ble (off + (evA c x).leaves.length) l.length then
          K (({ c with own := c.own.set i (.cells (wrL l off (evA c x).leaves) (os.filter fun j => decide (j < off ∨ off + (evA c x).leaves.length ≤ j))) } : Cfg).put dst (.v undef)) else False
    | _ => False
  | .xp i off => match c.env[i]? with
    | some (.cells l os) => match ownSl c x with
      | some (s, k, l') => bif (P.underlying t).isSome && Nat.beq 1 (P.cellsOf t) && Nat.ble (off + 1) l.length then
          K (({ c with os := c.os.filter (fun i => !Nat.beq i s), env := c.env.set i (.cells (wrL l off [.sl k l']) (off :: os.filter fun j => decide (j < off ∨ off + 1 ≤ j))) } : Cfg).put dst (.v undef)) else False
      | none => bif (P.underlying t).isSome && leavesOk (evA c x) && pf1 (evA c x) && Nat.beq (evA c x).leaves.length (P.cellsOf t) && Nat.ble (off + (evA c x).leaves.length) l.length then
          K (({ c with env := c.env.set i (.cells (wrL l off (evA c x).leaves) (os.filter fun j => decide (j < off ∨ off + (evA c x).leaves.length ≤ j))) } : Cfg).put dst (.v undef)) else False
    | _ => False
  | _ => False

def ownOf (c : Cfg) (d : Nat) : Operand → Option Nat
  | .tmp s => bif c.os.any (Nat.beq s) then some s else (match Fr.get c.fr s with
    | .v (.slice none 0 0) => some d
    | _ => none)
  | .const (.slice none 0 0) => some d
  | _ => none

def appendA (P : Program) (c : Cfg) (cl : Call) (dst : Option Tmp) (K : Cfg → Prop) : Prop :=
  match cl.args.toList, cl.argTypes.toList, dst with
  | [x0, x1], [t, t'], some d => match P.underlying t, P.underlying t' with
    | some (.slice e), some (.slice _) => match P.info? e with
      | some i => match i.zero with
        | some z => bif Nat.blt 0 i.size && Nat.beq z.cells.size i.size then
            match asSl i.size (evA c x0), asSl i.size (evA c x1), ownOf c d x0 with
            | some l0, some l1, some s => (l0.length + l1.length) * i.bytes ≤ 140737488355328 ∧ l0.length + l1.length ≤ 140737488355328 ∧ K (({ c with os := c.os.filter fun i => !Nat.beq i s } : Cfg).putOwn d (.sl i.size (l0 ++ l1)))
            | _, _, _ => False
          else False
        | none => False
      | none => False
    | _, _ => False
  | _, _, _ => False

/-- A call that may change boxes, or hand on new ones. -/
@[irreducible] def callG (P : Program) (c : Cfg) (args : List AV) (f : FuncId) (dst : Option Tmp) (K : Cfg → Prop) : Prop :=
  Callable P f ∧ ∃ R, XCalls P f (args.map (AV.up c.base)) (c.env ++ c.own.map (Bx.up c.base)) R ∧ ((∀ x ∈ c.env, Bx.cl c.base 0 x) → (∀ x ∈ c.env ++ c.own, Bx.cl c.base c.own.length x) → ∀ r ow env', R r ow env' →
    ∃ r2 env2 own2, r = AV.up c.base r2 ∧ env' = env2 ++ own2.map (Bx.up c.base) ∧ env2.length = c.env.length ∧ r2.cl c.base own2.length ∧ (∀ x ∈ env2, Bx.cl c.base 0 x) ∧ (∀ x ∈ env2 ++ own2, Bx.cl c.base own2.length x) ∧ K (({ c with env := env2, own := own2 } : Cfg).after dst r2 ow))

/-- A call that leaves all as it is. -/
theorem callG_same {P : Program} {c : Cfg} {args : List AV} {f : FuncId} {dst : Option Tmp} {K : Cfg → Prop} {r0 : AV} (hc : Callable P f) (hp : r0.pf = true)
    (hx : XCalls P f (args.map (AV.up c.base)) (c.env ++ c.own.map (Bx.up c.base)) fun r ow env' => r = r0 ∧ ow = false ∧ env' = c.env ++ c.own.map (Bx.up c.base)) (h : K (c.after dst r0 false)) : callG P c args f dst K := by
  unfold callG
  refine ⟨hc, _, hx, fun h1 h2 r ow env' ⟨e1, e2, e3⟩ => ?_⟩
  subst e1 e2 e3
  exact ⟨r, c.env, c.own, (up_pf _ _ hp).symm, rfl, rfl, cl_pf _ hp, h1, h2, h⟩

def callA (P : Program) (n : Nat) (c : Cfg) (cl : Call) (dst : Option Tmp) (K : Cfg → Prop) : Prop :=
  match targetA P c n cl.callee with
  | some (f, a1, a2) => bif cl.args.toList.all fun x => !(evA c x).isTup then
      (bif pf1L (a1 ++ cl.args.toList.map (evA c) ++ a2) then (∃ r ow, XPure P f (a1 ++ cl.args.toList.map (evA c) ++ a2) r ow ∧ K (c.after dst r ow)) ∨ callG P c (a1 ++ cl.args.toList.map (evA c) ++ a2) f dst K
       else callG P c (a1 ++ cl.args.toList.map (evA c) ++ a2) f dst K)
    else False
  | none => False
def sliceParts : Nat → List (Nat × Operand) → Option (List Operand)
  | _, [] => some []
  | i, (j, x) :: r => bif Nat.beq i j then (sliceParts (i + 1) r).map (x :: ·) else none

/-- Is it handed in to a function? -/
def callArg (ops : List Oper) (d : Nat) : Bool :=
  ops.any fun o => match o.op with
    | .call cl => (match cl.callee with
      | .builtin _ => false
      | _ => cl.args.toList.any fun x => match x with
        | .tmp t => Nat.beq t d
        | _ => false)
    | _ => false

def buildSliceA (P : Program) (ops : List Oper) (c : Cfg) (t : TypeId) (len : Nat) (parts : Array (Nat × Operand)) (dst : Option Tmp) (K : Cfg → Prop) : Prop :=
  match P.underlying t, dst, sliceParts 0 parts.toList with
  | some (.slice e), some d, some xs => match P.info? e with
    | some i => match i.zero with
      | some _ => bif Nat.blt 0 i.size && Nat.beq len xs.length && Nat.ble (len * i.size) 16777216 && xs.all (fun x => leavesOk (evA c x) && !(evA c x).isTup && Nat.beq (evA c x).leaves.length i.size) then
          (bif xs.all (fun x => pf1 (evA c x)) then
            (bif Nat.beq len 0 || callArg ops d then K (c.putOwn d (.sl i.size (xs.map (evA c)))) ∨ K (({ c with own := c.own ++ [.cells ((xs.map (evA c)).flatMap AV.leaves) []] } : Cfg).put (some d) (.bs c.own.length 0 i.size xs.length xs.length))
             else K (c.putOwn d (.sl i.size (xs.map (evA c)))))
           else K (({ c with own := c.own ++ [.cells ((xs.map (evA c)).flatMap AV.leaves) []] } : Cfg).put (some d) (.bs c.own.length 0 i.size xs.length xs.length))) else False
      | none => False
    | none => False
  | _, _, _ => False

def buildA (P : Program) (n : Nat) (c : Cfg) (t : TypeId) (parts : Array (Nat × Operand)) (dst : Option Tmp) (K : Cfg → Prop) : Prop :=
  match P.underlying t, P.info? t with
  | some (.struct fs), some i => match i.zero with
    | some z => bif (fs.toList.all fun f => (P.underlying f.type).isSome) && okTmp n (.const z) && leavesOk (cst z) then buildFold P c fs parts.toList (cst z).leaves fun l => K (c.put dst (.agg l)) else False
    | none => False
  | _, _ => False

def isExt (P : Program) (f : FuncId) : Bool :=
  match P.funcs[f]? with
  | some fn => fn.body.isNone
  | none => false

def stepA (P : Program) (n : Nat) (ops : List Oper) (o : Oper) (c : Cfg) (K : Cfg → Prop) : Prop :=
  bif opsOk n o then
    match mayGive ops o c with
    | some (s, d) => bif Nat.blt s n && Nat.blt d n then K (c.give s d) else False
    | none => match o.op with
      | .box _ x => (match o.dst with
        | some d => bif leavesOk (evA c x) then K (({ c with own := c.own ++ [.cells (evA c x).leaves []] } : Cfg).put (some d) (.bp c.own.length 0)) else False
        | none => False)
      | .alloc e => (match o.dst, P.info? e with
        | some d, some i => (match i.zero with
          | some z => bif okTmp n (.const z) && leavesOk (cst z) then K (({ c with own := c.own ++ [.cells (cst z).leaves []] } : Cfg).put (some d) (.bp c.own.length 0)) else False
          | none => False)
        | _, _ => False)
      | .store t p x => storeA P c t p x o.dst K
      | .binOp op t x y _ => (match op, evA c y with
        | .eql, .v (.slice none _ _) => nilEqA P c .eql t (evA c x) o.dst K
        | .neq, .v (.slice none _ _) => nilEqA P c .neq t (evA c x) o.dst K
        | _, _ => pureA P c.env c.own (evA c) o fun v => K (c.put o.dst v))
      | .makeMap t r => makeMapA P c t r o.dst K
      | .mapUpdate t m k x => mapUpdateA P c t m k x o.dst K
      | .load t p => (match o.dst, cellOwn c p with
        | some d, some (k, l', c') => bif appArg ops d && (P.underlying t).isSome && !isAggT P t then K (c'.putOwn d (.sl k l')) else pureA P c.env c.own (evA c) o fun v => K (c.put o.dst v)
        | _, _ => pureA P c.env c.own (evA c) o fun v => K (c.put o.dst v))
      | .buildSlice t len parts => buildSliceA P ops c t len parts o.dst K
      | .build t parts => buildA P n c t parts o.dst K
      | .call cl => (match cl.callee with
        | .builtin .append => (match cl.argTypes.toList.map P.underlying, cl.args.toList.map (evA c) with
          | [_, some (.int _)], _ => appendZ P n c cl o.dst K
          | _, [.bs .., _] => appendB P n c cl o.dst K
          | _, [.xs .., _] => appendB P n c cl o.dst K
          | _, [_, .bs ..] => appendB P n c cl o.dst K
          | _, [_, .xs ..] => appendB P n c cl o.dst K
          | _, _ => appendA P c cl o.dst K)
        | .builtin .copy => copyA P c cl o.dst K
        | .builtin .clear => clearA P n c cl o.dst K
        | .builtin _ => pureA P c.env c.own (evA c) o fun v => K (c.put o.dst v)
        | .value (.func f) => bif isExt P f then (bif cl.args.toList.all fun x => !(evA c x).isTup then ∃ v, ExtAt P f c.env c.own (cl.args.toList.map (evA c)) v ∧ K (c.put o.dst v) else False) else callA P n c cl o.dst K
        | _ => callA P n c cl o.dst K)
      | _ => pureA P c.env c.own (evA c) o fun v => K (c.put o.dst v)
  else False

section
variable {P : Program} {n : Nat} {ops : List Oper} {o : Oper} {c : Cfg} {K : Cfg → Prop}

theorem mem_os {s : Nat} (h : c.os.any (Nat.beq s) = true) : s ∈ c.os := by
  obtain ⟨x, hx, e⟩ := List.any_eq_true.1 h
  rw [Nat.eq_of_beq_eq_true e]; exact hx

theorem storeA_sound {t : TypeId} {p x : Operand} {dst : Option Tmp} {type : TypeId} {pos : String} {after : Array Edge} {guard : Option (Nat × Bool)} (ho : opsOk n ⟨dst, .store t p x, type, pos, after, guard⟩ = true)
    (h : storeA P c t p x dst K) : XStep P n ⟨dst, .store t p x, type, pos, after, guard⟩ c K := by
  unfold storeA at h
  split at h
  · rename_i i off hp
    split at h
    · rename_i l os hb
      split at h
      · rename_i s k l' hs
        cases hc : ((P.underlying t).isSome && Nat.beq 1 (P.cellsOf t) && Nat.ble (off + 1) l.length) with
        | false => rw [hc] at h; exact h.elim
        | true =>
          rw [hc] at h
          simp only [Bool.and_eq_true] at hc
          cases x with
          | tmp q =>
            simp only [ownSl] at hs
            cases hq : c.os.any (Nat.beq q) with
            | false => rw [hq] at hs; cases hs
            | true =>
              rw [hq] at hs
              simp only [cond_true] at hs
              split at hs
              · rename_i k2 l2 hg
                cases hs
                exact XStep.storeOwn ho hp hb hc.1.1 (mem_os hq) hg (Nat.eq_of_beq_eq_true hc.1.2) (Nat.le_of_ble_eq_true hc.2) h
              · cases hs
          | _ => cases hs
      · cases hc : ((P.underlying t).isSome && leavesOk (evA c x) && Nat.beq (evA c x).leaves.length (P.cellsOf t) && Nat.ble (off + (evA c x).leaves.length) l.length) with
        | false => rw [hc] at h; exact h.elim
        | true =>
          rw [hc] at h
          simp only [Bool.and_eq_true] at hc
          exact XStep.store ho hp hb hc.1.1.1 hc.1.1.2 (Nat.eq_of_beq_eq_true hc.1.2) (Nat.le_of_ble_eq_true hc.2) h
    · exact h.elim
  · rename_i i off hp
    split at h
    · rename_i l os hb
      split at h
      · rename_i s k l' hs
        cases hc : ((P.underlying t).isSome && Nat.beq 1 (P.cellsOf t) && Nat.ble (off + 1) l.length) with
        | false => rw [hc] at h; exact h.elim
        | true =>
          rw [hc] at h
          simp only [Bool.and_eq_true] at hc
          cases x with
          | tmp q =>
            simp only [ownSl] at hs
            cases hq : c.os.any (Nat.beq q) with
            | false => rw [hq] at hs; cases hs
            | true =>
              rw [hq] at hs
              simp only [cond_true] at hs
              split at hs
              · rename_i k2 l2 hg
                cases hs
                exact XStep.storeEnvOwn ho hp hb hc.1.1 (mem_os hq) hg (Nat.eq_of_beq_eq_true hc.1.2) (Nat.le_of_ble_eq_true hc.2) h
              · cases hs
          | _ => cases hs
      · cases hc : ((P.underlying t).isSome && leavesOk (evA c x) && pf1 (evA c x) && Nat.beq (evA c x).leaves.length (P.cellsOf t) && Nat.ble (off + (evA c x).leaves.length) l.length) with
        | false => rw [hc] at h; exact h.elim
        | true =>
          rw [hc] at h
          simp only [Bool.and_eq_true] at hc
          exact XStep.storeEnv ho hp hb hc.1.1.1.1 hc.1.1.1.2 (pf_of1 hc.1.1.2) (Nat.eq_of_beq_eq_true hc.1.2) (Nat.le_of_ble_eq_true hc.2) h
    · exact h.elim
  · exact h.elim

theorem cellOwn_eq {p : Operand} {k : Nat} {l' : List AV} {c' : Cfg} (h : cellOwn c p = some (k, l', c')) : ∃ (off : Nat) (l : List AV) (os : List Nat), l[off]? = some (.sl k l') ∧ off ∈ os ∧
    ((∃ i, evA c p = .bp i off ∧ c.own[i]? = some (.cells l os) ∧ c' = { c with own := c.own.set i (.cells l (os.filter fun j => !Nat.beq j off)) }) ∨ (∃ i, evA c p = .xp i off ∧ c.env[i]? = some (.cells l os) ∧ c' = { c with env := c.env.set i (.cells l (os.filter fun j => !Nat.beq j off)) })) := by
  have mem : ∀ {os : List Nat} {off : Nat}, os.any (Nat.beq off) = true → off ∈ os := fun h => by
    obtain ⟨x, hx, e⟩ := List.any_eq_true.1 h
    rw [Nat.eq_of_beq_eq_true e]; exact hx
  unfold cellOwn at h
  split at h
  · rename_i i off hp
    split at h
    · rename_i l os hb
      split at h
      · rename_i k2 l2 hl
        cases hc : os.any (Nat.beq off) with
        | false => rw [hc] at h; cases h
        | true => rw [hc] at h; cases h; exact ⟨off, l, os, hl, mem hc, .inl ⟨i, hp, hb, rfl⟩⟩
      · cases h
    · cases h
  · rename_i i off hp
    split at h
    · rename_i l os hb
      split at h
      · rename_i k2 l2 hl
        cases hc : os.any (Nat.beq off) with
        | false => rw [hc] at h; cases h
        | true => rw [hc] at h; cases h; exact ⟨off, l, os, hl, mem hc, .inr ⟨i, hp, hb, rfl⟩⟩
      · cases h
    · cases h
  · cases h

theorem sliceParts_eq : ∀ (ps : List (Nat × Operand)) (i : Nat) (xs : List Operand), sliceParts i ps = some xs → ps = (xs.zipIdx i).map fun (x, j) => (j, x)
  | [], i, xs, h => by simp [sliceParts] at h; subst h; rfl
  | (j, x) :: r, i, xs, h => by
    simp only [sliceParts] at h
    cases hb : Nat.beq i j with
    | false => rw [hb] at h; cases h
    | true =>
      rw [hb] at h
      simp only [cond_true, Option.map_eq_some_iff] at h
      obtain ⟨ys, h1, rfl⟩ := h
      have := Nat.eq_of_beq_eq_true hb
      subst this
      rw [sliceParts_eq r (i + 1) ys h1]
      simp [List.zipIdx_cons]

theorem appendA_sound {cl : Call} {dst : Option Tmp} {type : TypeId} {pos : String} {after : Array Edge} {guard : Option (Nat × Bool)} (hcl : cl.callee = .builtin .append) (ho : opsOk n ⟨dst, .call cl, type, pos, after, guard⟩ = true)
    (h : appendA P c cl dst K) : XStep P n ⟨dst, .call cl, type, pos, after, guard⟩ c K := by
  obtain ⟨callee, args, argTypes⟩ := cl
  simp only at hcl
  subst hcl
  unfold appendA at h
  split at h
  · rename_i x0 x1 t t' d ha ht
    have e1 : args = #[x0, x1] := by apply Array.toList_inj.1; simpa using ha
    have e2 : argTypes = #[t, t'] := by apply Array.toList_inj.1; simpa using ht
    subst e1 e2
    split at h
    · rename_i e e' hu hu'
      split at h
      · rename_i i hi
        split at h
        · rename_i z hz
          cases hc : (Nat.blt 0 i.size && Nat.beq z.cells.size i.size) with
          | false => rw [hc] at h; exact h.elim
          | true =>
            rw [hc] at h
            simp only [cond_true] at h
            simp only [Bool.and_eq_true] at hc
            split at h
            · rename_i l0 l1 s h0 h1 hs
              obtain ⟨b1, b2, hk⟩ := h
              refine XStep.append ho hu hu' hi hz rfl (by rw [← Nat.blt_eq]; exact hc.1) (Nat.eq_of_beq_eq_true hc.2) h0 h1 s ?_ b1 b2 hk
              unfold ownOf at hs
              split at hs
              · rename_i q
                cases hq : c.os.any (Nat.beq q) with
                | true => rw [hq] at hs; simp at hs; subst hs; exact .inl ⟨rfl, mem_os hq⟩
                | false =>
                  rw [hq] at hs
                  simp only [cond_false] at hs
                  split at hs
                  · rename_i hg; exact .inr hg
                  · cases hs
              · exact .inr rfl
              · cases hs
            · exact h.elim
        · exact h.elim
      · exact h.elim
    · exact h.elim
  · exact h.elim

theorem callA_sound {cl : Call} {dst : Option Tmp} {type : TypeId} {pos : String} {after : Array Edge} {guard : Option (Nat × Bool)} (ho : opsOk n ⟨dst, .call cl, type, pos, after, guard⟩ = true)
    (h : callA P n c cl dst K) : XStep P n ⟨dst, .call cl, type, pos, after, guard⟩ c K := by
  obtain ⟨callee, args, argTypes⟩ := cl
  unfold callA at h
  split at h
  · rename_i f a1 a2 ht
    cases htup : (args.toList.all fun x => !(evA c x).isTup) with
    | false => simp only [htup] at h; exact h.elim
    | true =>
      simp only [htup, cond_true] at h
      cases hpf : pf1L (a1 ++ args.toList.map (evA c) ++ a2) with
      | true =>
        simp only [hpf, cond_true] at h
        rcases h with ⟨r, ow, h1, h2⟩ | h
        rotate_left
        · unfold callG at h
          obtain ⟨h0, R, h1, h2⟩ := h
          exact XStep.callAny ho ht htup h0 h1 h2
        · exact XStep.callPure ho ht htup (pfL_of1 hpf) h1 h2
      | false =>
        simp only [hpf, cond_false] at h
        unfold callG at h
        obtain ⟨h0, R, h1, h2⟩ := h
        exact XStep.callAny ho ht htup h0 h1 h2
  · exact h.elim

theorem buildSliceA_sound {ops : List Oper} {t : TypeId} {len : Nat} {parts : Array (Nat × Operand)} {dst : Option Tmp} {type : TypeId} {pos : String} {after : Array Edge} {guard : Option (Nat × Bool)} (ho : opsOk n ⟨dst, .buildSlice t len parts, type, pos, after, guard⟩ = true)
    (h : buildSliceA P ops c t len parts dst K) : XStep P n ⟨dst, .buildSlice t len parts, type, pos, after, guard⟩ c K := by
  unfold buildSliceA at h
  split at h
  · rename_i e d xs hu hp
    split at h
    · rename_i i hi
      split at h
      · rename_i z hz
        cases hc : (Nat.blt 0 i.size && Nat.beq len xs.length && Nat.ble (len * i.size) 16777216 && xs.all (fun x => leavesOk (evA c x) && !(evA c x).isTup && Nat.beq (evA c x).leaves.length i.size)) with
        | false => rw [hc] at h; exact h.elim
        | true =>
          rw [hc] at h
          simp only [cond_true] at h
          simp only [Bool.and_eq_true] at hc
          obtain ⟨⟨⟨c1, c2⟩, c3⟩, c4⟩ := hc
          have c4' : ∀ x ∈ xs, leavesOk (evA c x) = true ∧ (evA c x).isTup = false ∧ (evA c x).leaves.length = i.size := fun x hx => by
            have := List.all_eq_true.1 c4 x hx
            simp only [Bool.and_eq_true, Bool.not_eq_true'] at this
            exact ⟨this.1.1, this.1.2, Nat.eq_of_beq_eq_true this.2⟩
          have box := fun h => XStep.buildSliceB (K := K) ho hu hi hz rfl (by rw [← Nat.blt_eq]; exact c1) (Nat.eq_of_beq_eq_true c2) (sliceParts_eq _ _ _ hp) (Nat.le_of_ble_eq_true c3) c4' h
          cases hpf : (xs.all fun x => pf1 (evA c x)) with
          | false => rw [hpf] at h; exact box h
          | true =>
            rw [hpf] at h
            simp only [cond_true] at h
            have shut := fun h => XStep.buildSlice (K := K) ho hu hi hz rfl (by rw [← Nat.blt_eq]; exact c1) (Nat.eq_of_beq_eq_true c2) (sliceParts_eq _ _ _ hp) (Nat.le_of_ble_eq_true c3)
              (fun x hx => ⟨(c4' x hx).1, pf_of1 (List.all_eq_true.1 hpf x hx), (c4' x hx).2⟩) h
            cases h0 : (Nat.beq len 0 || callArg ops d) with
            | false => rw [h0] at h; exact shut h
            | true => rw [h0] at h; exact h.elim shut box
      · exact h.elim
    · exact h.elim
  · exact h.elim

theorem buildA_sound {t : TypeId} {parts : Array (Nat × Operand)} {dst : Option Tmp} {type : TypeId} {pos : String} {after : Array Edge} {guard : Option (Nat × Bool)} (ho : opsOk n ⟨dst, .build t parts, type, pos, after, guard⟩ = true)
    (h : buildA P n c t parts dst K) : XStep P n ⟨dst, .build t parts, type, pos, after, guard⟩ c K := by
  unfold buildA at h
  split at h
  · rename_i fs i hu hi
    split at h
    · rename_i z hz
      cases hc : ((fs.toList.all fun f => (P.underlying f.type).isSome) && okTmp n (.const z) && leavesOk (cst z)) with
      | false => rw [hc] at h; exact h.elim
      | true =>
        rw [hc] at h
        simp only [cond_true] at h
        simp only [Bool.and_eq_true] at hc
        exact XStep.build ho hu hc.1.1 hi hz hc.1.2 hc.2 h
    · exact h.elim
  · exact h.elim

theorem stepA_sound (h : stepA P n ops o c K) : XStep P n o c K := by
  unfold stepA at h
  cases ho : opsOk n o with
  | false => rw [ho] at h; exact h.elim
  | true =>
    rw [ho] at h
    simp only [cond_true] at h
    obtain ⟨dst, op, type, pos, after, guard⟩ := o
    split at h
    · rename_i s d hg
      cases hb : (Nat.blt s n && Nat.blt d n) with
      | false => rw [hb] at h; exact h.elim
      | true =>
        rw [hb] at h
        simp only [cond_true] at h
        simp only [Bool.and_eq_true] at hb
        unfold mayGive at hg
        split at hg
        · rename_i q d' e1 e2
          simp only at e1 e2
          subst e1 e2
          cases hq : c.os.any (Nat.beq q) with
          | false => rw [hq] at hg; cases hg
          | true =>
            rw [hq] at hg
            simp only [cond_true, Option.some.injEq, Prod.mk.injEq] at hg
            obtain ⟨rfl, rfl⟩ := hg
            exact XStep.give (.inl rfl) (mem_os hq) (by rw [← Nat.blt_eq]; exact hb.1) (by rw [← Nat.blt_eq]; exact hb.2) h
        · rename_i q d' e1 e2
          simp only at e1 e2
          subst e1 e2
          cases hq : (c.os.any (Nat.beq q) && appArg ops d') with
          | false => rw [hq] at hg; cases hg
          | true =>
            rw [hq] at hg
            simp only [cond_true, Option.some.injEq, Prod.mk.injEq] at hg
            obtain ⟨rfl, rfl⟩ := hg
            simp only [Bool.and_eq_true] at hq
            exact XStep.give (.inr rfl) (mem_os hq.1) (by rw [← Nat.blt_eq]; exact hb.1) (by rw [← Nat.blt_eq]; exact hb.2) h
        · cases hg
    · cases op
      case box el x hgv =>
        simp only at h
        cases dst with
        | none => exact h.elim
        | some d =>
          simp only at h
          cases hl : leavesOk (evA c x) with
          | false => rw [hl] at h; exact h.elim
          | true => rw [hl] at h; exact XStep.box ho hl h
      case alloc e hgv =>
        simp only at h
        split at h
        · rename_i d i hi
          split at h
          · rename_i z hz
            cases hc : (okTmp n (.const z) && leavesOk (cst z)) with
            | false => rw [hc] at h; exact h.elim
            | true =>
              rw [hc] at h
              simp only [cond_true] at h
              simp only [Bool.and_eq_true] at hc
              exact XStep.alloc (opsOk_dst ho d rfl) hi hz hc.1 hc.2 h
          · exact h.elim
        · exact h.elim
      case store => exact storeA_sound ho h
      case binOp op t x y yt hgv =>
        simp only at h
        split at h
        · rename_i hy; exact XStep.nilEq (.inl rfl) ho hy h
        · rename_i hy; exact XStep.nilEq (.inr rfl) ho hy h
        · exact XStep.pure ho h
      case makeMap => exact makeMapA_sound ho h
      case mapUpdate => exact mapUpdateA_sound ho h
      case load t p hgv =>
        simp only at h
        split at h
        · rename_i d k l' c' hc
          cases hb : (appArg ops d && (P.underlying t).isSome && !isAggT P t) with
          | false => rw [hb] at h; exact XStep.pure ho h
          | true =>
            rw [hb] at h
            simp only [cond_true] at h
            simp only [Bool.and_eq_true, Bool.not_eq_true'] at hb
            obtain ⟨off, l, os, hl, hos, hp⟩ := cellOwn_eq hc
            exact XStep.loadOwn ho hb.1.2 hb.2 hl hos c' hp h
        · exact XStep.pure ho h
      case buildSlice => exact buildSliceA_sound ho h
      case build => exact buildA_sound ho h
      case call cl hgv =>
        simp only at h
        split at h
        · rename_i hcl
          split at h <;> first | exact appendZ_sound hcl ho h | exact appendB_sound hcl ho h | exact appendA_sound hcl ho h
        · rename_i hcl; exact copyA_sound hcl ho h
        · rename_i hcl; exact clearA_sound hcl ho h
        · exact XStep.pure ho h
        · rename_i f hcl
          cases hx : isExt P f with
          | false => rw [hx] at h; exact callA_sound ho h
          | true =>
            rw [hx] at h
            obtain ⟨callee, args, argTypes⟩ := cl
            simp only at hcl
            subst hcl
            simp only [cond_true] at h
            cases htup : (args.toList.all fun x => !(evA c x).isTup) with
            | false => simp only [htup] at h; exact h.elim
            | true =>
              simp only [htup, cond_true] at h
              obtain ⟨v, h1, h2⟩ := h
              exact XStep.callExt ho htup h1 h2
        · exact callA_sound ho h
      all_goals exact XStep.pure ho h
end
end Go.Ev
end
section
/- Written by this session: a guarded operation as one path. Conditions: none beyond those in each statement. -/
namespace Go.Ev
open Go

def openV : AV → AV
  | .gv _ x => x
  | x => x
def openOk (b : Bool) : List AV → Prop
  | [] => True
  | .gv b' _ :: l => (b = true → b' = true) ∧ openOk b l
  | _ :: l => openOk b l

theorem openOk_mem {b : Bool} : ∀ {l : List AV}, openOk b l → b = true → ∀ x ∈ l, ∀ b' y, x = .gv b' y → b' = true
  | [], _, _, x, hx, _, _, _ => by cases hx
  | z :: l, h, hb, x, hx, b', y, e => by
    rcases List.mem_cons.1 hx with rfl | hx
    · subst e; simp only [openOk] at h; exact h.1 hb
    · refine openOk_mem (l := l) ?_ hb x hx b' y e
      cases z <;> simp only [openOk] at h <;> first | exact h.2 | exact h

theorem rep_open {w : World} {hw : Hw} {bs : List Nat} {base : Nat} {x : AV} {u : Value} (h : Rep w hw bs base x u) (ho : ∀ b y, x = .gv b y → b = true) : Rep w hw bs base (openV x) u := by
  cases x with
  | gv b y =>
    obtain rfl := ho b y rfl
    obtain ⟨h1, h2⟩ := rep_leaf rfl (by simp) (by simp) h
    simp only [RepV] at h1
    obtain ⟨v, e, _, r⟩ := h1
    simp only [List.cons.injEq, and_true] at e
    subst e
    obtain ⟨⟨q1, q2⟩, q3⟩ := r trivial
    refine rep_of (.inr ⟨?_, ?_⟩)
    · rw [cells_toList_of (visAgg_of q2)]; exact RepV.lift _ _ q3
    · rw [visAgg_of q2]; exact q1.symm
  | _ => exact h

section
variable {P : Program} {n : Nat} {c : Cfg} {K : Cfg → Prop} {W0 : World} {G0 : Gh} {a : Act} {w : World} {g : Gh} {o : Oper} {d : Nat}

/-- The operation is done: its value, seen under its guard. -/
theorem gv_step (hi : Inv n W0 G0 c a w g) (ho : opsOk n o = true) (hd : o.dst = some d) {b : Bool} {v : AV} (hb : b = true) {ρA : Operand → AV} (hop : ∀ x ∈ o.op.operands, Rep w g.hw g.bs c.base (ρA x) (a.eval x)) (hp : b = true → pureA P c.env c.own ρA o fun v' => v' = v) (hv : v.isLeaf = true) (hpf : v.pf = true) :
    ∃ u, (execOp a.eval o).run P w = .ok (.value u) w ∧ Inv n W0 G0 (c.put (some d) (.gv b v)) (a.put (some d) u) w g := by
  obtain ⟨v', rfl, hs⟩ := pureA_sound (hp hb)
  obtain ⟨u, hu, hr⟩ := hs a.eval w g hi.good fun x hx => hop x hx
  refine ⟨u, hu, hi.put (opsOk_dst ho d hd) ?_⟩
  obtain ⟨q1, q2, q3⟩ := rep_isLeaf hv hr
  refine rep_mk_leaf rfl (visAgg_of q3) ?_
  simp only [RepV]
  exact ⟨u, rfl, (fun h => by rw [hb] at h; cases h), fun _ => ⟨⟨q2, q3⟩, RepV.pfV _ _ hpf q1⟩⟩

/-- It is not done. -/
theorem gv_skip (hi : Inv n W0 G0 c a w g) (hd : d < n) {b : Bool} {v : AV} (hb : b = false) : Inv n W0 G0 (c.put (some d) (.gv b v)) (a.put (some d) undef) w g := by
  refine hi.put hd (rep_mk_leaf rfl rfl ?_)
  simp only [RepV]
  exact ⟨undef, rfl, (fun _ => rfl), (fun h => by rw [hb] at h; cases h)⟩
end
end Go.Ev
end
section
/- Written by this session: guards. Conditions: none beyond those in each statement. -/
namespace Go.Ev
open Go

def guardB (c : Cfg) (t : Nat) (want : Bool) : Option Bool :=
  match Fr.get c.fr t with
  | .v (.bool b) => match want with
    | true => some b
    | false => some (!b)
  | .gv b0 (.v (.bool b1)) => match want with
    | true => some (b0 && b1)
    | false => some (b0 && !b1)
  | _ => none

def opens (o : Oper) : Bool :=
  match o.op with
  | .pick _ _ _ => false
  | _ => true

def isFnCall (o : Oper) : Bool :=
  match o.op with
  | .call c => match c.callee with
    | .builtin _ => false
    | _ => true
  | .fieldAddr _ _ _ | .indexAddr _ _ _ | .index _ _ _ | .slice _ _ _ _ _ | .lookup _ _ _ _ => true
  | _ => false
def sameG (a b : Option (Nat × Bool)) : Bool :=
  match a, b with
  | some (i, x), some (j, y) => Nat.beq i j && (x == y)
  | _, _ => false
def chainHas (ops : List Oper) (g : Option (Nat × Bool)) : Nat → Option (Nat × Bool) → Bool
  | 0, _ => false
  | k + 1, cur => sameG cur g || (match cur with
    | some (j, _) => match ops[j]? with
      | some o => chainHas ops g k o.guard
      | none => false
    | none => false)
/-- Is there a call of a function under this guard? -/
def callIn (ops : List Oper) (g : Option (Nat × Bool)) : Bool := ops.any fun o => isFnCall o && chainHas ops g 9 o.guard

def guardV (P : Program) (n : Nat) (ops : List Oper) (c : Cfg) (o : Oper) (K : Cfg → Prop) : Prop :=
  match o.guard, o.dst with
  | some (j, want), some d => (match (ops[j]?).bind (·.dst) with
    | some t => bif Nat.blt t n && opsOk n o && !callIn ops o.guard then (match guardB c t want with
      | some b => ∃ v, openOk b (bif opens o then o.op.operands.toList.map (evA c) else []) ∧ (b = true → pureA P c.env c.own (fun x => bif opens o then openV (evA c x) else evA c x) o fun v' => v' = v) ∧ (v.isLeaf && v.pf) = true ∧ K (c.put (some d) (.gv b v))
      | none => False) else False
    | none => False)
  | _, _ => False

section
variable {P : Program} {n : Nat} {ops : Array Oper} {c : Cfg} {K : Cfg → Prop} {W0 : World} {G0 : Gh} {a : Act} {w : World} {g : Gh} {o : Oper}

theorem guardB_wanted (hi : Inv n W0 G0 c a w g) {j t : Nat} {want b : Bool} (hg : o.guard = some (j, want)) (ht : (ops.toList[j]?).bind (·.dst) = some t) (htn : t < n) (h : guardB c t want = some b) : Region.wanted o (yielded ops a.tmps) = b := by
  have hr := hi.fr t htn
  have hget : a.tmps[t]? = some (a.tmps.getD t undef) := by
    rw [Array.getD_eq_getD_getElem?, Array.getElem?_eq_getElem (by rw [hi.size]; exact htn)]; rfl
  have hy : yielded ops a.tmps j = (match a.tmps[t]? with
      | some (.bool b) => some b
      | _ => none) := by
    unfold yielded
    have : (ops[j]?).bind (·.dst) = some t := by simpa using ht
    rw [this]
    rfl
  unfold Region.wanted
  rw [hg]
  simp only
  rw [hy, hget]
  unfold guardB at h
  split at h
  · rename_i b' hx
    rw [hx] at hr
    obtain ⟨e, _⟩ := rep_v hr
    rw [e]
    cases want <;> (simp only [Option.some.injEq] at h; subst h; cases b' <;> rfl)
  · rename_i b0 b1 hx
    rw [hx] at hr
    obtain ⟨h1, _⟩ := rep_leaf rfl (by simp) (by simp) hr
    simp only [RepV] at h1
    obtain ⟨v, e, q, r⟩ := h1
    simp only [List.cons.injEq, and_true] at e
    cases b0 with
    | false =>
      rw [e, q rfl]
      cases want <;> (simp only [Option.some.injEq] at h; subst h; rfl)
    | true =>
      have := (r rfl).2
      simp only [List.cons.injEq, and_true] at this
      rw [e, this]
      cases want <;> (simp only [Option.some.injEq] at h; subst h; cases b1 <;> rfl)
  · cases h

theorem guardV_sound (hi : Inv n W0 G0 c a w g) (h : guardV P n ops.toList c o K) :
    ∃ c' u, K c' ∧ ((Region.wanted o (yielded ops a.tmps) = true ∧ (execOp a.eval o).run P w = .ok (.value u) w ∧ Inv n W0 G0 c' (a.put o.dst u) w g) ∨ (Region.wanted o (yielded ops a.tmps) = false ∧ Inv n W0 G0 c' (a.put o.dst undef) w g)) := by
  unfold guardV at h
  split at h
  · rename_i j want d hg hd
    split at h
    · rename_i t ht
      cases hb : (Nat.blt t n && opsOk n o && !callIn ops.toList o.guard) with
      | false => rw [hb] at h; exact h.elim
      | true =>
        rw [hb] at h
        simp only [cond_true] at h
        simp only [Bool.and_eq_true] at hb
        replace hb := hb.1
        have htn : t < n := by rw [← Nat.blt_eq]; exact hb.1
        split at h
        · rename_i b hgb
          obtain ⟨v, h1, h2, h3, h4⟩ := h
          simp only [Bool.and_eq_true] at h3
          have hw := guardB_wanted hi hg ht htn hgb
          cases b with
          | true =>
            obtain ⟨u, q1, q2⟩ := gv_step hi hb.2 hd rfl (fun x hx => by
              have hx0 := hi.eval (opsOk_mem hb.2 hx)
              cases hop : opens o with
              | false => simpa using hx0
              | true =>
                rw [hop] at h1
                simp only [cond_true] at h1 ⊢
                exact rep_open hx0 fun b' y e => openOk_mem h1 rfl _ (List.mem_map.2 ⟨x, by simpa using hx, rfl⟩) b' y e) h2 h3.1 h3.2
            exact ⟨_, u, h4, .inl ⟨hw, q1, by rw [hd]; exact q2⟩⟩
          | false => exact ⟨_, undef, h4, .inr ⟨hw, by rw [hd]; exact gv_skip hi (opsOk_dst hb.2 d hd) rfl⟩⟩
        · exact h.elim
    · exact h.elim
  · exact h.elim
end
end Go.Ev
end
