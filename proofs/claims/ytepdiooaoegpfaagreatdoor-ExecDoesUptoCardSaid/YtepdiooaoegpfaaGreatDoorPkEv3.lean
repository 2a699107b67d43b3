/- Written by programs of this session: laws and contracts that the law's proof stands on, merged into one text. Conditions: none beyond those in each statement. -/
import Derived.Test.YtepdiooaoegpfaaGreatDoorPkEv2
import Derived.Laws.Sem
section
/- Written by this session: each operation that leaves memory as it is. Conditions: none beyond those in each statement. -/
namespace Go.Ev
open Go

section
variable {P : Program} {env own : List Bx} {ρA : Operand → AV} {o : Oper} {K : AV → Prop}

theorem cst_rep {n : Nat} {w : World} {hw : Hw} {bs : List Nat} {base : Nat} (v : Value) (h : okTmp n (.const v) = true) : Rep w hw bs base (cst v) v := by
  cases v with
  | agg cs =>
    refine rep_agg_mk ?_
    have all : ∀ l : List Value, (l.all fun x => x.oneCell') = true → RepL w hw bs base (l.map .v) l := by
      intro l
      induction l with
      | nil => intro _; simp [RepL]
      | cons x l ih =>
        intro hl
        simp only [List.all_cons, Bool.and_eq_true] at hl
        simp only [List.map_cons, RepL]
        exact ⟨x, l, rfl, ⟨by simp [RepV], rfl, hl.1⟩, ih hl.2⟩
    exact all cs.toList h
  | _ => exact rep_v_mk rfl

theorem run_und {t : TypeId} {d : TypeDesc} (h : P.underlying t = some d) (w : World) : (underlying t).run P w = .ok d w := by
  simp [underlying, h]
theorem run_size {t : TypeId} (h : (P.info? t).isSome = true) (w : World) : (sizeOf t).run P w = .ok (P.cellsOf t) w := by
  obtain ⟨i, hi⟩ := Option.isSome_iff_exists.1 h
  simp [sizeOf, typeInfo, hi, Program.cellsOf]
theorem info_of_und {t : TypeId} (h : (P.underlying t).isSome = true) : (P.info? t).isSome = true := by
  cases e : P.info? t with
  | some i => rfl
  | none => simp [Program.underlying, e] at h
theorem und_of_info {t : TypeId} (h : isAggT P t = true) : ∃ d, P.underlying t = some d := by
  unfold isAggT at h
  cases e : P.underlying t with
  | some d => exact ⟨d, rfl⟩
  | none => simp [e] at h
theorem run_isAgg {t : TypeId} {d : TypeDesc} (h : P.underlying t = some d) (w : World) : (isAgg t).run P w = .ok (isAggT P t) w := by
  unfold isAgg isAggT
  cases d <;> simp [underlying, h]

theorem addr_add (b o n : Nat) : (⟨b, o, none⟩ : Addr).add n = ⟨b, o + n, none⟩ := by
  unfold Addr.add; split <;> simp_all

theorem run_loadCellsFrom {w : World} {b o : Nat} : ∀ (n i : Nat) (acc : Array Value) (vs : List Value), vs.length = n → (∀ j v, vs[j]? = some v → w.cell? ⟨b, o + i + j, none⟩ = some v) →
    (loadCellsFrom ⟨b, o, none⟩ i n acc).run P w = .ok (acc ++ vs.toArray) w
  | 0, i, acc, vs, hn, h => by
    obtain rfl := List.length_eq_zero_iff.1 hn
    simp [loadCellsFrom]
  | n + 1, i, acc, v :: vs, hn, h => by
    have h0 := h 0 v rfl
    simp only [Nat.add_zero] at h0
    simp only [loadCellsFrom, Sem.run_bind, addr_add, run_load, h0, Result.andThen_ok]
    rw [run_loadCellsFrom n (i + 1) (acc.push v) vs (by simpa using hn) fun j x hj => by
      have := h (j + 1) x (by simpa using hj)
      rw [show o + (i + 1) + j = o + i + (j + 1) from by omega]; exact this]
    simp

theorem run_loadCells {w : World} {hw : Hw} {b o : Nat} {vs : List Value} (h : Cells w hw b o vs) {n : Nat} (hn : n = vs.length) : (loadCells ⟨b, o, none⟩ n).run P w = .ok vs.toArray w := by
  obtain ⟨m, e, le, c⟩ := h
  subst hn
  unfold loadCells
  rw [run_loadCellsFrom vs.length 0 #[] vs rfl (by simpa using c)]
  simp

/-- The cells of a place, whatever the place is. -/
def CellsAt (w : World) (b o : Nat) (vs : List Value) : Prop := ∀ j v, vs[j]? = some v → w.cell? ⟨b, o + j, none⟩ = some v
theorem Cells.at {w : World} {hw : Hw} {b o : Nat} {vs : List Value} (h : Cells w hw b o vs) : CellsAt w b o vs := h.choose_spec.2.2
theorem CellsAt.sub {w : World} {b o : Nat} {vs : List Value} (h : CellsAt w b o vs) (off n : Nat) : CellsAt w b (o + off) ((vs.drop off).take n) := fun j v hj => by
  rw [List.getElem?_take] at hj
  split at hj
  · rw [List.getElem?_drop] at hj
    have := h _ v hj
    rwa [← Nat.add_assoc] at this
  · cases hj

theorem part_load {t : TypeId} {l : List AV} {off : Nat} (h : partA P t l off K) : ∃ v, K v ∧ ∀ (w : World) (hw : Hw) (bs : List Nat) (base b o : Nat) (vs : List Value),
    CellsAt w b o vs → RepL w hw bs base l vs → ∃ u, (loadVar t ⟨b, o + off, none⟩).run P w = .ok u w ∧ Rep w hw bs base v u := by
  unfold partA at h
  cases hi0 : (P.underlying t).isSome with
  | false => simp [hi0] at h
  | true =>
    simp only [hi0, cond_true] at h
    have hi := info_of_und hi0
    cases ha : isAggT P t with
    | true =>
      simp only [ha, cond_true] at h
      obtain ⟨hle, hk⟩ := h
      refine ⟨_, hk, fun w hw bs base b o vs hc hr => ?_⟩
      obtain ⟨d, hd⟩ := und_of_info ha
      have hlen := RepL.length hr
      refine ⟨.agg ((vs.drop off).take (P.cellsOf t)).toArray, ?_, rep_agg_mk (by simpa using (hr.drop off).take _)⟩
      simp only [loadVar, Sem.run_bind, run_isAgg hd, Result.andThen_ok, ha, if_true, run_size hi]
      unfold loadCells
      rw [run_loadCellsFrom (P.cellsOf t) 0 #[] ((vs.drop off).take (P.cellsOf t)) (by simp; omega) (fun j v hj => by simpa using hc.sub off (P.cellsOf t) j v hj)]
      simp
    | false =>
      simp only [ha, cond_false] at h
      cases hx : l[off]? with
      | none => simp [hx] at h
      | some x =>
        simp only [hx] at h
        refine ⟨x, h, fun w hw bs base b o vs hc hr => ?_⟩
        obtain ⟨v, hv, hrv, h1, h2⟩ := hr.get hx
        refine ⟨v, ?_, repV_one h2 h1 hrv⟩
        cases hd : P.underlying t with
        | none => simp [hd] at hi0
        | some d => simp [loadVar, run_isAgg hd, ha, hc off v hv]

theorem cells_of_block {w : World} {b : Nat} {cs : Array Value} {e : TypeId} {f : Nat × Nat} (h : w.heap[b]? = some (.cells cs e f)) : CellsAt w b 0 cs.toList := fun j v hj => by
  simp only [World.cell?, h, Nat.zero_add, Option.isSome_none, Bool.false_eq_true, if_false]
  simpa using hj

theorem Good.own_box {w : World} {g : Gh} (G : Good w g (env ++ own) env.length) {i b : Nat} {x : Bx} (h : own[i]? = some x) (hb : g.bs[env.length + i]? = some b) : RepB w g env.length (env.length + i) x b :=
  G.box _ x b (by rw [List.getElem?_append_right (by omega)]; simpa using h) hb
theorem Good.env_box {w : World} {g : Gh} (G : Good w g (env ++ own) env.length) {i b : Nat} {x : Bx} (h : env[i]? = some x) (hb : g.bs[i]? = some b) : RepB w g env.length i x b := by
  have hi : i < env.length := by
    rcases Nat.lt_or_ge i env.length with h' | h'
    · exact h'
    · rw [List.getElem?_eq_none h'] at h; cases h
  exact G.box _ x b (by rw [List.getElem?_append_left hi]; exact h) hb

theorem rep_sliceAddr {w : World} {g : Gh} {k : Nat} {l : List AV} {n : Nat} {x : AV} {b o : Nat} {cs : List Value} (hk : 0 < k) (hc : Cells w g.hw b o cs) (hr : RepE w g.hw k l cs) (hx : l[n]? = some x) :
    Cells w g.hw b (o + n * k) ((cs.drop (n * k)).take k) ∧ RepL w g.hw [] 0 x.leaves ((cs.drop (n * k)).take k) := by
  obtain ⟨h1, h2, h3⟩ := hr.get hx
  have : n * k + k ≤ cs.length := by rw [Nat.succ_mul] at h1; exact h1
  exact ⟨(hc.drop (n * k) (by omega)).take k, repV_leaves h2 h3⟩

theorem sliceBound_run {k : IntKind} {n : Int} {y : Nat} (h0 : 0 ≤ n) (h1 : n ≤ y) (cd : BoundsCode) (w : World) : (Instr.sliceBound (.int k n) y cd).run P w = .ok n.toNat w := by
  simp [Instr.sliceBound, asIntOf, h0, h1]

end
end Go.Ev
end
