/- Written by programs of this session: laws and contracts that the law's proof stands on, merged into one text. Conditions: none beyond those in each statement. -/
import Derived.Test.YtepdiooaoegpfaaGreatDoorPkEv5
import Derived.MapKept
section
/- Written by this session: who may append, and what an append makes of a frame of trees. Conditions: none beyond those in each statement. -/
namespace Go.Ev
open Go

section
variable {n : Nat} {W0 : World} {G0 : Gh} {c : Cfg} {a : Act} {w : World} {g : Gh}

theorem HwLe.of_heap {w w' : World} {hw : Hw} (h : w'.heap = w.heap) : HwLe w hw w' hw := fun _ h' e => ⟨h', e, Nat.le_refl _, fun _ _ => cell?_same (by rw [h])⟩

/-- A draw. -/
theorem Inv.drew (hi : Inv n W0 G0 c a w g) : Inv n W0 G0 c a w.drew g := by
  have E : Ext KeepS w g w.drew g := ⟨Nat.le_refl _, rfl, rfl, rfl, HwLe.of_heap rfl, fun _ _ h _ => ⟨h, rfl, rfl⟩, fun _ _ h => h, fun _ h => .inl h, fun _ _ L h => ⟨L, h, fun _ => rfl⟩, fun _ _ _ _ => rfl⟩
  refine hi.step ⟨hi.good.len, hi.good.nd, hi.good.nohw, fun i x b hx hb => ?_, hi.good.hw, hi.good.own, GlobOk.mono (w := w) (w' := w.drew) (HwLe.of_heap (w := w) (w' := w.drew) rfl) hi.good.glob⟩ E
  exact RepB.mono (w := w) (w' := w.drew) (g := g) (g' := g) (HwLe.of_heap rfl) (fun _ _ h => h) rfl (fun j b e => ⟨e, rfl, rfl⟩) (hi.good.box i x b hx hb)

def moved (s d : Loc) (L : Loc) : Loc := if L = s then d else L

/-- The right to append goes from one place to another. -/
theorem Good.relabel {mem : List Bx} {base : Nat} (G : Good w g mem base) {s : Nat} {d : Loc} :
    let g' : Gh := { g with own := fun b => (g.own b).map (moved (.slot s) d) }
    Good w g' mem base ∧ (∀ W0 G0, Ext (· = .ext) W0 G0 w g → Ext (· = .ext) W0 G0 w g') ∧ (∀ L k y, L ≠ .slot s → OwnAt w g L k y → OwnAt w g' L k y) ∧ (∀ k y, OwnAt w g (.slot s) k y → OwnAt w g' d k y) := by
  have O1 : ∀ L k y, L ≠ .slot s → OwnAt w g L k y → OwnAt w { g with own := fun b => (g.own b).map (moved (.slot s) d) } L k y := by
    intro L k y hL h
    obtain ⟨a, n, c, e, hn, h⟩ := h
    refine ⟨a, n, c, e, hn, h.imp id ?_⟩
    rintro ⟨b, o, h, cs, e, ea, h1, h2, h3, h4, h5⟩
    exact ⟨b, o, h, cs, e, ea, by simp [h1, moved, hL], h2, h3, h4, h5⟩
  refine ⟨⟨G.len, G.nd, G.nohw, fun i x b hx hb => ?_, G.hw, fun b L e => ?_, G.glob⟩, fun W0 G0 E => ?_, O1, ?_⟩
  · have := G.box i x b hx hb
    cases x with
    | cells l os =>
      obtain ⟨cs, e, h1, h2, h3⟩ := this
      exact ⟨cs, e, h1, h2, fun j hj => by
        obtain ⟨k, l', y, e1, e2, e3⟩ := h3 j hj
        exact ⟨k, l', y, e1, e2, O1 _ k y (by simp) e3⟩⟩
    | map l => exact this
  · simp only [Option.map_eq_some_iff] at e
    obtain ⟨L', e, _⟩ := e
    exact G.own b L' e
  · refine ⟨E.size, E.tape, E.os, E.output, E.hw, fun b L e hk => ?_, E.bs, E.bsnew, fun b hb L e => ?_, E.old⟩
    · obtain ⟨h1, h2, h3⟩ := E.ext b L e hk
      subst hk
      exact ⟨by simp [h1, moved], h2, h3⟩
    · simp only [Option.map_eq_some_iff] at e
      obtain ⟨L', e, rfl⟩ := e
      obtain ⟨L'', e', he⟩ := E.orig b hb L' e
      refine ⟨L'', e', fun hk => ?_⟩
      have := he hk
      subst this hk
      simp [moved]
  · intro k y h
    obtain ⟨a, n, c, e, hn, h⟩ := h
    refine ⟨a, n, c, e, hn, h.imp id ?_⟩
    rintro ⟨b, o, h, cs, e, ea, h1, h2, h3, h4, h5⟩
    exact ⟨b, o, h, cs, e, ea, by simp [h1, moved], h2, h3, h4, h5⟩

/-- A slot's value is put into another slot, and the right to append with it. -/
def Cfg.give (c : Cfg) (s d : Nat) : Cfg := { c with fr := (d, Fr.get c.fr s) :: c.fr, os := d :: c.os.filter fun i => !(Nat.beq i d || Nat.beq i s) }

theorem Inv.give (hi : Inv n W0 G0 c a w g) {s d : Nat} (hs : s ∈ c.os) (hd : d < n) (hsn : s < n) : ∃ g', Inv n W0 G0 (c.give s d) (a.put (some d) (a.tmps.getD s undef)) w g' := by
  obtain ⟨G', E', O1, O2⟩ := hi.good.relabel (s := s) (d := .slot d)
  refine ⟨_, ⟨by simpa [Act.put] using hi.size, hi.defers, fun i h => ?_, fun i h => ?_, G', E' _ _ hi.ext, hi.ecl, hi.b0⟩⟩
  · rw [getD_put (by rw [hi.size]; exact hd)]
    simp only [Cfg.give, Fr.get_cons]
    split
    · exact hi.fr s hsn
    · exact hi.fr i h
  · rw [getD_put (by rw [hi.size]; exact hd)]
    simp only [Cfg.give, Fr.get_cons] at h ⊢
    by_cases hdi : d = i
    · simp only [hdi, if_true]
      obtain ⟨k, l, h1, h2⟩ := hi.os s hs
      exact ⟨k, l, h1, hdi ▸ O2 k _ h2⟩
    · simp only [hdi, if_false]
      have hm : i ∈ c.os ∧ i ≠ s := by
        rcases List.mem_cons.1 h with h | h
        · exact absurd h.symm hdi
        · simp only [List.mem_filter, Bool.not_eq_true', Bool.or_eq_false_iff] at h
          exact ⟨h.1, fun e => by subst e; simp at h⟩
      obtain ⟨k, l, h1, h2⟩ := hi.os i hm.1
      exact ⟨k, l, h1, O1 _ k _ (by simp [hm.2]) h2⟩

theorem Inv.append {P : Program} (hi : Inv n W0 G0 c a w g) {t t' ty e e' : TypeId} {i : TypeInfo} {z : Value} {s d k : Nat} {l0 l1 : List AV} {y0 y1 : Value}
    (ht : P.underlying t = some (.slice e)) (ht' : P.underlying t' = some (.slice e')) (hin : P.info? e = some i) (hz : i.zero = some z) (hk : i.size = k) (hzk : z.cells.size = k)
    (hr0 : Rep w g.hw g.bs c.base (.sl k l0) y0) (ho : OwnAt w g (.slot s) k y0) (hr1 : Rep w g.hw g.bs c.base (.sl k l1) y1)
    (hb : (l0.length + l1.length) * i.bytes ≤ 140737488355328) (h47 : l0.length + l1.length ≤ 140737488355328) :
    ∃ v' w' g', (Builtin.append_ #[t, t'] ty #[y0, y1]).run P w = .ok v' w' ∧ Inv n W0 G0 { c with os := c.os.filter fun i => !Nat.beq i s } a w' g' ∧
      Rep w' g'.hw g'.bs c.base (.sl k (l0 ++ l1)) v' ∧ OwnAt w' g' (.slot d) k v' := by
  obtain ⟨A0, c0, olds, rfl, hE0, hf0⟩ := firstCells_of (P := P) hr0
  obtain ⟨A1, c1, news, rfl, hE1, hf1⟩ := firstCells_of (P := P) hr1
  have hk0 : 0 < k := by obtain ⟨_, _, _, _, h, _⟩ := rep_sl hr0; exact h
  have hlc : l0.length ≤ c0 := by obtain ⟨a', c', e, h, _⟩ := rep_sl hr0; simp at e; rw [e.2]; exact h
  have hx : ∀ w' : World, (Builtin.lenOf (.slice A1 l1.length c1)).run P w' = .ok l1.length w' := fun w' => by simp [Builtin.lenOf]
  have h63 : l0.length + l1.length ≤ maxLen := by simp only [maxLen]; omega
  have hl0 := RepE.len hE0
  have hl1 := RepE.len hE1
  have hweak : ∀ w' g', Inv n W0 G0 c a w' g' → Inv n W0 G0 { c with os := c.os.filter fun i => !Nat.beq i s } a w' g' := fun w' g' h =>
    ⟨h.size, h.defers, h.fr, fun j hj => h.os j (List.mem_filter.1 hj).1, h.good, h.ext, h.ecl, h.b0⟩
  have happ : ∀ {w1 : World} {hw1 : Hw} (l0 l1 : List AV) (o1 o2 : List Value), RepE w1 hw1 k l0 o1 → RepE w1 hw1 k l1 o2 → RepE w1 hw1 k (l0 ++ l1) (o1 ++ o2) := by
    intro w1 hw1 l0
    induction l0 with
    | nil => intro l1 o1 o2 h1 h2; simp only [RepE] at h1; subst h1; simpa using h2
    | cons x l0 ih =>
      intro l1 o1 o2 h1 h2
      simp only [RepE] at h1
      obtain ⟨q1, q2, q3⟩ := h1
      simp only [List.cons_append, RepE]
      refine ⟨by simp; omega, ?_, ?_⟩
      · rw [List.take_append_of_le_length q1]; exact q2
      · rw [List.drop_append_of_le_length q1]; exact ih l1 _ _ q3 h2
  have hrep0 := (rep_sl hr0)
  by_cases hroom : l0.length + l1.length ≤ c0 ∧ c0 ≠ 0
  · obtain ⟨hroom, hc0⟩ := hroom
    obtain ⟨A, n0, c', e0, _, hh⟩ := ho
    simp only [Value.slice.injEq] at e0
    obtain ⟨rfl, rfl, rfl⟩ := e0
    rcases hh with hh | ⟨b, o, h, cs, et, rfl, hown, hhw, hoh, hheap, hfit⟩
    · exact absurd hh hc0
    have hcs0 : ∃ cs0, RepE w g.hw k l0 cs0 ∧ CellsAt w b o cs0 := by
      obtain ⟨a', c', e1, _, _, hh⟩ := hrep0
      simp only [Value.slice.injEq] at e1
      rcases hh with rfl | ⟨b', o', cs0, e2, hc, hr⟩
      · exact ⟨[], by simp [RepE], fun j v hj => by simp at hj⟩
      · rw [← e1.1] at e2
        simp only [Option.some.injEq, Addr.mk.injEq] at e2
        obtain ⟨rfl, rfl, _⟩ := e2
        exact ⟨cs0, hr, hc.at⟩
    obtain ⟨cs0, hE0', hcells0⟩ := hcs0
    have hl0' := RepE.len hE0'
    have hone : ∀ u ∈ news, u.oneCell' = true := by
      have : ∀ (l : List AV) (vs : List Value), RepE w g.hw k l vs → ∀ u ∈ vs, u.oneCell' = true := by
        intro l
        induction l with
        | nil => intro vs h; simp only [RepE] at h; subst h; simp
        | cons x l ih =>
          intro vs h u hu
          simp only [RepE] at h
          obtain ⟨q1, q2, q3⟩ := h
          rw [← List.take_append_drop k vs] at hu
          rcases List.mem_append.1 hu with hu | hu
          · have hL := repV_leaves q2.1 q2.2
            have : ∀ (l : List AV) (vs : List Value), RepL w g.hw [] 0 l vs → ∀ u ∈ vs, u.oneCell' = true := by
              intro l
              induction l with
              | nil => intro vs h; simp only [RepL] at h; subst h; simp
              | cons x l ih =>
                intro vs h u hu
                simp only [RepL] at h
                obtain ⟨v, vs', rfl, h1, h2⟩ := h
                rcases List.mem_cons.1 hu with rfl | hu
                · exact h1.2.2
                · exact ih _ h2 u hu
            exact this _ _ hL u hu
          · exact ih _ q3 u hu
      exact this l1 news hE1
    subst hk
    have hrun := run_append_fits (w := w) (ty := ty) ht ht' hin hx hf1 hheap hl1 hone hroom hfit
    have hmul : l0.length * i.size + l1.length * i.size ≤ c0 * i.size := by rw [← Nat.add_mul]; exact Nat.mul_le_mul_right _ hroom
    let cs' : Array Value := (cs.toList.take (o + l0.length * i.size) ++ news ++ cs.toList.drop (o + l0.length * i.size + news.length)).toArray
    have hsz' : cs'.size = cs.size := by
      simp only [cs', List.size_toArray, List.length_append, List.length_take, List.length_drop, Array.length_toList]; omega
    let g' : Gh := { g with hw := upd g.hw b (some (h + news.length)), own := upd g.own b (some (.slot d)) }
    have hheap' : (w.setRow b cs').heap[b]? = some (.cells cs' et (0, 0)) := setRow_heap w b cs cs' et (0, 0) hheap
    have hcell : ∀ x, (w.setRow b cs').cell? ⟨b, x, none⟩ = cs'[x]? := fun x => by
      unfold World.cell?
      rw [hheap']
      rfl
    have hoth : ∀ b', b' ≠ b → (w.setRow b cs').heap[b']? = w.heap[b']? := fun b' hb' => setRow_other w b b' cs' hb'
    have hbnot : b ∉ g.bs := fun hb' => by have := hi.good.nohw b hb'; rw [hhw] at this; cases this
    have hH : HwLe w g.hw (w.setRow b cs') g'.hw := by
      intro b' h' e'
      by_cases hb' : b' = b
      · subst hb'
        rw [hhw] at e'
        cases e'
        refine ⟨h + news.length, upd_same _ _ _, by omega, fun o' ho' => ?_⟩
        rcases ho' with ho' | ho'
        · simp only [World.cell?, hheap', hheap, Option.isSome_none, Bool.false_eq_true, if_false]
          simp only [cs', List.getElem?_toArray, List.append_assoc]
          rw [List.getElem?_append_left (by simp; omega), List.getElem?_take, if_pos (by omega)]
          simp
        · rw [ho', hcell]
          simp only [World.cell?, hheap, Option.isSome_none, Bool.false_eq_true, if_false, Array.getElem?_eq_none_iff] at ho'
          rw [Array.getElem?_eq_none_iff]; omega
      · exact ⟨h', by rw [show g'.hw b' = g.hw b' from upd_ne _ _ hb']; exact e', Nat.le_refl _, fun _ _ => cell?_same (hoth b' hb')⟩
    have hOwn : ∀ L, L ≠ .slot s → ∀ b', g.own b' = some L → g'.own b' = some L ∧ g'.hw b' = g.hw b' ∧ (w.setRow b cs').heap[b']? = w.heap[b']? := fun L hL b' e' => by
      have hb' : b' ≠ b := by rintro rfl; rw [hown] at e'; cases e'; exact hL rfl
      exact ⟨by rw [show g'.own b' = g.own b' from upd_ne _ _ hb']; exact e', upd_ne _ _ hb', hoth b' hb'⟩
    have hGood : Good (w.setRow b cs') g' c.mem c.base := by
      refine ⟨hi.good.len, hi.good.nd, fun b' hb' => ?_, fun j x b' hx hb' => ?_, fun b' h' e' => ?_, fun b' L e' => ?_, hi.good.glob.mono hH⟩
      · have : b' ≠ b := fun e => hbnot (e ▸ hb')
        rw [show g'.hw b' = g.hw b' from upd_ne _ _ this]; exact hi.good.nohw b' hb'
      · have : b' ≠ b := fun e => hbnot (e ▸ List.mem_of_getElem? hb')
        exact RepB.mono (g := g) (g' := g') hH (fun _ _ h => h) (hoth b' this) (fun q b'' e => hOwn _ (by simp) b'' e) (hi.good.box j x b' hx hb')
      · by_cases hb' : b' = b
        · subst hb'
          rw [show g'.hw b' = some (h + news.length) from upd_same _ _ _] at e'
          cases e'
          exact ⟨cs', et, (0, 0), hheap', by rw [hsz']; omega⟩
        · rw [show g'.hw b' = g.hw b' from upd_ne _ _ hb'] at e'
          obtain ⟨q1, q2, q3, q4, q5⟩ := hi.good.hw b' h' e'
          exact ⟨q1, q2, q3, (hoth b' hb').trans q4, q5⟩
      · by_cases hb' : b' = b
        · subst hb'; exact ⟨_, upd_same _ _ _⟩
        · rw [show g'.own b' = g.own b' from upd_ne _ _ hb'] at e'
          rw [show g'.hw b' = g.hw b' from upd_ne _ _ hb']
          exact hi.good.own b' L e'
    have hExt : Ext (· = .ext) w g (w.setRow b cs') g' := by
      refine ⟨by simp [World.setRow], rfl, rfl, rfl, hH, fun b' L e' hL => ?_, fun _ _ h => h, fun _ h => .inl h, fun b' _ L e' => ?_, fun b' _ _ hk' => ?_⟩
      · subst hL; exact hOwn .ext (by simp) b' e'
      · by_cases hb' : b' = b
        · subst hb'; exact ⟨.slot s, hown, fun h => by cases h⟩
        · rw [show g'.own b' = g.own b' from upd_ne _ _ hb'] at e'
          exact ⟨L, e', fun _ => rfl⟩
      · refine hoth b' ?_
        rintro rfl
        have := hk' _ hown
        cases this
    refine ⟨_, _, g', hrun, ⟨hi.size, hi.defers, fun j hj => (hi.fr j hj).mono hH (fun _ _ h => h), fun j hj => ?_, hGood, hi.ext.trans hExt, hi.ecl, hi.b0⟩, ?_, ?_⟩
    · have hj' := List.mem_filter.1 hj
      have hne : j ≠ s := by rintro rfl; simp at hj'
      obtain ⟨k, l, h1, h2⟩ := hi.os j hj'.1
      exact ⟨k, l, h1, h2.mono fun b' e' => hOwn _ (by simp [hne]) b' e'⟩
    · refine rep_sl_mk (by simp) (by simp; omega) ⟨hk0, by simp; omega⟩ (.inr ⟨b, o, cs0 ++ news, rfl, ⟨h + news.length, upd_same _ _ _, by simp; omega, fun j v hj => ?_⟩, happ _ _ _ _ (RepE.mono hH _ _ hE0') (RepE.mono hH _ _ hE1)⟩)
      rcases Nat.lt_or_ge j cs0.length with hjl | hjl
      · rw [List.getElem?_append_left hjl] at hj
        obtain ⟨_, _, _, hsame⟩ := hH b h hhw
        rw [hsame (o + j) (by omega)]
        exact hcells0 j v hj
      · rw [List.getElem?_append_right hjl] at hj
        have hjn : j - cs0.length < news.length := by
          rcases Nat.lt_or_ge (j - cs0.length) news.length with h | h
          · exact h
          · rw [List.getElem?_eq_none h] at hj; cases hj
        rw [hcell]
        simp only [cs', List.getElem?_toArray, List.append_assoc]
        have hlen : (List.take (o + l0.length * i.size) cs.toList).length = o + l0.length * i.size := by simp; omega
        rw [List.getElem?_append_right (by rw [hlen]; omega), hlen, List.getElem?_append_left (by omega), show o + j - (o + l0.length * i.size) = j - cs0.length from by omega]
        exact hj
    · exact ⟨_, _, _, rfl, hroom, .inr ⟨b, o, h + news.length, cs', et, rfl, upd_same _ _ _, upd_same _ _ _, by rw [← hoh, hl1, Nat.add_mul]; omega, hheap', by rw [hsz']; exact hfit⟩⟩
  · by_cases hz0 : c0 = 0 ∧ l1.length = 0
    · obtain ⟨rfl, h1⟩ := hz0
      have e1 : l1 = [] := List.eq_nil_of_length_eq_zero h1
      have e0 : l0 = [] := List.eq_nil_of_length_eq_zero (by omega)
      subst e1 e0
      simp only [RepE] at hE1
      subst hE1
      refine ⟨.slice A0 0 0, w, g, ?_, hweak w g hi, rep_sl_mk rfl (by simp) ⟨hk0, by simp⟩ (.inl rfl), ⟨_, _, _, rfl, Nat.le_refl _, .inl rfl⟩⟩
      have hf := hf1 w rfl
      rw [← hk] at hf
      simp only [List.length_nil] at hf
      cases A0 <;> simp [Builtin.append_, run_und ht, run_und ht', sizeOf, typeInfo, hin, Builtin.lenOf, hf, storeCells]
    · have hg : c0 < l0.length + l1.length := by
        rcases Nat.lt_or_ge c0 (l0.length + l1.length) with h | h
        · exact h
        · exact absurd ⟨h, fun e => hz0 ⟨e, by omega⟩⟩ hroom
      subst hk
      have hrun := run_append_grows (w := w) (ty := ty) ht ht' hin hz hx hf0 hf1 hg hb h63
      have hge := grownCap_ge w (l0.length + l1.length) c0 e
      have hi' := (hweak w g hi).drew
      have hE := happ _ _ _ _ hE0 hE1
      have hE' : RepE w.drew g.hw i.size (l0 ++ l1) (olds ++ news) := RepE.mono (w := w) (w' := w.drew) (HwLe.of_heap rfl) _ _ hE
      obtain ⟨g', hI, hR, hO⟩ := hi'.newArr (rest := (Builtin.zeroCells z.cells (grownCap w (l0.length + l1.length) c0 e - (l0.length + l1.length))).toList) (e := e) hk0 hE' d (grownCap w (l0.length + l1.length) c0 e) (by simp; omega) (by simpa using hge) (by
        have : (Builtin.zeroCells z.cells (grownCap w (l0.length + l1.length) c0 e - (l0.length + l1.length))).toList.length = (grownCap w (l0.length + l1.length) c0 e - (l0.length + l1.length)) * i.size := by
          simp [Builtin.zeroCells, hzk]
        rw [this, List.length_append, hl0, hl1, ← Nat.add_mul, ← Nat.add_mul]
        exact Nat.mul_le_mul_right _ (by omega))
      have ecs : (olds ++ news ++ (Builtin.zeroCells z.cells (grownCap w (l0.length + l1.length) c0 e - (l0.length + l1.length))).toList).toArray = olds.toArray ++ news.toArray ++ Builtin.zeroCells z.cells (grownCap w (l0.length + l1.length) c0 e - (l0.length + l1.length)) := by
        apply Array.toList_inj.1; simp only [Array.toList_append, List.append_assoc]
      rw [ecs] at hI hR hO
      rw [List.length_append] at hR hO
      exact ⟨_, _, g', hrun, hI, hR, hO⟩
end
end Go.Ev
end
section
/- Written by this session: stores into boxes, over trees. Conditions: none beyond those in each statement. -/
namespace Go.Ev
open Go

structure OneBlk (w w' : World) (b : Nat) (o : Obj) : Prop where
  size : w'.heap.size = w.heap.size
  tape : w'.tape = w.tape
  os : w'.os = w.os
  output : w'.output = w.output
  blk : w'.heap[b]? = some o
  oth : ∀ b', b' ≠ b → w'.heap[b']? = w.heap[b']?

theorem oneBlk_setRow {w : World} {b : Nat} {cs cs' : Array Value} {e : TypeId} (h : w.heap[b]? = some (.cells cs e (0, 0))) : OneBlk w (w.setRow b cs') b (.cells cs' e (0, 0)) :=
  ⟨by simp [World.setRow], rfl, rfl, rfl, setRow_heap w b cs cs' e (0, 0) h, fun b' hb => setRow_other w b b' cs' hb⟩
theorem oneBlk_setObj {w : World} {b : Nat} {o o' : Obj} (h : w.heap[b]? = some o) : OneBlk w { w with heap := w.heap.setIfInBounds b o' } b o' :=
  ⟨by simp, rfl, rfl, rfl, by simp [heap_lt h], fun b' hb => by simp [Ne.symm hb]⟩

section
variable {w w' : World} {g : Gh} {mem : List Bx} {base : Nat}

theorem Good.write (G : Good w g mem base) {q b : Nat} {x x' : Bx} {o : Obj} (hx : mem[q]? = some x) (hb : g.bs[q]? = some b) (W : OneBlk w w' b o)
    (hn : HwLe w g.hw w' g.hw → (∀ L b', g.own b' = some L → g.own b' = some L ∧ g.hw b' = g.hw b' ∧ w'.heap[b']? = w.heap[b']?) → RepB w' g base q x' b) :
    Good w' g (mem.set q x') base ∧ Ext KeepS w g w' g := by
  have hbm : b ∈ g.bs := List.mem_of_getElem? hb
  have hne : ∀ b' h, g.hw b' = some h → b' ≠ b := fun b' h e hb' => by subst hb'; rw [G.nohw _ hbm] at e; cases e
  have hH : HwLe w g.hw w' g.hw := fun b' h e => ⟨h, e, Nat.le_refl _, fun _ _ => cell?_same (W.oth b' (hne b' h e))⟩
  have hO : ∀ L b', g.own b' = some L → g.own b' = some L ∧ g.hw b' = g.hw b' ∧ w'.heap[b']? = w.heap[b']? := fun L b' e => by
    obtain ⟨h, eh⟩ := G.own b' L e
    exact ⟨e, rfl, W.oth b' (hne b' h eh)⟩
  refine ⟨⟨by rw [G.len]; simp, G.nd, G.nohw, fun i y b' hy hb' => ?_, fun b' h e => ?_, G.own, G.glob.mono hH⟩, ?_⟩
  · have hq : q < mem.length := by
      rcases Nat.lt_or_ge q mem.length with h | h
      · exact h
      · rw [List.getElem?_eq_none h] at hx; cases hx
    by_cases hi : i = q
    · subst hi
      rw [List.getElem?_set_self hq] at hy
      rw [hb] at hb'
      cases hy; cases hb'
      exact hn hH hO
    · rw [List.getElem?_set_ne (Ne.symm hi)] at hy
      have hbb : b' ≠ b := by
        rintro rfl
        apply hi
        have h1 := (List.getElem?_eq_some_iff.1 hb')
        have h2 := (List.getElem?_eq_some_iff.1 hb)
        exact (List.getElem_inj G.nd (h₀ := h1.1) (h₁ := h2.1)).1 (h1.2.trans h2.2.symm)
      exact RepB.mono (g := g) (g' := g) hH (fun _ _ h => h) (W.oth b' hbb) (fun j b e => hO _ b e) (G.box i y b' hy hb')
  · obtain ⟨cs, et, f, h1, h2⟩ := G.hw b' h e
    exact ⟨cs, et, f, (W.oth b' (hne b' h e)).trans h1, h2⟩
  · exact ⟨by rw [W.size]; exact Nat.le_refl _, W.tape, W.os, W.output, hH, fun b' L e _ => hO L b' e, fun _ _ h => h, fun _ h => .inl h, fun _ _ L h => ⟨L, h, fun _ => rfl⟩, fun b' _ hb' _ => W.oth b' fun e => hb' (e ▸ hbm)⟩

theorem RepL.append {hw : Hw} {bs : List Nat} : ∀ {l1 l2 : List AV} {v1 v2 : List Value}, RepL w hw bs base l1 v1 → RepL w hw bs base l2 v2 → RepL w hw bs base (l1 ++ l2) (v1 ++ v2)
  | [], _, _, _, h1, h2 => by simp only [RepL] at h1; subst h1; simpa using h2
  | x :: l1, l2, _, v2, h1, h2 => by
    simp only [RepL] at h1
    obtain ⟨v, vs', rfl, h3, h4⟩ := h1
    simp only [List.cons_append, RepL]
    exact ⟨v, _, rfl, h3, RepL.append h4 h2⟩
end

def wrL {α : Type} (l : List α) (off : Nat) (xs : List α) : List α := l.take off ++ xs ++ l.drop (off + xs.length)

theorem wrL_get {α : Type} {l : List α} {off : Nat} {xs : List α} (h : off + xs.length ≤ l.length) {j : Nat} (hj : j < off ∨ off + xs.length ≤ j) : (wrL l off xs)[j]? = l[j]? := by
  unfold wrL
  rcases hj with hj | hj
  · rw [List.append_assoc, List.getElem?_append_left (by simp; omega), List.getElem?_take, if_pos hj]
  · have h1 : (l.take off ++ xs).length = off + xs.length := by simp; omega
    rw [List.getElem?_append_right (by rw [h1]; exact hj), h1, List.getElem?_drop]
    congr 1; omega
theorem wrL_at {α : Type} {l : List α} {off : Nat} {x : α} (h : off < l.length) : (wrL l off [x])[off]? = some x := by
  unfold wrL
  have h1 : (l.take off).length = off := by simp; omega
  rw [List.append_assoc, List.getElem?_append_right (by rw [h1]; exact Nat.le_refl _), h1]
  simp

theorem rep_cells {w : World} {hw : Hw} {bs : List Nat} {base : Nat} {x : AV} {y : Value} (hx : x.isAgg = true ∨ x.isLeaf = true) (h : Rep w hw bs base x y) :
    RepL w hw bs base x.leaves y.cells.toList ∧ y.cells.size = x.leaves.length := by
  have key : RepL w hw bs base x.leaves y.cells.toList := by
    rcases hx with hx | hx
    · cases x <;> simp only [AV.isAgg] at hx <;> try cases hx
      obtain ⟨cs, rfl, hr⟩ := rep_agg h
      simpa [Value.cells, AV.leaves] using hr
    · obtain ⟨h1, h2, h3⟩ := rep_isLeaf hx h
      have e1 := cells_toList_of (visAgg_of h3)
      rw [e1]
      have : x.leaves = [x] := by cases x <;> simp_all [AV.leaves, AV.isAgg]
      rw [this]
      simp only [RepL]
      exact ⟨y, [], rfl, ⟨h1, h2, h3⟩, rfl⟩
  exact ⟨key, by have := RepL.length key; simpa using this⟩

theorem oneCells {w : World} {hw : Hw} {bs : List Nat} {base : Nat} : ∀ {l : List AV} {vs : List Value}, RepL w hw bs base l vs → ∀ u ∈ vs, u.oneCell' = true
  | [], _, h, u, hu => by simp only [RepL] at h; subst h; cases hu
  | x :: l, _, h, u, hu => by
    simp only [RepL] at h
    obtain ⟨v, vs', rfl, h1, h2⟩ := h
    rcases List.mem_cons.1 hu with rfl | hu
    · exact h1.2.2
    · exact oneCells h2 u hu

section
variable {n : Nat} {W0 : World} {G0 : Gh} {c : Cfg} {a : Act} {w : World} {g : Gh} {P : Program}

theorem run_storeVar {t : TypeId} {b off : Nat} {cs : Array Value} {e : TypeId} {v : Value} (ht : (P.underlying t).isSome = true) (hsz : v.cells.size = P.cellsOf t) (hheap : w.heap[b]? = some (.cells cs e (0, 0)))
    (hfit : off + v.cells.size ≤ cs.size) (h1 : ∀ u ∈ v.cells.toList, u.oneCell' = true) :
    (storeVar t ⟨b, off, none⟩ v).run P w = .ok () (w.setRow b (wrL cs.toList off v.cells.toList).toArray) := by
  have hst := run_storeCells_at P b off e v.cells.toList 0 cs w hheap (by simpa using hfit) h1
  simp only [Nat.add_zero] at hst
  simp only [storeVar, Sem.run_bind, run_size (info_of_und ht), Result.andThen_ok, hsz, ne_eq, not_true_eq_false, if_false, Sem.run_ite]
  simpa [wrL] using hst

/-- A store into a box of one's own. -/
theorem Inv.store (hi : Inv n W0 G0 c a w g) {t : TypeId} {i off b : Nat} {l : List AV} {os : List Nat} {x : AV} {y : Value} (ht : (P.underlying t).isSome = true) (hx : x.isAgg = true ∨ x.isLeaf = true)
    (hb : g.bs[c.base + i]? = some b) (hbox : c.own[i]? = some (.cells l os)) (hr : Rep w g.hw g.bs c.base x y) (hsz : x.leaves.length = P.cellsOf t) (hfit : off + x.leaves.length ≤ l.length) :
    ∃ w', (storeVar t ⟨b, off, none⟩ y).run P w = .ok () w' ∧
      Inv n W0 G0 { c with own := c.own.set i (.cells (wrL l off x.leaves) (os.filter fun j => decide (j < off ∨ off + x.leaves.length ≤ j))) } a w' g ∧
      (∀ k, OwnAt w g (.cell (c.base + i) off) k y → (∃ l', x = .sl k l') → Inv n W0 G0 { c with own := c.own.set i (.cells (wrL l off x.leaves) (off :: os.filter fun j => decide (j < off ∨ off + x.leaves.length ≤ j))) } a w' g) := by
  obtain ⟨cs, e, hheap, hrl, hos⟩ := hi.good.own_box hbox hb
  obtain ⟨hc, hcs⟩ := rep_cells hx hr
  have hlen := RepL.length hrl
  simp only [Array.length_toList] at hlen
  have hrun := run_storeVar (P := P) (w := w) (off := off) ht (by rw [hcs]; exact hsz) hheap (by rw [hcs, hlen]; exact hfit) (oneCells hc)
  have W := oneBlk_setRow (cs' := (wrL cs.toList off y.cells.toList).toArray) hheap
  have hmem : c.mem[c.base + i]? = some (.cells l os) := by
    simp only [Cfg.mem, Cfg.base]
    rw [List.getElem?_append_right (by omega)]
    simpa using hbox
  have hset : ∀ x', c.mem.set (c.base + i) x' = c.env ++ c.own.set i x' := fun x' => by
    simp only [Cfg.mem, Cfg.base]
    rw [List.set_append_right _ _ (by omega)]
    simp
  have hL : y.cells.toList.length = x.leaves.length := by simpa using hcs
  have main : ∀ os', (∀ j ∈ os', (j ∈ os ∧ (j < off ∨ off + x.leaves.length ≤ j)) ∨ (∃ k l', j = off ∧ x = .sl k l' ∧ OwnAt w g (.cell (c.base + i) off) k y)) →
      Inv n W0 G0 { c with own := c.own.set i (.cells (wrL l off x.leaves) os') } a (w.setRow b (wrL cs.toList off y.cells.toList).toArray) g := by
    intro os' hos'
    obtain ⟨G', E'⟩ := hi.good.write (x' := .cells (wrL l off x.leaves) os') hmem hb W fun hH hO => by
      refine ⟨_, e, W.blk, ?_, fun j hj => ?_⟩
      · have h1 := RepL.mono hH (fun _ _ h => h) _ _ hrl
        have h2 := RepL.mono hH (fun _ _ h => h) _ _ hc
        rw [show (wrL cs.toList off y.cells.toList).toArray.toList = cs.toList.take off ++ y.cells.toList ++ cs.toList.drop (off + x.leaves.length) from by simp only [wrL, hL]]
        exact ((h1.take off).append h2).append (h1.drop (off + x.leaves.length))
      · rcases hos' j hj with ⟨hj, hjr⟩ | ⟨k, l', rfl, rfl, ho⟩
        · obtain ⟨k, l', v, e1, e2, e3⟩ := hos j hj
          refine ⟨k, l', v, by rw [wrL_get hfit hjr]; exact e1, ?_, e3.mono fun b' e => hO _ b' e⟩
          rw [List.getElem?_toArray, wrL_get (by rw [hL]; simpa [hlen] using hfit) (by rw [hL]; exact hjr)]
          simpa using e2
        · have hlf : (AV.sl k l').leaves = [.sl k l'] := rfl
          have hyc : y.cells.toList = [y] := by
            obtain ⟨a', c', e', _⟩ := rep_sl hr
            subst e'; rfl
          refine ⟨k, l', y, ?_, ?_, ho.mono fun b' e => hO _ b' e⟩
          · rw [hlf]; rw [hlf] at hfit; exact wrL_at (by simp only [List.length_singleton] at hfit; omega)
          · rw [hyc, List.getElem?_toArray]
            rw [hlf] at hfit
            exact wrL_at (by simp only [Array.length_toList, hlen]; simp only [List.length_singleton] at hfit; omega)
    have hi' : Inv n W0 G0 { c with own := c.own.set i (.cells (wrL l off x.leaves) os') } a (w.setRow b (wrL cs.toList off y.cells.toList).toArray) g := by
      refine ⟨hi.size, hi.defers, fun j hj => (hi.fr j hj).mono E'.hw E'.bs, fun j hj => ?_, ?_, hi.ext.trans (E'.weaken (by rintro L rfl; intro i j; simp)), hi.ecl, hi.b0⟩
      · obtain ⟨k, l, h1, h2⟩ := hi.os j hj
        exact ⟨k, l, h1, h2.mono fun b hb => E'.ext b _ hb (by intro i j; simp)⟩
      · have := G'
        rw [hset] at this
        exact this
    exact hi'
  refine ⟨_, hrun, main _ fun j hj => .inl ?_, fun k ho hx' => main _ fun j hj => ?_⟩
  · simpa using hj
  · rcases List.mem_cons.1 hj with rfl | hj
    · obtain ⟨l', hx'⟩ := hx'
      exact .inr ⟨k, l', rfl, hx', ho⟩
    · exact .inl (by simpa using hj)

/-- A box's new content. -/
theorem Inv.writeAt (hi : Inv n W0 G0 c a w g) {q b : Nat} {x x' : Bx} {o : Obj} {w' : World} (hx : c.mem[q]? = some x) (hb : g.bs[q]? = some b) (W : OneBlk w w' b o)
    (hn : HwLe w g.hw w' g.hw → (∀ L b', g.own b' = some L → g.own b' = some L ∧ g.hw b' = g.hw b' ∧ w'.heap[b']? = w.heap[b']?) → RepB w' g c.base q x' b)
    (c' : Cfg) (e1 : c'.fr = c.fr) (e2 : c'.os = c.os) (e3 : c'.mem = c.mem.set q x') (e4 : c'.base = c.base) (e5 : ∀ x ∈ c'.env, Bx.cl c.base 0 x) : Inv n W0 G0 c' a w' g := by
  obtain ⟨G', E'⟩ := hi.good.write (x' := x') hx hb W hn
  refine ⟨hi.size, hi.defers, fun j hj => ?_, fun j hj => ?_, by rw [e3, e4]; exact G', hi.ext.trans (E'.weaken (by rintro L rfl; intro i j; simp)), by rw [e4]; exact e5, by rw [e4]; exact hi.b0⟩
  · rw [e1, e4]; exact (hi.fr j hj).mono E'.hw E'.bs
  · rw [e2] at hj
    rw [e1]
    obtain ⟨k, l, h1, h2⟩ := hi.os j hj
    exact ⟨k, l, h1, h2.mono fun b hb => E'.ext b _ hb (by intro i j; simp)⟩

theorem mem_own {i : Nat} {x : Bx} (h : c.own[i]? = some x) : c.mem[c.base + i]? = some x := by
  simp only [Cfg.mem, Cfg.base]
  rw [List.getElem?_append_right (by omega)]
  simpa using h
theorem mem_env {i : Nat} {x : Bx} (h : c.env[i]? = some x) : c.mem[i]? = some x := by
  simp only [Cfg.mem]
  rw [List.getElem?_append_left (List.getElem?_eq_some_iff.1 h).1]
  exact h
theorem set_own {i : Nat} {x : Bx} : ({ c with own := c.own.set i x } : Cfg).mem = c.mem.set (c.base + i) x := by
  simp only [Cfg.mem, Cfg.base]
  rw [List.set_append_right _ _ (by omega)]
  simp
theorem set_env {i : Nat} {x : Bx} (h : i < c.env.length) : ({ c with env := c.env.set i x } : Cfg).mem = c.mem.set i x := by
  simp only [Cfg.mem]
  rw [List.set_append_left _ _ h]
theorem ecl_set {i : Nat} {x : Bx} (h : ∀ y ∈ c.env, Bx.cl c.base 0 y) (hx : Bx.cl c.base 0 x) : ∀ y ∈ c.env.set i x, Bx.cl c.base 0 y := fun y hy => by
  rcases List.mem_or_eq_of_mem_set hy with h' | rfl
  · exact h y h'
  · exact hx

open Go.MapKept in
theorem findNow_setM {w : World} {hw : Hw} {s : ByteArray} {v : AV} {y : Value} (hv : Rep1 w hw [] 0 v y) : ∀ (l : List (ByteArray × AV)) (es : List MapEntry) (i : Nat), RepM w hw l es →
    (∃ j e, Instr.findNow .string (.string s) es i = some (some (i + j, e.val)) ∧ es[j]? = some e ∧ e.key = .string s ∧ RepM w hw (setM l s v) (es.modify j fun e => { e with key := .string s, val := y })) ∨
    (Instr.findNow .string (.string s) es i = some none ∧ ∀ b, RepM w hw (setM l s v) (es ++ [⟨.string s, y, b⟩]))
  | [], _, i, h => by
    simp only [RepM] at h; subst h
    exact .inr ⟨rfl, fun b => by simp only [setM, RepM, List.nil_append]; exact ⟨_, _, rfl, rfl, hv, rfl⟩⟩
  | (k, x) :: l, _, i, h => by
    simp only [RepM] at h
    obtain ⟨e, es, rfl, hk, hx, hr⟩ := h
    by_cases hs : s = k
    · subst hs
      have hb : (s == s) = true := (bytes_beq s s).2 rfl
      refine .inl ⟨0, e, by simp [Instr.findNow, hk, Instr.sameNow, hb], rfl, hk, ?_⟩
      simp only [setM, if_true, List.modify_zero_cons, RepM]
      exact ⟨_, _, rfl, rfl, hv, hr⟩
    · have hb : (s == k) = false := Bool.eq_false_iff.2 fun h => hs ((bytes_beq s k).1 h)
      rcases findNow_setM hv l es (i + 1) hr with ⟨j, e', h2, h3, h4, h5⟩ | ⟨h2, h5⟩
      · refine .inl ⟨j + 1, e', by simp only [Instr.findNow, hk, Instr.sameNow, hb, h2, show i + 1 + j = i + (j + 1) from by omega], by simpa using h3, h4, ?_⟩
        simp only [setM, if_neg hs, List.modify_succ_cons, RepM]
        exact ⟨_, _, rfl, hk, hx, h5⟩
      · refine .inr ⟨by simp only [Instr.findNow, hk, Instr.sameNow, hb, h2], fun b => ?_⟩
        simp only [setM, if_neg hs, List.cons_append, RepM]
        exact ⟨_, _, rfl, hk, hx, h5 b⟩

open Go.MapKept in
theorem mapUpdate_run {t kt et : TypeId} {b : Nat} {es : Array MapEntry} {clock : Nat} {hw : Hw} {l : List (ByteArray × AV)} {s : ByteArray} {v : AV} {y : Value} (ht : P.underlying t = some (.map kt et)) (hkt : P.underlying kt = some .string)
    (hheap : w.heap[b]? = some (.map es clock)) (hM : RepM w hw l es.toList) (hv : Rep1 w hw [] 0 v y) :
    ∃ es' clock', (Instr.mapUpdate t (.map (some b)) (.string s) y).run P w = .ok () { w with heap := w.heap.setIfInBounds b (.map es' clock') } ∧ RepM w hw (setM l s v) es'.toList := by
  have hck : (Instr.checkKey false 10000 kt (.string s)).run P w = .ok () w := run_checkKey hkt (by simp [IsKey]) false 9999
  rcases findNow_setM (s := s) hv l es.toList 0 hM with ⟨j, e, h2, h3, h4, h5⟩ | ⟨h2, h5⟩
  · have hf := run_findKey (w := w) hkt h2
    have hks : (Instr.keyThatStays (.string s) (.string s)).run P w = .ok (.string s) w := run_keyThatStays (d := .string) (by simp [IsKey])
    have hej : es[j]? = some e := by simpa using h3
    refine ⟨es.modify j fun e => { e with key := .string s, val := y }, clock, ?_, by simpa using h5⟩
    simp only [Instr.mapUpdate, Sem.run_bind, run_und ht, Result.andThen_ok, Go.MapKept.run_getObj_map hheap, hck, hf, Nat.zero_add, hej, Option.map_some, Option.getD_some, h4, hks, Go.MapKept.run_setObj_map _ hheap]
  · have hf := run_findKey (w := w) hkt h2
    refine ⟨es.push ⟨.string s, y, clock⟩, clock + 1, ?_, by simpa using h5 clock⟩
    simp only [Instr.mapUpdate, Sem.run_bind, run_und ht, Result.andThen_ok, Go.MapKept.run_getObj_map hheap, hck, hf, Go.MapKept.run_setObj_map _ hheap]
end
end Go.Ev
end
