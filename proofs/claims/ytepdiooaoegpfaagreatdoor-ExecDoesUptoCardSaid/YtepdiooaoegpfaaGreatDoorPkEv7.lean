/- Written by programs of this session: laws and contracts that the law's proof stands on, merged into one text. Conditions: none beyond those in each statement. -/
import Derived.Test.YtepdiooaoegpfaaGreatDoorPkEv6
section
/- Written by this session: stores into any box, and the right to append taken out of one. Conditions: none beyond those in each statement. -/
namespace Go.Ev
open Go

section
variable {n : Nat} {W0 : World} {G0 : Gh} {c : Cfg} {a : Act} {w : World} {g : Gh} {P : Program}

/-- A store into a box, one's own or of the surroundings. -/
theorem Inv.storeAt (hi : Inv n W0 G0 c a w g) {t : TypeId} {q off b : Nat} {l : List AV} {os : List Nat} {x : AV} {y : Value} (ht : (P.underlying t).isSome = true) (hx : x.isAgg = true ∨ x.isLeaf = true)
    (hb : g.bs[q]? = some b) (hbox : c.mem[q]? = some (.cells l os)) (hr : Rep w g.hw g.bs c.base x y) (hsz : x.leaves.length = P.cellsOf t) (hfit : off + x.leaves.length ≤ l.length) :
    ∃ w', (storeVar t ⟨b, off, none⟩ y).run P w = .ok () w' ∧
      ∀ os', (∀ j ∈ os', (j ∈ os ∧ (j < off ∨ off + x.leaves.length ≤ j)) ∨ (∃ k l', j = off ∧ x = .sl k l' ∧ OwnAt w g (.cell q off) k y)) →
      ∀ c' : Cfg, c'.fr = c.fr → c'.os = c.os → c'.mem = c.mem.set q (.cells (wrL l off x.leaves) os') → c'.base = c.base → (∀ x ∈ c'.env, Bx.cl c.base 0 x) → Inv n W0 G0 c' a w' g := by
  obtain ⟨cs, e, hheap, hrl, hos⟩ := hi.good.box q _ b hbox hb
  obtain ⟨hc, hcs⟩ := rep_cells hx hr
  have hlen := RepL.length hrl
  simp only [Array.length_toList] at hlen
  have hrun := run_storeVar (P := P) (w := w) (off := off) ht (by rw [hcs]; exact hsz) hheap (by rw [hcs, hlen]; exact hfit) (oneCells hc)
  have W := oneBlk_setRow (cs' := (wrL cs.toList off y.cells.toList).toArray) hheap
  have hL : y.cells.toList.length = x.leaves.length := by simpa using hcs
  refine ⟨_, hrun, fun os' hos' c' e1 e2 e3 e4 e5 => hi.writeAt hbox hb W (fun hH hO => ?_) c' e1 e2 e3 e4 e5⟩
  refine ⟨_, e, W.blk, ?_, fun j hj => ?_⟩
  · have h1 := RepL.mono hH (fun _ _ h => h) _ _ hrl
    have h2 := RepL.mono hH (fun _ _ h => h) _ _ hc
    rw [show (wrL cs.toList off y.cells.toList).toArray.toList = cs.toList.take off ++ y.cells.toList ++ cs.toList.drop (off + x.leaves.length) from by simp only [wrL, hL]]
    exact ((h1.take off).append h2).append (h1.drop (off + x.leaves.length))
  · rcases hos' j hj with ⟨hj, hjr⟩ | ⟨k, l', rfl, rfl, ho⟩
    · obtain ⟨k, l', v, e1, e2, e3⟩ := hos j hj
      refine ⟨k, l', v, by rw [wrL_get hfit hjr]; exact e1, ?_, e3.mono fun b' e => hO _ b' e⟩
      rw [List.getElem?_toArray, wrL_get (by rw [hL]; simpa [hlen] using hfit) (by rw [hL]; exact hjr)]
      simpa using e2
    · have hlf : (AV.sl k l').leaves = [.sl k l'] := rfl
      have hyc : y.cells.toList = [y] := by
        obtain ⟨a', c', e', _⟩ := rep_sl hr
        subst e'; rfl
      refine ⟨k, l', y, ?_, ?_, ho.mono fun b' e => hO _ b' e⟩
      · rw [hlf]; rw [hlf] at hfit; exact wrL_at (by simp only [List.length_singleton] at hfit; omega)
      · rw [hyc, List.getElem?_toArray]
        rw [hlf] at hfit
        exact wrL_at (by simp only [Array.length_toList, hlen]; simp only [List.length_singleton] at hfit; omega)

/-- The right to append goes out of a box. -/
theorem Inv.takeCell (hi : Inv n W0 G0 c a w g) {q off d : Nat} {l : List AV} {os : List Nat} (hbox : c.mem[q]? = some (.cells l os)) {c' : Cfg} (e1 : c'.fr = c.fr) (e2 : c'.os = c.os)
    (e3 : c'.mem = c.mem.set q (.cells l (os.filter fun j => !Nat.beq j off))) (e4 : c'.base = c.base) (e5 : ∀ x ∈ c'.env, Bx.cl c.base 0 x) :
    let g' : Gh := { g with own := fun b => (g.own b).map (moved (.cell q off) (.slot d)) }
    Inv n W0 G0 c' a w g' ∧ ∀ k y, OwnAt w g (.cell q off) k y → OwnAt w g' (.slot d) k y := by
  have O1 : ∀ L k y, L ≠ .cell q off → OwnAt w g L k y → OwnAt w { g with own := fun b => (g.own b).map (moved (.cell q off) (.slot d)) } L k y := by
    intro L k y hL h
    obtain ⟨a, n, c, e, hn, h⟩ := h
    refine ⟨a, n, c, e, hn, h.imp id ?_⟩
    rintro ⟨b, o, h, cs, e, ea, h1, h2, h3, h4, h5⟩
    exact ⟨b, o, h, cs, e, ea, by simp [h1, moved, hL], h2, h3, h4, h5⟩
  have hql : q < c.mem.length := (List.getElem?_eq_some_iff.1 hbox).1
  refine ⟨⟨hi.size, hi.defers, fun i h => by rw [e1, e4]; exact hi.fr i h, fun i h => ?_, ?_, ?_, by rw [e4]; exact e5, by rw [e4]; exact hi.b0⟩, ?_⟩
  · rw [e2] at h
    rw [e1]
    obtain ⟨k, l, h1, h2⟩ := hi.os i h
    exact ⟨k, l, h1, O1 _ k _ (by simp) h2⟩
  · rw [e3, e4]
    refine ⟨by rw [hi.good.len]; simp, hi.good.nd, hi.good.nohw, fun i x b hx hb => ?_, hi.good.hw, fun b L e => ?_, hi.good.glob⟩
    · by_cases hiq : i = q
      · subst hiq
        rw [List.getElem?_set_self hql] at hx
        cases hx
        obtain ⟨cs, e, h1, h2, h3⟩ := hi.good.box i _ b hbox hb
        exact ⟨cs, e, h1, h2, fun j hj => by
          have hj' := List.mem_filter.1 hj
          have hne : j ≠ off := by rintro rfl; simp at hj'
          obtain ⟨k, l', y, f1, f2, f3⟩ := h3 j hj'.1
          exact ⟨k, l', y, f1, f2, O1 _ k y (by simp [hne]) f3⟩⟩
      · rw [List.getElem?_set_ne (Ne.symm hiq)] at hx
        have := hi.good.box i x b hx hb
        cases x with
        | map l => exact this
        | cells l os =>
          obtain ⟨cs, e, h1, h2, h3⟩ := this
          exact ⟨cs, e, h1, h2, fun j hj => by
            obtain ⟨k, l', y, f1, f2, f3⟩ := h3 j hj
            exact ⟨k, l', y, f1, f2, O1 _ k y (by simp [hiq]) f3⟩⟩
    · simp only [Option.map_eq_some_iff] at e
      obtain ⟨L', e, _⟩ := e
      exact hi.good.own b L' e
  · have E := hi.ext
    refine ⟨E.size, E.tape, E.os, E.output, E.hw, fun b L e hk => ?_, E.bs, E.bsnew, fun b hb L e => ?_, E.old⟩
    · obtain ⟨h1, h2, h3⟩ := E.ext b L e hk
      subst hk
      exact ⟨by simp [h1, moved], h2, h3⟩
    · simp only [Option.map_eq_some_iff] at e
      obtain ⟨L', e, rfl⟩ := e
      obtain ⟨L'', e', he⟩ := E.orig b hb L' e
      refine ⟨L'', e', fun hk => ?_⟩
      have := he hk
      subst this hk
      simp [moved]
  · intro k y h
    obtain ⟨a, n, c, e, hn, h⟩ := h
    refine ⟨a, n, c, e, hn, h.imp id ?_⟩
    rintro ⟨b, o, h, cs, e, ea, h1, h2, h3, h4, h5⟩
    exact ⟨b, o, h, cs, e, ea, by simp [h1, moved], h2, h3, h4, h5⟩
end
end Go.Ev
end
section
/- Written by this session: calls, over trees: what is handed in, and what comes back. Conditions: none beyond those in each statement. -/
namespace Go.Ev
open Go

mutual
def AV.up (base : Nat) : AV → AV
  | .bp i off => .xp (base + i) off
  | .mo i => .mx (base + i)
  | .bs i off k n c => .xs (base + i) off k n c
  | .agg l => .agg (upL base l)
  | .fn f a b => .fn f (upL base a) (upL base b)
  | .tup l => .tup (upL base l)
  | .top => .top
  | .v x => .v x
  | .sl k l => .sl k l
  | .xp i off => .xp i off
  | .mx i => .mx i
  | .xs i off k n c => .xs i off k n c
  | .ep l => .ep l
  | .ifc t x => .ifc t x
  | .gv b x => .gv b x
def upL (base : Nat) : List AV → List AV
  | [] => []
  | x :: xs => AV.up base x :: upL base xs
end

mutual
/-- No pointer to a box. -/
def AV.pf : AV → Bool
  | .bp _ _ | .mo _ | .xp _ _ | .mx _ | .bs .. | .xs .. => false
  | .agg l => pfL l
  | .fn _ a b => pfL a && pfL b
  | .tup l => pfL l
  | .top | .v _ | .sl _ _ | .ep _ | .ifc _ _ | .gv _ _ => true
def pfL : List AV → Bool
  | [] => true
  | x :: xs => AV.pf x && pfL xs
end

theorem up_isAgg (base : Nat) (x : AV) : (x.up base).isAgg = x.isAgg := by cases x <;> rfl
theorem upL_length (base : Nat) : ∀ l, (upL base l).length = l.length
  | [] => rfl
  | x :: l => by simp [upL, upL_length base l]
theorem upL_eq (base : Nat) : ∀ l, upL base l = l.map (AV.up base)
  | [] => rfl
  | x :: l => by simp [upL, upL_eq base l]

mutual
theorem RepV.upV {w : World} {hw : Hw} {bs : List Nat} {base base' : Nat} (h1 : bs.length ≤ base') (h2 : base ≤ base') : ∀ (a : AV) (vs : List Value), RepV w hw bs base a vs → RepV w hw bs base' (a.up base) vs
  | .top, _, h => by simpa only [AV.up, RepV] using h
  | .v x, _, h => by simpa only [AV.up, RepV] using h
  | .sl k l, _, h => by simpa only [AV.up, RepV] using h
  | .agg l, vs, h => by simp only [AV.up, RepV] at h ⊢; exact RepL.upL' h1 h2 l vs h
  | .tup _, _, h => by simp only [RepV] at h
  | .bp i off, _, h => by
    simp only [AV.up, RepV] at h ⊢
    obtain ⟨b, e, r⟩ := h
    have := (List.getElem?_eq_some_iff.1 e).1
    exact ⟨by omega, b, e, r⟩
  | .xp i off, _, h => by simp only [AV.up, RepV] at h ⊢; exact ⟨by omega, h.2⟩
  | .mo i, _, h => by
    simp only [AV.up, RepV] at h ⊢
    obtain ⟨b, e, r⟩ := h
    have := (List.getElem?_eq_some_iff.1 e).1
    exact ⟨by omega, b, e, r⟩
  | .mx i, _, h => by simp only [AV.up, RepV] at h ⊢; exact ⟨by omega, h.2⟩
  | .bs i _ _ _ _, _, h => by
    simp only [AV.up, RepV] at h ⊢
    obtain ⟨b, e, r⟩ := h
    have := (List.getElem?_eq_some_iff.1 e).1
    exact ⟨by omega, b, e, r⟩
  | .xs .., _, h => by simp only [AV.up, RepV] at h ⊢; exact ⟨by omega, h.2⟩
  | .ep l, _, h => by simpa only [AV.up, RepV] using h
  | .fn f first cap, _, h => by
    simp only [AV.up, RepV] at h ⊢
    obtain ⟨fs, cs, e, q1, q2⟩ := h
    exact ⟨fs, cs, e, RepL.upL' h1 h2 first _ q1, RepL.upL' h1 h2 cap _ q2⟩
  | .ifc t x, _, h => by simpa only [AV.up, RepV] using h
  | .gv .., _, h => by simpa only [AV.up, RepV] using h
theorem RepL.upL' {w : World} {hw : Hw} {bs : List Nat} {base base' : Nat} (h1 : bs.length ≤ base') (h2 : base ≤ base') : ∀ (l : List AV) (vs : List Value), RepL w hw bs base l vs → RepL w hw bs base' (upL base l) vs
  | [], _, h => by simpa only [upL, RepL] using h
  | x :: xs, _, h => by
    simp only [upL, RepL] at h ⊢
    obtain ⟨v, vs', e, q1, q2⟩ := h
    exact ⟨v, vs', e, ⟨RepV.upV h1 h2 x _ q1.1, by rw [up_isAgg]; exact q1.2.1, q1.2.2⟩, RepL.upL' h1 h2 xs _ q2⟩
end

mutual
theorem RepV.toCl {w : World} {hw : Hw} {bs : List Nat} {base : Nat} : ∀ (a : AV) (vs : List Value), RepV w hw bs base a vs → a.cl base (bs.length - base)
  | .top, _, _ => by simp only [AV.cl]
  | .v x, _, _ => by simp only [AV.cl]
  | .sl k l, _, _ => by simp only [AV.cl]
  | .agg l, vs, h => by simp only [AV.cl, RepV] at h ⊢; exact RepL.toCl l vs h
  | .tup _, _, h => by simp only [RepV] at h
  | .bp i off, _, h => by
    simp only [AV.cl, RepV] at h ⊢
    obtain ⟨b, e, r⟩ := h
    have := (List.getElem?_eq_some_iff.1 e).1
    omega
  | .xp i off, _, h => by simp only [AV.cl, RepV] at h ⊢; exact h.1
  | .mo i, _, h => by
    simp only [AV.cl, RepV] at h ⊢
    obtain ⟨b, e, r⟩ := h
    have := (List.getElem?_eq_some_iff.1 e).1
    omega
  | .mx i, _, h => by simp only [AV.cl, RepV] at h ⊢; exact h.1
  | .bs i _ _ _ _, _, h => by
    simp only [AV.cl, RepV] at h ⊢
    obtain ⟨b, e, r⟩ := h
    have := (List.getElem?_eq_some_iff.1 e).1
    omega
  | .xs .., _, h => by simp only [AV.cl, RepV] at h ⊢; exact h.1
  | .ep l, _, _ => by simp only [AV.cl]
  | .fn f first cap, _, h => by
    simp only [AV.cl, RepV] at h ⊢
    obtain ⟨fs, cs, e, q1, q2⟩ := h
    exact ⟨RepL.toCl first _ q1, RepL.toCl cap _ q2⟩
  | .ifc t x, _, _ => by simp only [AV.cl]
  | .gv .., _, _ => by simp only [AV.cl]
theorem RepL.toCl {w : World} {hw : Hw} {bs : List Nat} {base : Nat} : ∀ (l : List AV) (vs : List Value), RepL w hw bs base l vs → clL base (bs.length - base) l
  | [], _, _ => by simp only [clL]
  | x :: xs, _, h => by
    simp only [clL, RepL] at h ⊢
    obtain ⟨v, vs', e, q1, q2⟩ := h
    exact ⟨RepV.toCl x _ q1.1, RepL.toCl xs _ q2⟩
end

mutual
theorem RepV.downV {w : World} {hw : Hw} {bs : List Nat} {base base' m : Nat} : ∀ (a : AV) (vs : List Value), a.cl base m → RepV w hw bs base' (a.up base) vs → RepV w hw bs base a vs
  | .top, _, _, h => by simpa only [AV.up, RepV] using h
  | .v x, _, _, h => by simpa only [AV.up, RepV] using h
  | .sl k l, _, _, h => by simpa only [AV.up, RepV] using h
  | .agg l, vs, c, h => by simp only [AV.up, RepV, AV.cl] at h c ⊢; exact RepL.downL l vs c h
  | .tup _, _, _, h => by simp only [AV.up, RepV] at h
  | .bp i off, _, _, h => by simp only [AV.up, RepV] at h ⊢; exact h.2
  | .xp i off, _, c, h => by simp only [AV.up, RepV, AV.cl] at h c ⊢; exact ⟨c, h.2⟩
  | .mo i, _, _, h => by simp only [AV.up, RepV] at h ⊢; exact h.2
  | .mx i, _, c, h => by simp only [AV.up, RepV, AV.cl] at h c ⊢; exact ⟨c, h.2⟩
  | .bs .., _, _, h => by simp only [AV.up, RepV] at h ⊢; exact h.2
  | .xs .., _, c, h => by simp only [AV.up, RepV, AV.cl] at h c ⊢; exact ⟨c, h.2⟩
  | .ep l, _, _, h => by simpa only [AV.up, RepV] using h
  | .fn f first cap, _, c, h => by
    simp only [AV.up, RepV, AV.cl] at h c ⊢
    obtain ⟨fs, cs, e, q1, q2⟩ := h
    exact ⟨fs, cs, e, RepL.downL first _ c.1 q1, RepL.downL cap _ c.2 q2⟩
  | .ifc t x, _, _, h => by simpa only [AV.up, RepV] using h
  | .gv .., _, _, h => by simpa only [AV.up, RepV] using h
theorem RepL.downL {w : World} {hw : Hw} {bs : List Nat} {base base' m : Nat} : ∀ (l : List AV) (vs : List Value), clL base m l → RepL w hw bs base' (upL base l) vs → RepL w hw bs base l vs
  | [], _, _, h => by simpa only [upL, RepL] using h
  | x :: xs, _, c, h => by
    simp only [upL, RepL, clL] at h c ⊢
    obtain ⟨v, vs', e, q1, q2⟩ := h
    exact ⟨v, vs', e, ⟨RepV.downV x _ c.1 q1.1, by rw [← up_isAgg base]; exact q1.2.1, q1.2.2⟩, RepL.downL xs _ c.2 q2⟩
end

mutual
theorem RepV.takeV {w : World} {hw : Hw} {bs : List Nat} {base m : Nat} : ∀ (a : AV) (vs : List Value), a.cl base m → RepV w hw bs base a vs → RepV w hw (bs.take (base + m)) base a vs
  | .top, _, _, h => by simpa only [RepV] using h
  | .v x, _, _, h => by simpa only [RepV] using h
  | .sl k l, _, _, h => by simpa only [RepV] using h
  | .agg l, vs, c, h => by simp only [RepV, AV.cl] at h c ⊢; exact RepL.takeL l vs c h
  | .tup _, _, _, h => by simp only [RepV] at h
  | .bp i off, _, c, h => by simp only [RepV, AV.cl] at h c ⊢; obtain ⟨b, e, r⟩ := h; exact ⟨b, by rw [List.getElem?_take, if_pos (by omega)]; exact e, r⟩
  | .xp i off, _, c, h => by simp only [RepV, AV.cl] at h c ⊢; obtain ⟨h1, b, e, r⟩ := h; exact ⟨c, b, by rw [List.getElem?_take, if_pos (by omega)]; exact e, r⟩
  | .mo i, _, c, h => by simp only [RepV, AV.cl] at h c ⊢; obtain ⟨b, e, r⟩ := h; exact ⟨b, by rw [List.getElem?_take, if_pos (by omega)]; exact e, r⟩
  | .mx i, _, c, h => by simp only [RepV, AV.cl] at h c ⊢; obtain ⟨h1, b, e, r⟩ := h; exact ⟨c, b, by rw [List.getElem?_take, if_pos (by omega)]; exact e, r⟩
  | .bs .., _, c, h => by simp only [RepV, AV.cl] at h c ⊢; obtain ⟨b, e, r⟩ := h; exact ⟨b, by rw [List.getElem?_take, if_pos (by omega)]; exact e, r⟩
  | .xs .., _, c, h => by simp only [RepV, AV.cl] at h c ⊢; obtain ⟨h1, b, e, r⟩ := h; exact ⟨c, b, by rw [List.getElem?_take, if_pos (by omega)]; exact e, r⟩
  | .ep l, _, _, h => by simpa only [RepV] using h
  | .fn f first cap, _, c, h => by
    simp only [RepV, AV.cl] at h c ⊢
    obtain ⟨fs, cs, e, q1, q2⟩ := h
    exact ⟨fs, cs, e, RepL.takeL first _ c.1 q1, RepL.takeL cap _ c.2 q2⟩
  | .ifc t x, _, _, h => by simpa only [RepV] using h
  | .gv .., _, _, h => by simpa only [RepV] using h
theorem RepL.takeL {w : World} {hw : Hw} {bs : List Nat} {base m : Nat} : ∀ (l : List AV) (vs : List Value), clL base m l → RepL w hw bs base l vs → RepL w hw (bs.take (base + m)) base l vs
  | [], _, _, h => by simpa only [RepL] using h
  | x :: xs, _, c, h => by
    simp only [RepL, clL] at h c ⊢
    obtain ⟨v, vs', e, q1, q2⟩ := h
    exact ⟨v, vs', e, ⟨RepV.takeV x _ c.1 q1.1, q1.2⟩, RepL.takeL xs _ c.2 q2⟩
end

mutual
theorem RepV.pfV {w : World} {hw : Hw} {bs : List Nat} {base : Nat} : ∀ (a : AV) (vs : List Value), a.pf = true → RepV w hw bs base a vs → RepV w hw [] 0 a vs
  | .top, _, _, h => by simpa only [RepV] using h
  | .v x, _, _, h => by simpa only [RepV] using h
  | .sl k l, _, _, h => by simpa only [RepV] using h
  | .agg l, vs, c, h => by simp only [RepV, AV.pf] at h c ⊢; exact RepL.pfL' l vs c h
  | .tup _, _, _, h => by simp only [RepV] at h
  | .bp i off, _, c, h => by simp [AV.pf] at c
  | .xp i off, _, c, h => by simp [AV.pf] at c
  | .mo i, _, c, h => by simp [AV.pf] at c
  | .mx i, _, c, h => by simp [AV.pf] at c
  | .bs .., _, c, h => by simp [AV.pf] at c
  | .xs .., _, c, h => by simp [AV.pf] at c
  | .ep l, _, _, h => by simpa only [RepV] using h
  | .fn f first cap, _, c, h => by
    simp only [RepV, AV.pf, Bool.and_eq_true] at h c ⊢
    obtain ⟨fs, cs, e, q1, q2⟩ := h
    exact ⟨fs, cs, e, RepL.pfL' first _ c.1 q1, RepL.pfL' cap _ c.2 q2⟩
  | .ifc t x, _, _, h => by simpa only [RepV] using h
  | .gv .., _, _, h => by simpa only [RepV] using h
theorem RepL.pfL' {w : World} {hw : Hw} {bs : List Nat} {base : Nat} : ∀ (l : List AV) (vs : List Value), pfL l = true → RepL w hw bs base l vs → RepL w hw [] 0 l vs
  | [], _, _, h => by simpa only [RepL] using h
  | x :: xs, _, c, h => by
    simp only [RepL, pfL, Bool.and_eq_true] at h c ⊢
    obtain ⟨v, vs', e, q1, q2⟩ := h
    exact ⟨v, vs', e, ⟨RepV.pfV x _ c.1 q1.1, q1.2⟩, RepL.pfL' xs _ c.2 q2⟩
end

section
variable {w : World} {hw : Hw} {bs : List Nat} {base base' m : Nat}
theorem Rep1.up {a : AV} {y : Value} (h1 : bs.length ≤ base') (h2 : base ≤ base') (h : Rep1 w hw bs base a y) : Rep1 w hw bs base' (a.up base) y := by
  rcases h with rfl | ⟨h, e⟩
  · exact .inl rfl
  · exact .inr ⟨RepV.upV h1 h2 _ _ h, by rw [up_isAgg]; exact e⟩
theorem RepT.up (h1 : bs.length ≤ base') (h2 : base ≤ base') : ∀ (l : List AV) (vs : List Value), RepT w hw bs base l vs → RepT w hw bs base' (l.map (AV.up base)) vs
  | [], _, h => h
  | x :: l, _, h => by
    simp only [RepT, List.map_cons] at h ⊢
    obtain ⟨v, vs', e, q1, q2⟩ := h
    exact ⟨v, vs', e, q1.up h1 h2, RepT.up h1 h2 l _ q2⟩
theorem Rep.up {a : AV} {y : Value} (h1 : bs.length ≤ base') (h2 : base ≤ base') (h : Rep w hw bs base a y) : Rep w hw bs base' (a.up base) y := by
  cases a with
  | tup l => obtain ⟨vs, e, h⟩ := h; exact ⟨vs, e, by have := RepT.up h1 h2 l _ h; rwa [← upL_eq] at this⟩
  | _ => exact Rep1.up h1 h2 h
theorem Rep1.down {a : AV} {y : Value} (c : a.cl base m) (h : Rep1 w hw bs base' (a.up base) y) : Rep1 w hw bs base a y := by
  rcases h with h | ⟨h, e⟩
  · exact .inl (by cases a <;> simp [AV.up] at h ⊢)
  · exact .inr ⟨RepV.downV _ _ c h, by rw [← up_isAgg base]; exact e⟩
theorem RepT.down : ∀ (l : List AV) (vs : List Value), clL base m l → RepT w hw bs base' (upL base l) vs → RepT w hw bs base l vs
  | [], _, _, h => h
  | x :: l, _, c, h => by
    simp only [RepT, upL, clL] at h c ⊢
    obtain ⟨v, vs', e, q1, q2⟩ := h
    exact ⟨v, vs', e, q1.down c.1, RepT.down l _ c.2 q2⟩
theorem Rep.down {a : AV} {y : Value} (c : a.cl base m) (h : Rep w hw bs base' (a.up base) y) : Rep w hw bs base a y := by
  cases a with
  | tup l => obtain ⟨vs, e, h⟩ := h; exact ⟨vs, e, RepT.down l _ (by simpa only [AV.cl] using c) h⟩
  | _ => exact Rep1.down c h
theorem Rep1.pf {a : AV} {y : Value} (hp : a.pf = true) (h : Rep1 w hw bs base a y) : Rep1 w hw [] 0 a y := h.imp id fun ⟨h, e⟩ => ⟨RepV.pfV _ _ hp h, e⟩
theorem RepT.pf : ∀ (l : List AV) (vs : List Value), pfL l = true → RepT w hw bs base l vs → RepT w hw [] 0 l vs
  | [], _, _, h => h
  | x :: l, _, hp, h => by
    simp only [RepT, pfL, Bool.and_eq_true] at h hp ⊢
    obtain ⟨v, vs', e, q1, q2⟩ := h
    exact ⟨v, vs', e, q1.pf hp.1, RepT.pf l _ hp.2 q2⟩
theorem Rep.pf {a : AV} {y : Value} (hp : a.pf = true) (h : Rep w hw bs base a y) : Rep w hw [] 0 a y := by
  cases a with
  | tup l => obtain ⟨vs, e, h⟩ := h; exact ⟨vs, e, RepT.pf l _ (by simpa [AV.pf] using hp) h⟩
  | _ => exact Rep1.pf hp h
end

def Bx.up (base : Nat) : Bx → Bx
  | .cells l os => .cells (upL base l) os
  | .map l => .map l

mutual
theorem up_cl {base : Nat} : ∀ x : AV, x.cl base 0 → x.up base = x
  | .top, _ | .v _, _ | .sl _ _, _ | .ep _, _ | .ifc _ _, _ | .gv _ _, _ | .xp _ _, _ | .mx _, _ | .xs .., _ => rfl
  | .bp _ _, h => by simp only [AV.cl] at h; omega
  | .mo _, h => by simp only [AV.cl] at h; omega
  | .bs .., h => by simp only [AV.cl] at h; omega
  | .agg l, h => by simp only [AV.cl] at h; simp only [AV.up, upL_cl l h]
  | .tup l, h => by simp only [AV.cl] at h; simp only [AV.up, upL_cl l h]
  | .fn f a b, h => by simp only [AV.cl] at h; simp only [AV.up, upL_cl a h.1, upL_cl b h.2]
theorem upL_cl {base : Nat} : ∀ l : List AV, clL base 0 l → upL base l = l
  | [], _ => rfl
  | x :: l, h => by simp only [clL] at h; simp only [upL, up_cl x h.1, upL_cl l h.2]
end
theorem mapUp_cl {base : Nat} : ∀ {l : List Bx}, (∀ x ∈ l, Bx.cl base 0 x) → l.map (Bx.up base) = l
  | [], _ => rfl
  | x :: l, h => by
    rw [List.map_cons, mapUp_cl fun y hy => h y (by simp [hy])]
    have hx := h x (by simp)
    cases x with
    | cells l os => simp only [Bx.cl] at hx; simp only [Bx.up, upL_cl l hx]
    | map l => rfl

/-- No pointers to boxes (seen at once). -/
def pf0 (x : AV) : Bool :=
  match x with
  | .v _ | .sl _ _ | .ep _ | .ifc _ _ | .top => true
  | _ => false
def pf0L : List AV → Bool
  | [] => true
  | x :: xs => match pf0 x with
    | true => pf0L xs
    | false => false
def pfa (x : AV) : Bool :=
  match x with
  | .v _ | .sl _ _ | .ep _ | .ifc _ _ | .top | .gv _ _ => true
  | .agg l => pf0L l
  | .fn _ a b => pf0L a && pf0L b
  | _ => false
def pfaL : List AV → Bool
  | [] => true
  | x :: xs => match pfa x with
    | true => pfaL xs
    | false => false
def pf1 (x : AV) : Bool :=
  match x with
  | .tup l => pfaL l
  | x => pfa x
def pf1L : List AV → Bool
  | [] => true
  | x :: xs => match pf1 x with
    | true => pf1L xs
    | false => false
theorem pf_of0 {x : AV} (h : pf0 x = true) : x.pf = true := by cases x <;> simp_all [pf0, AV.pf]
theorem pfL_of0 : ∀ {l : List AV}, pf0L l = true → pfL l = true
  | [], _ => rfl
  | x :: xs, h => by
    simp only [pf0L] at h
    cases hx : pf0 x with
    | false => rw [hx] at h; cases h
    | true => rw [hx] at h; simp only [pfL, pf_of0 hx, pfL_of0 h, Bool.and_self]
theorem pf_ofa {x : AV} (h : pfa x = true) : x.pf = true := by
  cases x <;> simp only [pfa, AV.pf, Bool.and_eq_true] at * <;> first | exact pfL_of0 h | exact ⟨pfL_of0 h.1, pfL_of0 h.2⟩ | exact h | cases h
theorem pfL_ofa : ∀ {l : List AV}, pfaL l = true → pfL l = true
  | [], _ => rfl
  | x :: xs, h => by
    simp only [pfaL] at h
    cases hx : pfa x with
    | false => rw [hx] at h; cases h
    | true => rw [hx] at h; simp only [pfL, pf_ofa hx, pfL_ofa h, Bool.and_self]
theorem pf_of1 {x : AV} (h : pf1 x = true) : x.pf = true := by
  cases x
  case tup l => simp only [pf1, AV.pf] at *; exact pfL_ofa h
  all_goals exact pf_ofa h
theorem pfL_of1 : ∀ {l : List AV}, pf1L l = true → pfL l = true
  | [], _ => rfl
  | x :: xs, h => by
    simp only [pf1L] at h
    cases hx : pf1 x with
    | false => rw [hx] at h; cases h
    | true => rw [hx] at h; simp only [pfL, pf_of1 hx, pfL_of1 h, Bool.and_self]

def XCalls (P : Program) (f : FuncId) (args : List AV) (env : List Bx) (R : AV → Bool → List Bx → Prop) : Prop :=
  ∀ (w : World) (g : Gh) (vs : List Value), Good w g env env.length → (∀ b i, g.own b ≠ some (.slot i)) → RepT w g.hw g.bs env.length args vs →
    Calls P f vs.toArray w fun e w' => ∃ u g' r ow env', e = .returned u ∧ R r ow env' ∧ env.length ≤ env'.length ∧ Good w' g' env' env'.length ∧ Ext (· = .ext) w g w' g' ∧ Rep w' g'.hw g'.bs env'.length r u ∧
      (ow = true → ∃ k l, r = .sl k l ∧ OwnAt w' g' (.slot 0) k u)

theorem XCalls.mono {P : Program} {f : FuncId} {args : List AV} {env : List Bx} {R R' : AV → Bool → List Bx → Prop} (h : XCalls P f args env R) (hr : ∀ r ow e, R r ow e → R' r ow e) : XCalls P f args env R' :=
  fun w g vs G hs hv => (h w g vs G hs hv).mono fun _ _ ⟨u, g', r, ow, env', h1, h2, h3⟩ => ⟨u, g', r, ow, env', h1, hr _ _ _ h2, h3⟩

def ownOut : Option Loc → Option Loc
  | some (.slot _) => some .ext
  | x => x
def ownBack (d : Nat) (before : Option Loc) : Option Loc → Option Loc
  | some .ext => before
  | some (.slot _) => some (.slot d)
  | x => x

section
variable {n : Nat} {W0 : World} {G0 : Gh} {c : Cfg} {a : Act} {w : World} {g : Gh} {P : Program}

theorem Good.callIn (G : Good w g c.mem c.base) : Good w { g with own := fun b => ownOut (g.own b) } (c.mem.map (Bx.up c.base)) (c.mem.map (Bx.up c.base)).length := by
  have hlen : c.base ≤ c.mem.length := by simp [Cfg.base, Cfg.mem]
  have hbs : g.bs.length ≤ (c.mem.map (Bx.up c.base)).length := by simp [G.len]
  refine ⟨by simp [G.len], G.nd, G.nohw, fun i x b hx hb => ?_, G.hw, fun b L e => ?_, G.glob⟩
  · simp only [List.getElem?_map, Option.map_eq_some_iff] at hx
    obtain ⟨x, hx, rfl⟩ := hx
    have := G.box i x b hx hb
    cases x with
    | cells l os =>
      obtain ⟨cs, e, h1, h2, h3⟩ := this
      refine ⟨cs, e, h1, RepL.upL' hbs (by simpa using hlen) l _ h2, fun j hj => ?_⟩
      obtain ⟨k, l', y, e1, e2, e3⟩ := h3 j hj
      refine ⟨k, l', y, by rw [upL_eq, List.getElem?_map, e1]; rfl, e2, ?_⟩
      obtain ⟨a, n, c', e', hn, h⟩ := e3
      refine ⟨a, n, c', e', hn, h.imp id ?_⟩
      rintro ⟨b, o, h, cs, e, ea, h1, h2, h3, h4, h5⟩
      exact ⟨b, o, h, cs, e, ea, by simp [h1, ownOut], h2, h3, h4, h5⟩
    | map l => exact this
  · cases h : g.own b with
    | none => simp [h, ownOut] at e
    | some L' => exact G.own b L' h

theorem Good.call (G : Good w g c.mem c.base) {f : FuncId} {args : List AV} {vs : List Value} {R : AV → Bool → List Bx → Prop} (hv : RepT w g.hw g.bs c.base args vs)
    (h : XCalls P f (args.map (AV.up c.base)) (c.mem.map (Bx.up c.base)) R) (d : Nat) :
    Calls P f vs.toArray w fun e w' => ∃ u r ow env', e = .returned u ∧ R r ow env' ∧ ∀ r' mem', r = AV.up c.base r' → env' = mem'.map (Bx.up c.base) → r'.cl c.base (mem'.length - c.base) → (∀ x ∈ mem', Bx.cl c.base (mem'.length - c.base) x) →
      ∃ g', Good w' g' mem' c.base ∧ Ext KeepS w g w' g' ∧ Rep w' g'.hw g'.bs c.base r' u ∧ (ow = true → ∃ k l, r' = .sl k l ∧ OwnAt w' g' (.slot d) k u) := by
  have hlen : c.base ≤ c.mem.length := by simp [Cfg.base, Cfg.mem]
  have hbs : g.bs.length ≤ (c.mem.map (Bx.up c.base)).length := by simp [G.len]
  refine (h w _ vs G.callIn (fun b i => by cases h : g.own b with
    | none => simp [h, ownOut]
    | some L => cases L <;> simp [h, ownOut]) (RepT.up hbs (by simpa using hlen) args vs hv)).mono ?_
  rintro e w' ⟨u, g1, r, ow, env', he, hR, hle, G1, E1, hr, how⟩
  refine ⟨u, r, ow, env', he, hR, fun r' mem' hr' hm hrc hcl => ?_⟩
  subst hm hr'
  let g' : Gh := { g1 with own := fun b => ownBack d (g.own b) (g1.own b) }
  have hlen1 : g1.bs.length = mem'.length := by rw [G1.len]; simp
  -- what a place of the caller's owns
  have kept : ∀ b L, g.own b = some L → (∀ i j, L ≠ .cell i j) → g'.own b = some L ∧ g'.hw b = g.hw b ∧ w'.heap[b]? = w.heap[b]? := by
    intro b L hb hL
    have h1 : ownOut (g.own b) = some .ext := by
      rw [hb]
      cases L with
      | slot i => rfl
      | ext => rfl
      | cell i j => exact absurd rfl (hL i j)
    obtain ⟨q1, q2, q3⟩ := E1.ext b .ext h1 rfl
    exact ⟨by show ownBack d (g.own b) (g1.own b) = _; rw [q1]; exact hb, q2, q3⟩
  have cellKept : ∀ b i j, g1.own b = some (.cell i j) → g'.own b = some (.cell i j) := fun b i j h => by
    show ownBack d (g.own b) (g1.own b) = _
    rw [h]; rfl
  have hE : Ext KeepS w g w' g' := by
    refine ⟨E1.size, E1.tape, E1.os, E1.output, E1.hw, fun b L hb hL => kept b L hb hL, E1.bs, E1.bsnew, fun b hb L hL => ?_, fun b hb hnb ho => ?_⟩
    · have hL' : ownBack d (g.own b) (g1.own b) = some L := hL
      cases hg1 : g1.own b with
      | none => rw [hg1] at hL'; cases hL'
      | some L1 =>
        rw [hg1] at hL'
        obtain ⟨L2, q1, q2⟩ := E1.orig b hb L1 hg1
        replace q1 : ownOut (g.own b) = some L2 := q1
        have cellOr : L1 ≠ .ext → ∃ i j, g.own b = some (.cell i j) := fun hne => by
          cases hg : g.own b with
          | none => rw [hg] at q1; cases q1
          | some L3 =>
            rw [hg] at q1
            cases L3 with
            | cell i j => exact ⟨i, j, rfl⟩
            | slot i => simp only [ownOut, Option.some.injEq] at q1; exact absurd (q2 q1.symm ▸ q1.symm) (fun h => hne ((q2 q1.symm).trans q1.symm))
            | ext => simp only [ownOut, Option.some.injEq] at q1; exact absurd ((q2 q1.symm).trans q1.symm) hne
        cases L1 with
        | ext => exact ⟨L, hL', fun _ => rfl⟩
        | slot s =>
          obtain ⟨i, j, hg⟩ := cellOr (by simp)
          exact ⟨_, hg, fun hk => absurd rfl (hk i j)⟩
        | cell i' j' =>
          obtain ⟨i, j, hg⟩ := cellOr (by simp)
          exact ⟨_, hg, fun hk => absurd rfl (hk i j)⟩
    · refine E1.old b hb hnb fun L hL => ?_
      replace hL : ownOut (g.own b) = some L := hL
      cases hg : g.own b with
      | none => rw [hg] at hL; cases hL
      | some L3 =>
        have := ho L3 hg
        rw [hg] at hL
        cases L3 with
        | cell i j => exact absurd rfl (this i j)
        | slot i => simp only [ownOut, Option.some.injEq] at hL; exact hL.symm
        | ext => simp only [ownOut, Option.some.injEq] at hL; exact hL.symm
  have hG : Good w' g' mem' c.base := by
    refine ⟨hlen1, G1.nd, G1.nohw, fun i x b hx hb => ?_, G1.hw, fun b L hL => ?_, G1.glob⟩
    · have := G1.box i (x.up c.base) b (by rw [List.getElem?_map, hx]; rfl) hb
      have hx' := hcl x (List.mem_of_getElem? hx)
      cases x with
      | cells l os =>
        obtain ⟨cs, e, h1, h2, h3⟩ := this
        refine ⟨cs, e, h1, RepL.downL l _ hx' h2, fun j hj => ?_⟩
        obtain ⟨k, l', y, f1, f2, f3⟩ := h3 j hj
        refine ⟨k, l', y, ?_, f2, ?_⟩
        · rw [upL_eq, List.getElem?_map, Option.map_eq_some_iff] at f1
          obtain ⟨z, hz, hz'⟩ := f1
          rw [hz]
          cases z <;> simp [AV.up] at hz' <;> simp [hz']
        · exact f3.mono fun b hb => ⟨cellKept b _ _ hb, rfl, rfl⟩
      | map l => exact this
    · have hL' : ownBack d (g.own b) (g1.own b) = some L := hL
      cases hg1 : g1.own b with
      | none => rw [hg1] at hL'; cases hL'
      | some L1 => exact G1.own b L1 hg1
  refine ⟨g', hG, hE, hr.down hrc, fun how' => ?_⟩
  obtain ⟨k, l, e, ho⟩ := how how'
  refine ⟨k, l, by cases r' <;> simp [AV.up] at e; simp [e], ?_⟩
  obtain ⟨a, n, c', e', hn, h⟩ := ho
  refine ⟨a, n, c', e', hn, h.imp id ?_⟩
  rintro ⟨b, o, h, cs, e, ea, h1, h2, h3, h4, h5⟩
  exact ⟨b, o, h, cs, e, ea, by show ownBack d (g.own b) (g1.own b) = _; rw [h1]; rfl, h2, h3, h4, h5⟩

theorem Inv.call (hi : Inv n W0 G0 c a w g) {f : FuncId} {args : List AV} {vs : List Value} {R : AV → Bool → List Bx → Prop} (hv : RepT w g.hw g.bs c.base args vs)
    (h : XCalls P f (args.map (AV.up c.base)) (c.mem.map (Bx.up c.base)) R) (d : Nat) :
    Calls P f vs.toArray w fun e w' => ∃ u r ow env', e = .returned u ∧ R r ow env' ∧ ∀ r' mem', r = AV.up c.base r' → env' = mem'.map (Bx.up c.base) → r'.cl c.base (mem'.length - c.base) → (∀ x ∈ mem', Bx.cl c.base (mem'.length - c.base) x) →
      ∀ c', c'.fr = c.fr → c'.os = c.os → c'.mem = mem' → c'.base = c.base → (∀ x ∈ c'.env, Bx.cl c.base 0 x) →
      ∃ g', Inv n W0 G0 c' a w' g' ∧ Rep w' g'.hw g'.bs c.base r' u ∧ (ow = true → ∃ k l, r' = .sl k l ∧ OwnAt w' g' (.slot d) k u) := by
  refine (hi.good.call hv h d).mono ?_
  rintro e w' ⟨u, r, ow, env', he, hR, hcont⟩
  refine ⟨u, r, ow, env', he, hR, fun r' mem' hr' hm hrc hcl c' e1 e2 e3 e4 e5 => ?_⟩
  obtain ⟨g', hG, hE, hr, how⟩ := hcont r' mem' hr' hm hrc hcl
  refine ⟨g', ⟨hi.size, hi.defers, fun j hj => ?_, fun j hj => ?_, ?_, hi.ext.trans (hE.weaken (by rintro L rfl; intro i j; simp)), by rw [e4]; exact e5, by rw [e4]; exact hi.b0⟩, hr, how⟩
  · rw [e1, e4]; exact (hi.fr j hj).mono hE.hw hE.bs
  · rw [e2] at hj
    rw [e1]
    obtain ⟨k, l, h1, h2⟩ := hi.os j hj
    exact ⟨k, l, h1, h2.mono fun b hb => hE.ext b _ hb (by intro i j; simp)⟩
  · rw [e3, e4]; exact hG
end
end Go.Ev
end
