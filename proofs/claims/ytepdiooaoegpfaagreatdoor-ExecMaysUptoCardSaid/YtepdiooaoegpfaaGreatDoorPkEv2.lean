/- Written by programs of this session: laws and contracts that the law's proof stands on, merged into one text. Conditions: none beyond those in each statement. -/
import Derived.Test.YtepdiooaoegpfaaGreatDoorPkEv1
import Derived.Lib.AppendZerosOnto
import Derived.Lib.Overlaps
section
/- Written by this session: calls, over trees: what is handed in, and what comes back. Conditions: none beyond those in each statement. -/
namespace Go.Ev
open Go

mutual
def AV.up (base : Nat) : AV → AV
  | .bp i off => .xp (base + i) off
  | .mo i => .mx (base + i)
  | .bs i off k n c => .xs (base + i) off k n c
  | .agg l => .agg (upL base l)
  | .fn f a b => .fn f (upL base a) (upL base b)
  | .tup l => .tup (upL base l)
  | .top => .top
  | .v x => .v x
  | .sl k l => .sl k l
  | .xp i off => .xp i off
  | .mx i => .mx i
  | .xs i off k n c => .xs i off k n c
  | .ep l => .ep l
  | .ifc t x => .ifc t x
  | .gv b x => .gv b x
def upL (base : Nat) : List AV → List AV
  | [] => []
  | x :: xs => AV.up base x :: upL base xs
end

mutual
/-- No pointer to a box. -/
def AV.pf : AV → Bool
  | .bp _ _ | .mo _ | .xp _ _ | .mx _ | .bs .. | .xs .. => false
  | .agg l => pfL l
  | .fn _ a b => pfL a && pfL b
  | .tup l => pfL l
  | .top | .v _ | .sl _ _ | .ep _ | .ifc _ _ | .gv _ _ => true
def pfL : List AV → Bool
  | [] => true
  | x :: xs => AV.pf x && pfL xs
end

theorem up_isAgg (base : Nat) (x : AV) : (x.up base).isAgg = x.isAgg := by cases x <;> rfl
theorem upL_length (base : Nat) : ∀ l, (upL base l).length = l.length
  | [] => rfl
  | x :: l => by simp [upL, upL_length base l]
theorem upL_eq (base : Nat) : ∀ l, upL base l = l.map (AV.up base)
  | [] => rfl
  | x :: l => by simp [upL, upL_eq base l]

mutual
theorem RepV.upV {w : World} {hw : Hw} {bs : List Nat} {base base' : Nat} (h1 : bs.length ≤ base') (h2 : base ≤ base') : ∀ (a : AV) (vs : List Value), RepV w hw bs base a vs → RepV w hw bs base' (a.up base) vs
  | .top, _, h => by simpa only [AV.up, RepV] using h
  | .v x, _, h => by simpa only [AV.up, RepV] using h
  | .sl k l, _, h => by simpa only [AV.up, RepV] using h
  | .agg l, vs, h => by simp only [AV.up, RepV] at h ⊢; exact RepL.upL' h1 h2 l vs h
  | .tup _, _, h => by simp only [RepV] at h
  | .bp i off, _, h => by
    simp only [AV.up, RepV] at h ⊢
    obtain ⟨b, e, r⟩ := h
    have := (List.getElem?_eq_some_iff.1 e).1
    exact ⟨by omega, b, e, r⟩
  | .xp i off, _, h => by simp only [AV.up, RepV] at h ⊢; exact ⟨by omega, h.2⟩
  | .mo i, _, h => by
    simp only [AV.up, RepV] at h ⊢
    obtain ⟨b, e, r⟩ := h
    have := (List.getElem?_eq_some_iff.1 e).1
    exact ⟨by omega, b, e, r⟩
  | .mx i, _, h => by simp only [AV.up, RepV] at h ⊢; exact ⟨by omega, h.2⟩
  | .bs i _ _ _ _, _, h => by
    simp only [AV.up, RepV] at h ⊢
    obtain ⟨b, e, r⟩ := h
    have := (List.getElem?_eq_some_iff.1 e).1
    exact ⟨by omega, b, e, r⟩
  | .xs .., _, h => by simp only [AV.up, RepV] at h ⊢; exact ⟨by omega, h.2⟩
  | .ep l, _, h => by simpa only [AV.up, RepV] using h
  | .fn f first cap, _, h => by
    simp only [AV.up, RepV] at h ⊢
    obtain ⟨fs, cs, e, q1, q2⟩ := h
    exact ⟨fs, cs, e, RepL.upL' h1 h2 first _ q1, RepL.upL' h1 h2 cap _ q2⟩
  | .ifc t x, _, h => by simpa only [AV.up, RepV] using h
  | .gv .., _, h => by simpa only [AV.up, RepV] using h
theorem RepL.upL' {w : World} {hw : Hw} {bs : List Nat} {base base' : Nat} (h1 : bs.length ≤ base') (h2 : base ≤ base') : ∀ (l : List AV) (vs : List Value), RepL w hw bs base l vs → RepL w hw bs base' (upL base l) vs
  | [], _, h => by simpa only [upL, RepL] using h
  | x :: xs, _, h => by
    simp only [upL, RepL] at h ⊢
    obtain ⟨v, vs', e, q1, q2⟩ := h
    exact ⟨v, vs', e, ⟨RepV.upV h1 h2 x _ q1.1, by rw [up_isAgg]; exact q1.2.1, q1.2.2⟩, RepL.upL' h1 h2 xs _ q2⟩
end

mutual
theorem RepV.toCl {w : World} {hw : Hw} {bs : List Nat} {base : Nat} : ∀ (a : AV) (vs : List Value), RepV w hw bs base a vs → a.cl base (bs.length - base)
  | .top, _, _ => by simp only [AV.cl]
  | .v x, _, _ => by simp only [AV.cl]
  | .sl k l, _, _ => by simp only [AV.cl]
  | .agg l, vs, h => by simp only [AV.cl, RepV] at h ⊢; exact RepL.toCl l vs h
  | .tup _, _, h => by simp only [RepV] at h
  | .bp i off, _, h => by
    simp only [AV.cl, RepV] at h ⊢
    obtain ⟨b, e, r⟩ := h
    have := (List.getElem?_eq_some_iff.1 e).1
    omega
  | .xp i off, _, h => by simp only [AV.cl, RepV] at h ⊢; exact h.1
  | .mo i, _, h => by
    simp only [AV.cl, RepV] at h ⊢
    obtain ⟨b, e, r⟩ := h
    have := (List.getElem?_eq_some_iff.1 e).1
    omega
  | .mx i, _, h => by simp only [AV.cl, RepV] at h ⊢; exact h.1
  | .bs i _ _ _ _, _, h => by
    simp only [AV.cl, RepV] at h ⊢
    obtain ⟨b, e, r⟩ := h
    have := (List.getElem?_eq_some_iff.1 e).1
    omega
  | .xs .., _, h => by simp only [AV.cl, RepV] at h ⊢; exact h.1
  | .ep l, _, _ => by simp only [AV.cl]
  | .fn f first cap, _, h => by
    simp only [AV.cl, RepV] at h ⊢
    obtain ⟨fs, cs, e, q1, q2⟩ := h
    exact ⟨RepL.toCl first _ q1, RepL.toCl cap _ q2⟩
  | .ifc t x, _, _ => by simp only [AV.cl]
  | .gv .., _, _ => by simp only [AV.cl]
theorem RepL.toCl {w : World} {hw : Hw} {bs : List Nat} {base : Nat} : ∀ (l : List AV) (vs : List Value), RepL w hw bs base l vs → clL base (bs.length - base) l
  | [], _, _ => by simp only [clL]
  | x :: xs, _, h => by
    simp only [clL, RepL] at h ⊢
    obtain ⟨v, vs', e, q1, q2⟩ := h
    exact ⟨RepV.toCl x _ q1.1, RepL.toCl xs _ q2⟩
end

mutual
theorem RepV.downV {w : World} {hw : Hw} {bs : List Nat} {base base' m : Nat} : ∀ (a : AV) (vs : List Value), a.cl base m → RepV w hw bs base' (a.up base) vs → RepV w hw bs base a vs
  | .top, _, _, h => by simpa only [AV.up, RepV] using h
  | .v x, _, _, h => by simpa only [AV.up, RepV] using h
  | .sl k l, _, _, h => by simpa only [AV.up, RepV] using h
  | .agg l, vs, c, h => by simp only [AV.up, RepV, AV.cl] at h c ⊢; exact RepL.downL l vs c h
  | .tup _, _, _, h => by simp only [AV.up, RepV] at h
  | .bp i off, _, _, h => by simp only [AV.up, RepV] at h ⊢; exact h.2
  | .xp i off, _, c, h => by simp only [AV.up, RepV, AV.cl] at h c ⊢; exact ⟨c, h.2⟩
  | .mo i, _, _, h => by simp only [AV.up, RepV] at h ⊢; exact h.2
  | .mx i, _, c, h => by simp only [AV.up, RepV, AV.cl] at h c ⊢; exact ⟨c, h.2⟩
  | .bs .., _, _, h => by simp only [AV.up, RepV] at h ⊢; exact h.2
  | .xs .., _, c, h => by simp only [AV.up, RepV, AV.cl] at h c ⊢; exact ⟨c, h.2⟩
  | .ep l, _, _, h => by simpa only [AV.up, RepV] using h
  | .fn f first cap, _, c, h => by
    simp only [AV.up, RepV, AV.cl] at h c ⊢
    obtain ⟨fs, cs, e, q1, q2⟩ := h
    exact ⟨fs, cs, e, RepL.downL first _ c.1 q1, RepL.downL cap _ c.2 q2⟩
  | .ifc t x, _, _, h => by simpa only [AV.up, RepV] using h
  | .gv .., _, _, h => by simpa only [AV.up, RepV] using h
theorem RepL.downL {w : World} {hw : Hw} {bs : List Nat} {base base' m : Nat} : ∀ (l : List AV) (vs : List Value), clL base m l → RepL w hw bs base' (upL base l) vs → RepL w hw bs base l vs
  | [], _, _, h => by simpa only [upL, RepL] using h
  | x :: xs, _, c, h => by
    simp only [upL, RepL, clL] at h c ⊢
    obtain ⟨v, vs', e, q1, q2⟩ := h
    exact ⟨v, vs', e, ⟨RepV.downV x _ c.1 q1.1, by rw [← up_isAgg base]; exact q1.2.1, q1.2.2⟩, RepL.downL xs _ c.2 q2⟩
end

mutual
theorem RepV.takeV {w : World} {hw : Hw} {bs : List Nat} {base m : Nat} : ∀ (a : AV) (vs : List Value), a.cl base m → RepV w hw bs base a vs → RepV w hw (bs.take (base + m)) base a vs
  | .top, _, _, h => by simpa only [RepV] using h
  | .v x, _, _, h => by simpa only [RepV] using h
  | .sl k l, _, _, h => by simpa only [RepV] using h
  | .agg l, vs, c, h => by simp only [RepV, AV.cl] at h c ⊢; exact RepL.takeL l vs c h
  | .tup _, _, _, h => by simp only [RepV] at h
  | .bp i off, _, c, h => by simp only [RepV, AV.cl] at h c ⊢; obtain ⟨b, e, r⟩ := h; exact ⟨b, by rw [List.getElem?_take, if_pos (by omega)]; exact e, r⟩
  | .xp i off, _, c, h => by simp only [RepV, AV.cl] at h c ⊢; obtain ⟨h1, b, e, r⟩ := h; exact ⟨c, b, by rw [List.getElem?_take, if_pos (by omega)]; exact e, r⟩
  | .mo i, _, c, h => by simp only [RepV, AV.cl] at h c ⊢; obtain ⟨b, e, r⟩ := h; exact ⟨b, by rw [List.getElem?_take, if_pos (by omega)]; exact e, r⟩
  | .mx i, _, c, h => by simp only [RepV, AV.cl] at h c ⊢; obtain ⟨h1, b, e, r⟩ := h; exact ⟨c, b, by rw [List.getElem?_take, if_pos (by omega)]; exact e, r⟩
  | .bs .., _, c, h => by simp only [RepV, AV.cl] at h c ⊢; obtain ⟨b, e, r⟩ := h; exact ⟨b, by rw [List.getElem?_take, if_pos (by omega)]; exact e, r⟩
  | .xs .., _, c, h => by simp only [RepV, AV.cl] at h c ⊢; obtain ⟨h1, b, e, r⟩ := h; exact ⟨c, b, by rw [List.getElem?_take, if_pos (by omega)]; exact e, r⟩
  | .ep l, _, _, h => by simpa only [RepV] using h
  | .fn f first cap, _, c, h => by
    simp only [RepV, AV.cl] at h c ⊢
    obtain ⟨fs, cs, e, q1, q2⟩ := h
    exact ⟨fs, cs, e, RepL.takeL first _ c.1 q1, RepL.takeL cap _ c.2 q2⟩
  | .ifc t x, _, _, h => by simpa only [RepV] using h
  | .gv .., _, _, h => by simpa only [RepV] using h
theorem RepL.takeL {w : World} {hw : Hw} {bs : List Nat} {base m : Nat} : ∀ (l : List AV) (vs : List Value), clL base m l → RepL w hw bs base l vs → RepL w hw (bs.take (base + m)) base l vs
  | [], _, _, h => by simpa only [RepL] using h
  | x :: xs, _, c, h => by
    simp only [RepL, clL] at h c ⊢
    obtain ⟨v, vs', e, q1, q2⟩ := h
    exact ⟨v, vs', e, ⟨RepV.takeV x _ c.1 q1.1, q1.2⟩, RepL.takeL xs _ c.2 q2⟩
end

mutual
theorem RepV.pfV {w : World} {hw : Hw} {bs : List Nat} {base : Nat} : ∀ (a : AV) (vs : List Value), a.pf = true → RepV w hw bs base a vs → RepV w hw [] 0 a vs
  | .top, _, _, h => by simpa only [RepV] using h
  | .v x, _, _, h => by simpa only [RepV] using h
  | .sl k l, _, _, h => by simpa only [RepV] using h
  | .agg l, vs, c, h => by simp only [RepV, AV.pf] at h c ⊢; exact RepL.pfL' l vs c h
  | .tup _, _, _, h => by simp only [RepV] at h
  | .bp i off, _, c, h => by simp [AV.pf] at c
  | .xp i off, _, c, h => by simp [AV.pf] at c
  | .mo i, _, c, h => by simp [AV.pf] at c
  | .mx i, _, c, h => by simp [AV.pf] at c
  | .bs .., _, c, h => by simp [AV.pf] at c
  | .xs .., _, c, h => by simp [AV.pf] at c
  | .ep l, _, _, h => by simpa only [RepV] using h
  | .fn f first cap, _, c, h => by
    simp only [RepV, AV.pf, Bool.and_eq_true] at h c ⊢
    obtain ⟨fs, cs, e, q1, q2⟩ := h
    exact ⟨fs, cs, e, RepL.pfL' first _ c.1 q1, RepL.pfL' cap _ c.2 q2⟩
  | .ifc t x, _, _, h => by simpa only [RepV] using h
  | .gv .., _, _, h => by simpa only [RepV] using h
theorem RepL.pfL' {w : World} {hw : Hw} {bs : List Nat} {base : Nat} : ∀ (l : List AV) (vs : List Value), pfL l = true → RepL w hw bs base l vs → RepL w hw [] 0 l vs
  | [], _, _, h => by simpa only [RepL] using h
  | x :: xs, _, c, h => by
    simp only [RepL, pfL, Bool.and_eq_true] at h c ⊢
    obtain ⟨v, vs', e, q1, q2⟩ := h
    exact ⟨v, vs', e, ⟨RepV.pfV x _ c.1 q1.1, q1.2⟩, RepL.pfL' xs _ c.2 q2⟩
end

section
variable {w : World} {hw : Hw} {bs : List Nat} {base base' m : Nat}
theorem Rep1.up {a : AV} {y : Value} (h1 : bs.length ≤ base') (h2 : base ≤ base') (h : Rep1 w hw bs base a y) : Rep1 w hw bs base' (a.up base) y := by
  rcases h with rfl | ⟨h, e⟩
  · exact .inl rfl
  · exact .inr ⟨RepV.upV h1 h2 _ _ h, by rw [up_isAgg]; exact e⟩
theorem RepT.up (h1 : bs.length ≤ base') (h2 : base ≤ base') : ∀ (l : List AV) (vs : List Value), RepT w hw bs base l vs → RepT w hw bs base' (l.map (AV.up base)) vs
  | [], _, h => h
  | x :: l, _, h => by
    simp only [RepT, List.map_cons] at h ⊢
    obtain ⟨v, vs', e, q1, q2⟩ := h
    exact ⟨v, vs', e, q1.up h1 h2, RepT.up h1 h2 l _ q2⟩
theorem Rep.up {a : AV} {y : Value} (h1 : bs.length ≤ base') (h2 : base ≤ base') (h : Rep w hw bs base a y) : Rep w hw bs base' (a.up base) y := by
  cases a with
  | tup l => obtain ⟨vs, e, h⟩ := h; exact ⟨vs, e, by have := RepT.up h1 h2 l _ h; rwa [← upL_eq] at this⟩
  | _ => exact Rep1.up h1 h2 h
theorem Rep1.down {a : AV} {y : Value} (c : a.cl base m) (h : Rep1 w hw bs base' (a.up base) y) : Rep1 w hw bs base a y := by
  rcases h with h | ⟨h, e⟩
  · exact .inl (by cases a <;> simp [AV.up] at h ⊢)
  · exact .inr ⟨RepV.downV _ _ c h, by rw [← up_isAgg base]; exact e⟩
theorem RepT.down : ∀ (l : List AV) (vs : List Value), clL base m l → RepT w hw bs base' (upL base l) vs → RepT w hw bs base l vs
  | [], _, _, h => h
  | x :: l, _, c, h => by
    simp only [RepT, upL, clL] at h c ⊢
    obtain ⟨v, vs', e, q1, q2⟩ := h
    exact ⟨v, vs', e, q1.down c.1, RepT.down l _ c.2 q2⟩
theorem Rep.down {a : AV} {y : Value} (c : a.cl base m) (h : Rep w hw bs base' (a.up base) y) : Rep w hw bs base a y := by
  cases a with
  | tup l => obtain ⟨vs, e, h⟩ := h; exact ⟨vs, e, RepT.down l _ (by simpa only [AV.cl] using c) h⟩
  | _ => exact Rep1.down c h
theorem Rep1.pf {a : AV} {y : Value} (hp : a.pf = true) (h : Rep1 w hw bs base a y) : Rep1 w hw [] 0 a y := h.imp id fun ⟨h, e⟩ => ⟨RepV.pfV _ _ hp h, e⟩
theorem RepT.pf : ∀ (l : List AV) (vs : List Value), pfL l = true → RepT w hw bs base l vs → RepT w hw [] 0 l vs
  | [], _, _, h => h
  | x :: l, _, hp, h => by
    simp only [RepT, pfL, Bool.and_eq_true] at h hp ⊢
    obtain ⟨v, vs', e, q1, q2⟩ := h
    exact ⟨v, vs', e, q1.pf hp.1, RepT.pf l _ hp.2 q2⟩
theorem Rep.pf {a : AV} {y : Value} (hp : a.pf = true) (h : Rep w hw bs base a y) : Rep w hw [] 0 a y := by
  cases a with
  | tup l => obtain ⟨vs, e, h⟩ := h; exact ⟨vs, e, RepT.pf l _ (by simpa [AV.pf] using hp) h⟩
  | _ => exact Rep1.pf hp h
end

def Bx.up (base : Nat) : Bx → Bx
  | .cells l os => .cells (upL base l) os
  | .map l => .map l

mutual
theorem up_cl {base : Nat} : ∀ x : AV, x.cl base 0 → x.up base = x
  | .top, _ | .v _, _ | .sl _ _, _ | .ep _, _ | .ifc _ _, _ | .gv _ _, _ | .xp _ _, _ | .mx _, _ | .xs .., _ => rfl
  | .bp _ _, h => by simp only [AV.cl] at h; omega
  | .mo _, h => by simp only [AV.cl] at h; omega
  | .bs .., h => by simp only [AV.cl] at h; omega
  | .agg l, h => by simp only [AV.cl] at h; simp only [AV.up, upL_cl l h]
  | .tup l, h => by simp only [AV.cl] at h; simp only [AV.up, upL_cl l h]
  | .fn f a b, h => by simp only [AV.cl] at h; simp only [AV.up, upL_cl a h.1, upL_cl b h.2]
theorem upL_cl {base : Nat} : ∀ l : List AV, clL base 0 l → upL base l = l
  | [], _ => rfl
  | x :: l, h => by simp only [clL] at h; simp only [upL, up_cl x h.1, upL_cl l h.2]
end
theorem mapUp_cl {base : Nat} : ∀ {l : List Bx}, (∀ x ∈ l, Bx.cl base 0 x) → l.map (Bx.up base) = l
  | [], _ => rfl
  | x :: l, h => by
    rw [List.map_cons, mapUp_cl fun y hy => h y (by simp [hy])]
    have hx := h x (by simp)
    cases x with
    | cells l os => simp only [Bx.cl] at hx; simp only [Bx.up, upL_cl l hx]
    | map l => rfl

/-- No pointers to boxes (seen at once). -/
def pf0 (x : AV) : Bool :=
  match x with
  | .v _ | .sl _ _ | .ep _ | .ifc _ _ | .top => true
  | _ => false
def pf0L : List AV → Bool
  | [] => true
  | x :: xs => match pf0 x with
    | true => pf0L xs
    | false => false
def pfa (x : AV) : Bool :=
  match x with
  | .v _ | .sl _ _ | .ep _ | .ifc _ _ | .top | .gv _ _ => true
  | .agg l => pf0L l
  | .fn _ a b => pf0L a && pf0L b
  | _ => false
def pfaL : List AV → Bool
  | [] => true
  | x :: xs => match pfa x with
    | true => pfaL xs
    | false => false
def pf1 (x : AV) : Bool :=
  match x with
  | .tup l => pfaL l
  | x => pfa x
def pf1L : List AV → Bool
  | [] => true
  | x :: xs => match pf1 x with
    | true => pf1L xs
    | false => false
theorem pf_of0 {x : AV} (h : pf0 x = true) : x.pf = true := by cases x <;> simp_all [pf0, AV.pf]
theorem pfL_of0 : ∀ {l : List AV}, pf0L l = true → pfL l = true
  | [], _ => rfl
  | x :: xs, h => by
    simp only [pf0L] at h
    cases hx : pf0 x with
    | false => rw [hx] at h; cases h
    | true => rw [hx] at h; simp only [pfL, pf_of0 hx, pfL_of0 h, Bool.and_self]
theorem pf_ofa {x : AV} (h : pfa x = true) : x.pf = true := by
  cases x <;> simp only [pfa, AV.pf, Bool.and_eq_true] at * <;> first | exact pfL_of0 h | exact ⟨pfL_of0 h.1, pfL_of0 h.2⟩ | exact h | cases h
theorem pfL_ofa : ∀ {l : List AV}, pfaL l = true → pfL l = true
  | [], _ => rfl
  | x :: xs, h => by
    simp only [pfaL] at h
    cases hx : pfa x with
    | false => rw [hx] at h; cases h
    | true => rw [hx] at h; simp only [pfL, pf_ofa hx, pfL_ofa h, Bool.and_self]
theorem pf_of1 {x : AV} (h : pf1 x = true) : x.pf = true := by
  cases x
  case tup l => simp only [pf1, AV.pf] at *; exact pfL_ofa h
  all_goals exact pf_ofa h
theorem pfL_of1 : ∀ {l : List AV}, pf1L l = true → pfL l = true
  | [], _ => rfl
  | x :: xs, h => by
    simp only [pf1L] at h
    cases hx : pf1 x with
    | false => rw [hx] at h; cases h
    | true => rw [hx] at h; simp only [pfL, pf_of1 hx, pfL_of1 h, Bool.and_self]

def XCalls (P : Program) (f : FuncId) (args : List AV) (env : List Bx) (R : AV → Bool → List Bx → Prop) : Prop :=
  ∀ (w : World) (g : Gh) (vs : List Value), Good w g env env.length → (∀ b i, g.own b ≠ some (.slot i)) → RepT w g.hw g.bs env.length args vs →
    Calls P f vs.toArray w fun e w' => ∃ u g' r ow env', e = .returned u ∧ R r ow env' ∧ env.length ≤ env'.length ∧ Good w' g' env' env'.length ∧ Ext (· = .ext) w g w' g' ∧ Rep w' g'.hw g'.bs env'.length r u ∧
      (ow = true → ∃ k l, r = .sl k l ∧ OwnAt w' g' (.slot 0) k u)

theorem XCalls.mono {P : Program} {f : FuncId} {args : List AV} {env : List Bx} {R R' : AV → Bool → List Bx → Prop} (h : XCalls P f args env R) (hr : ∀ r ow e, R r ow e → R' r ow e) : XCalls P f args env R' :=
  fun w g vs G hs hv => (h w g vs G hs hv).mono fun _ _ ⟨u, g', r, ow, env', h1, h2, h3⟩ => ⟨u, g', r, ow, env', h1, hr _ _ _ h2, h3⟩

def ownOut : Option Loc → Option Loc
  | some (.slot _) => some .ext
  | x => x
def ownBack (d : Nat) (before : Option Loc) : Option Loc → Option Loc
  | some .ext => before
  | some (.slot _) => some (.slot d)
  | x => x

section
variable {n : Nat} {W0 : World} {G0 : Gh} {c : Cfg} {a : Act} {w : World} {g : Gh} {P : Program}

theorem Good.callIn (G : Good w g c.mem c.base) : Good w { g with own := fun b => ownOut (g.own b) } (c.mem.map (Bx.up c.base)) (c.mem.map (Bx.up c.base)).length := by
  have hlen : c.base ≤ c.mem.length := by simp [Cfg.base, Cfg.mem]
  have hbs : g.bs.length ≤ (c.mem.map (Bx.up c.base)).length := by simp [G.len]
  refine ⟨by simp [G.len], G.nd, G.nohw, fun i x b hx hb => ?_, G.hw, fun b L e => ?_, G.glob⟩
  · simp only [List.getElem?_map, Option.map_eq_some_iff] at hx
    obtain ⟨x, hx, rfl⟩ := hx
    have := G.box i x b hx hb
    cases x with
    | cells l os =>
      obtain ⟨cs, e, h1, h2, h3⟩ := this
      refine ⟨cs, e, h1, RepL.upL' hbs (by simpa using hlen) l _ h2, fun j hj => ?_⟩
      obtain ⟨k, l', y, e1, e2, e3⟩ := h3 j hj
      refine ⟨k, l', y, by rw [upL_eq, List.getElem?_map, e1]; rfl, e2, ?_⟩
      obtain ⟨a, n, c', e', hn, h⟩ := e3
      refine ⟨a, n, c', e', hn, h.imp id ?_⟩
      rintro ⟨b, o, h, cs, e, ea, h1, h2, h3, h4, h5⟩
      exact ⟨b, o, h, cs, e, ea, by simp [h1, ownOut], h2, h3, h4, h5⟩
    | map l => exact this
  · cases h : g.own b with
    | none => simp [h, ownOut] at e
    | some L' => exact G.own b L' h

theorem Good.call (G : Good w g c.mem c.base) {f : FuncId} {args : List AV} {vs : List Value} {R : AV → Bool → List Bx → Prop} (hv : RepT w g.hw g.bs c.base args vs)
    (h : XCalls P f (args.map (AV.up c.base)) (c.mem.map (Bx.up c.base)) R) (d : Nat) :
    Calls P f vs.toArray w fun e w' => ∃ u r ow env', e = .returned u ∧ R r ow env' ∧ ∀ r' mem', r = AV.up c.base r' → env' = mem'.map (Bx.up c.base) → r'.cl c.base (mem'.length - c.base) → (∀ x ∈ mem', Bx.cl c.base (mem'.length - c.base) x) →
      ∃ g', Good w' g' mem' c.base ∧ Ext KeepS w g w' g' ∧ Rep w' g'.hw g'.bs c.base r' u ∧ (ow = true → ∃ k l, r' = .sl k l ∧ OwnAt w' g' (.slot d) k u) := by
  have hlen : c.base ≤ c.mem.length := by simp [Cfg.base, Cfg.mem]
  have hbs : g.bs.length ≤ (c.mem.map (Bx.up c.base)).length := by simp [G.len]
  refine (h w _ vs G.callIn (fun b i => by cases h : g.own b with
    | none => simp [h, ownOut]
    | some L => cases L <;> simp [h, ownOut]) (RepT.up hbs (by simpa using hlen) args vs hv)).mono ?_
  rintro e w' ⟨u, g1, r, ow, env', he, hR, hle, G1, E1, hr, how⟩
  refine ⟨u, r, ow, env', he, hR, fun r' mem' hr' hm hrc hcl => ?_⟩
  subst hm hr'
  let g' : Gh := { g1 with own := fun b => ownBack d (g.own b) (g1.own b) }
  have hlen1 : g1.bs.length = mem'.length := by rw [G1.len]; simp
  -- what a place of the caller's owns
  have kept : ∀ b L, g.own b = some L → (∀ i j, L ≠ .cell i j) → g'.own b = some L ∧ g'.hw b = g.hw b ∧ w'.heap[b]? = w.heap[b]? := by
    intro b L hb hL
    have h1 : ownOut (g.own b) = some .ext := by
      rw [hb]
      cases L with
      | slot i => rfl
      | ext => rfl
      | cell i j => exact absurd rfl (hL i j)
    obtain ⟨q1, q2, q3⟩ := E1.ext b .ext h1 rfl
    exact ⟨by show ownBack d (g.own b) (g1.own b) = _; rw [q1]; exact hb, q2, q3⟩
  have cellKept : ∀ b i j, g1.own b = some (.cell i j) → g'.own b = some (.cell i j) := fun b i j h => by
    show ownBack d (g.own b) (g1.own b) = _
    rw [h]; rfl
  have hE : Ext KeepS w g w' g' := by
    refine ⟨E1.size, E1.tape, E1.os, E1.output, E1.hw, fun b L hb hL => kept b L hb hL, E1.bs, E1.bsnew, fun b hb L hL => ?_, fun b hb hnb ho => ?_⟩
    · have hL' : ownBack d (g.own b) (g1.own b) = some L := hL
      cases hg1 : g1.own b with
      | none => rw [hg1] at hL'; cases hL'
      | some L1 =>
        rw [hg1] at hL'
        obtain ⟨L2, q1, q2⟩ := E1.orig b hb L1 hg1
        replace q1 : ownOut (g.own b) = some L2 := q1
        have cellOr : L1 ≠ .ext → ∃ i j, g.own b = some (.cell i j) := fun hne => by
          cases hg : g.own b with
          | none => rw [hg] at q1; cases q1
          | some L3 =>
            rw [hg] at q1
            cases L3 with
            | cell i j => exact ⟨i, j, rfl⟩
            | slot i => simp only [ownOut, Option.some.injEq] at q1; exact absurd (q2 q1.symm ▸ q1.symm) (fun h => hne ((q2 q1.symm).trans q1.symm))
            | ext => simp only [ownOut, Option.some.injEq] at q1; exact absurd ((q2 q1.symm).trans q1.symm) hne
        cases L1 with
        | ext => exact ⟨L, hL', fun _ => rfl⟩
        | slot s =>
          obtain ⟨i, j, hg⟩ := cellOr (by simp)
          exact ⟨_, hg, fun hk => absurd rfl (hk i j)⟩
        | cell i' j' =>
          obtain ⟨i, j, hg⟩ := cellOr (by simp)
          exact ⟨_, hg, fun hk => absurd rfl (hk i j)⟩
    · refine E1.old b hb hnb fun L hL => ?_
      replace hL : ownOut (g.own b) = some L := hL
      cases hg : g.own b with
      | none => rw [hg] at hL; cases hL
      | some L3 =>
        have := ho L3 hg
        rw [hg] at hL
        cases L3 with
        | cell i j => exact absurd rfl (this i j)
        | slot i => simp only [ownOut, Option.some.injEq] at hL; exact hL.symm
        | ext => simp only [ownOut, Option.some.injEq] at hL; exact hL.symm
  have hG : Good w' g' mem' c.base := by
    refine ⟨hlen1, G1.nd, G1.nohw, fun i x b hx hb => ?_, G1.hw, fun b L hL => ?_, G1.glob⟩
    · have := G1.box i (x.up c.base) b (by rw [List.getElem?_map, hx]; rfl) hb
      have hx' := hcl x (List.mem_of_getElem? hx)
      cases x with
      | cells l os =>
        obtain ⟨cs, e, h1, h2, h3⟩ := this
        refine ⟨cs, e, h1, RepL.downL l _ hx' h2, fun j hj => ?_⟩
        obtain ⟨k, l', y, f1, f2, f3⟩ := h3 j hj
        refine ⟨k, l', y, ?_, f2, ?_⟩
        · rw [upL_eq, List.getElem?_map, Option.map_eq_some_iff] at f1
          obtain ⟨z, hz, hz'⟩ := f1
          rw [hz]
          cases z <;> simp [AV.up] at hz' <;> simp [hz']
        · exact f3.mono fun b hb => ⟨cellKept b _ _ hb, rfl, rfl⟩
      | map l => exact this
    · have hL' : ownBack d (g.own b) (g1.own b) = some L := hL
      cases hg1 : g1.own b with
      | none => rw [hg1] at hL'; cases hL'
      | some L1 => exact G1.own b L1 hg1
  refine ⟨g', hG, hE, hr.down hrc, fun how' => ?_⟩
  obtain ⟨k, l, e, ho⟩ := how how'
  refine ⟨k, l, by cases r' <;> simp [AV.up] at e; simp [e], ?_⟩
  obtain ⟨a, n, c', e', hn, h⟩ := ho
  refine ⟨a, n, c', e', hn, h.imp id ?_⟩
  rintro ⟨b, o, h, cs, e, ea, h1, h2, h3, h4, h5⟩
  exact ⟨b, o, h, cs, e, ea, by show ownBack d (g.own b) (g1.own b) = _; rw [h1]; rfl, h2, h3, h4, h5⟩

theorem Inv.call (hi : Inv n W0 G0 c a w g) {f : FuncId} {args : List AV} {vs : List Value} {R : AV → Bool → List Bx → Prop} (hv : RepT w g.hw g.bs c.base args vs)
    (h : XCalls P f (args.map (AV.up c.base)) (c.mem.map (Bx.up c.base)) R) (d : Nat) :
    Calls P f vs.toArray w fun e w' => ∃ u r ow env', e = .returned u ∧ R r ow env' ∧ ∀ r' mem', r = AV.up c.base r' → env' = mem'.map (Bx.up c.base) → r'.cl c.base (mem'.length - c.base) → (∀ x ∈ mem', Bx.cl c.base (mem'.length - c.base) x) →
      ∀ c', c'.fr = c.fr → c'.os = c.os → c'.mem = mem' → c'.base = c.base → (∀ x ∈ c'.env, Bx.cl c.base 0 x) →
      ∃ g', Inv n W0 G0 c' a w' g' ∧ Rep w' g'.hw g'.bs c.base r' u ∧ (ow = true → ∃ k l, r' = .sl k l ∧ OwnAt w' g' (.slot d) k u) := by
  refine (hi.good.call hv h d).mono ?_
  rintro e w' ⟨u, r, ow, env', he, hR, hcont⟩
  refine ⟨u, r, ow, env', he, hR, fun r' mem' hr' hm hrc hcl c' e1 e2 e3 e4 e5 => ?_⟩
  obtain ⟨g', hG, hE, hr, how⟩ := hcont r' mem' hr' hm hrc hcl
  refine ⟨g', ⟨hi.size, hi.defers, fun j hj => ?_, fun j hj => ?_, ?_, hi.ext.trans (hE.weaken (by rintro L rfl; intro i j; simp)), by rw [e4]; exact e5, by rw [e4]; exact hi.b0⟩, hr, how⟩
  · rw [e1, e4]; exact (hi.fr j hj).mono hE.hw hE.bs
  · rw [e2] at hj
    rw [e1]
    obtain ⟨k, l, h1, h2⟩ := hi.os j hj
    exact ⟨k, l, h1, h2.mono fun b hb => hE.ext b _ hb (by intro i j; simp)⟩
  · rw [e3, e4]; exact hG
end
end Go.Ev
end
section
/- Written by this session: a function's contract out of its body's. Conditions: none beyond those in each statement. -/
namespace Go.Ev
open Go

def frOf : Nat → List AV → Fr
  | _, [] => []
  | i, x :: xs => (i, x) :: frOf (i + 1) xs

theorem frOf_get : ∀ (l : List AV) (i j : Nat), Fr.get (frOf i l) j = if i ≤ j then (l[j - i]?).getD .top else .top
  | [], i, j => by simp [frOf, Fr.get]
  | x :: l, i, j => by
    simp only [frOf, Fr.get_cons]
    by_cases h : i = j
    · subst h; simp
    · rw [if_neg h, frOf_get l (i + 1) j]
      by_cases h' : i ≤ j
      · rw [if_pos h', if_pos (by omega), show j - i = (j - (i + 1)) + 1 from by omega]; simp
      · rw [if_neg h', if_neg (by omega)]

def AV.isTup : AV → Bool | .tup _ => true | _ => false
theorem rep1_of {w : World} {hw : Hw} {bs : List Nat} {base : Nat} {x : AV} {y : Value} (hx : x.isTup = false) (h : Rep w hw bs base x y) : Rep1 w hw bs base x y := by
  cases x <;> first | exact h | (cases hx; done)

def retL (P : Program) (n : Nat) (c : Cfg) : List ResultVar → (List AV → Prop) → Prop
  | [], K => K []
  | .tmp t :: r, K => bif Nat.blt t n && !(Fr.get c.fr t).isTup then retL P n c r (fun l => K (Fr.get c.fr t :: l)) else False
  | .cell a t :: r, K => bif Nat.blt a n then loadA P c.env c.own t (Fr.get c.fr a) (fun v => bif v.isTup then False else retL P n c r (fun l => K (v :: l))) else False

def retB (P : Program) (n : Nat) (rs : List ResultVar) (c : Cfg) (K : AV → Bool → Prop) : Prop :=
  match rs with
  | [.tmp t] => bif Nat.blt t n then K (Fr.get c.fr t) (c.os.any (Nat.beq t)) else False
  | [.cell a t] => bif Nat.blt a n then loadA P c.env c.own t (Fr.get c.fr a) (fun v => K v false) else False
  | rs => retL P n c rs fun l => K (.tup l) false

def retA (P : Program) (n : Nat) (rs : List ResultVar) (c : Cfg) (K : AV → Bool → Prop) : Prop := retB P n rs c fun r ow => r.pf = true ∧ K r ow

section
variable {P : Program} {n : Nat} {W0 : World} {G0 : Gh} {c : Cfg} {a : Act} {w : World} {g : Gh}

theorem load_run {t : TypeId} {x : AV} {y : Value} {K : AV → Prop} (hi : Inv n W0 G0 c a w g) (h : loadA P c.env c.own t x K) (hr : Rep w g.hw g.bs c.base x y) :
    ∃ v u, K v ∧ (do loadVar t (← asAddr y) : Sem Value).run P w = .ok u w ∧ Rep w g.hw g.bs c.base v u := by
  obtain ⟨v, hk, hv⟩ := load_sound (ρA := fun _ => x) (x := .func 0) (dst := none) (type := 0) (pos := "") (after := #[]) (guard := none) h
  obtain ⟨u, hu, hrep⟩ := hv (fun _ => y) w g hi.good (fun _ _ => hr)
  refine ⟨v, u, hk, ?_, hrep⟩
  simp only [execOp, Sem.run_bind, Instr.loadAt] at hu
  cases y <;> simp only [Instr.sureAddr, run_stuck, Result.andThen_halt] at hu <;> try (cases hu; done)
  rename_i ad
  cases ad with
  | none => simp at hu
  | some ad =>
    simp only [Sem.run_pure, Result.andThen_ok] at hu
    simp only [asAddr, Sem.run_bind, Sem.run_pure, Result.andThen_ok]
    cases hl : (loadVar t ad).run P w with
    | ok q w' => rw [hl] at hu; simp at hu; simp [hu.1, hu.2]
    | halt q w' => rw [hl] at hu; simp at hu

def resOf (tmps : Array Value) : ResultVar → Sem Value
  | .tmp t => pure (tmps.getD t undef)
  | .cell a t => do loadVar t (← asAddr (tmps.getD a undef))

theorem retL_run (hi : Inv n W0 G0 c a w g) : ∀ (rs : List ResultVar) (K : List AV → Prop), retL P n c rs K → ∃ l us, K l ∧ (rs.mapM (resOf a.tmps)).run P w = .ok us w ∧ us.length = rs.length ∧ RepT w g.hw g.bs c.base l us
  | [], K, h => ⟨[], [], h, by simp, rfl, rfl⟩
  | .tmp t :: rs, K, h => by
    simp only [retL] at h
    cases ht : Nat.blt t n with
    | false => simp [ht] at h
    | true =>
      cases hu : (Fr.get c.fr t).isTup with
      | true => simp [hu] at h
      | false =>
      simp only [ht, hu, Bool.not_false, Bool.and_true, cond_true] at h
      obtain ⟨l, us, h1, h2, hl, h3⟩ := retL_run hi rs _ h
      have hr := hi.fr t (by rw [← Nat.blt_eq]; exact ht)
      refine ⟨_, a.tmps.getD t undef :: us, h1, by simp [List.mapM_cons, resOf, h2], by simp [hl], ?_⟩
      simp only [RepT]
      exact ⟨_, _, rfl, rep1_of hu hr, h3⟩
  | .cell b t :: rs, K, h => by
    simp only [retL] at h
    cases ht : Nat.blt b n with
    | false => simp [ht] at h
    | true =>
      simp only [ht, cond_true] at h
      have hr := hi.fr b (by rw [← Nat.blt_eq]; exact ht)
      obtain ⟨v, u, hk, hu, hrep⟩ := load_run hi h hr
      cases hv : v.isTup with
      | true => simp [hv] at hk
      | false =>
      simp only [hv, cond_false] at hk
      obtain ⟨l, us, h1, h2, hl, h3⟩ := retL_run hi rs _ hk
      refine ⟨_, u :: us, h1, ?_, by simp [hl], ?_⟩
      · simp only [List.mapM_cons, resOf, Sem.run_bind, Sem.run_pure] at hu ⊢
        rw [hu]
        simp [h2]
      · simp only [RepT]
        exact ⟨_, _, rfl, rep1_of hv hrep, h3⟩

theorem results_eq (fn : Func) (tmps : Array Value) : results fn tmps = (do let vs ← fn.results.mapM (resOf tmps); pure (if h : vs.size = 1 then vs[0] else .tuple vs)) := by
  unfold results
  congr 1

def resVal : List Value → Value
  | [u] => u
  | us => .tuple us.toArray
theorem resVal_eq (us : List Value) : (if h : us.toArray.size = 1 then us.toArray[0] else Value.tuple us.toArray) = resVal us := by
  match us with
  | [] => rfl
  | [u] => rfl
  | u :: u' :: us => rw [dif_neg (by simp)]; rfl

theorem results_run {fn : Func} {us : List Value} (h : (fn.results.toList.mapM (resOf a.tmps)).run P w = .ok us w) :
    (results fn a.tmps).run P w = .ok (resVal us) w := by
  rw [results_eq]
  simp only [Array.mapM_eq_mapM_toList, Sem.run_bind, Sem.run_map, h, Result.andThen_ok, Sem.run_pure, resVal_eq]

/-- What comes back, at a function's end. -/
theorem retB_run (hi : Inv n W0 G0 c a w g) {fn : Func} {K : AV → Bool → Prop} (h : retB P n fn.results.toList c K) :
    ∃ r ow u, K r ow ∧ (results fn a.tmps).run P w = .ok u w ∧ Rep w g.hw g.bs c.base r u ∧ (ow = true → ∃ s k l, r = .sl k l ∧ OwnAt w g (.slot s) k u) := by
  unfold retB at h
  split at h
  · rename_i t hrs
    cases ht : Nat.blt t n with
    | false => simp [ht] at h
    | true =>
      simp only [ht, cond_true] at h
      have htn : t < n := by rw [← Nat.blt_eq]; exact ht
      refine ⟨_, _, a.tmps.getD t undef, h, ?_, hi.fr t htn, fun ho => ?_⟩
      · exact results_run (us := [a.tmps.getD t undef]) (by rw [hrs]; simp [resOf])
      · obtain ⟨x, hx, hxt⟩ := List.any_eq_true.1 ho
        have := Nat.eq_of_beq_eq_true hxt
        subst this
        obtain ⟨k, l, h1, h2⟩ := hi.os _ hx
        exact ⟨_, k, l, h1, h2⟩
  · rename_i b t hrs
    cases ht : Nat.blt b n with
    | false => simp [ht] at h
    | true =>
      simp only [ht, cond_true] at h
      obtain ⟨v, u, hk, hu, hrep⟩ := load_run hi h (hi.fr b (by rw [← Nat.blt_eq]; exact ht))
      refine ⟨v, false, u, hk, ?_, hrep, by simp⟩
      exact results_run (us := [u]) (by rw [hrs]; simp only [List.mapM_cons, resOf, Sem.run_bind, Sem.run_pure] at hu ⊢; rw [hu]; simp)
  · rename_i hn1 hn2
    obtain ⟨l, us, h2, h3, hl, h4⟩ := retL_run hi _ _ h
    refine ⟨.tup l, false, .tuple us.toArray, h2, ?_, ⟨us.toArray, rfl, by simpa using h4⟩, by simp⟩
    have := results_run (fn := fn) h3
    have hne : us.length ≠ 1 := by
      rw [hl]
      intro hone
      match hrs : fn.results.toList, hone with
      | [.tmp t], _ => exact hn1 t hrs
      | [.cell b t], _ => exact hn2 b t hrs
    match us, hne with
    | [], _ => exact this
    | _ :: _ :: _, _ => exact this

theorem retA_run (hi : Inv n W0 G0 c a w g) {fn : Func} {K : AV → Bool → Prop} (h : retA P n fn.results.toList c K) :
    ∃ r ow u, K r ow ∧ r.pf = true ∧ (results fn a.tmps).run P w = .ok u w ∧ Rep w g.hw g.bs c.base r u ∧ (ow = true → ∃ s k l, r = .sl k l ∧ OwnAt w g (.slot s) k u) := by
  obtain ⟨r, ow, u, ⟨h1, h2⟩, h3⟩ := retB_run hi h
  exact ⟨r, ow, u, h2, h1, h3⟩

def outOwn (s : Option Nat) : Option Loc → Option Loc
  | some (.slot i) => if some i = s then some (.slot 0) else none
  | x => x

theorem Good.outB (G : Good w g c.mem c.base) (s : Option Nat) :
    let g' : Gh := { g with own := fun b => outOwn s (g.own b) }
    Good w g' (c.mem.map (Bx.up c.base)) (c.mem.map (Bx.up c.base)).length ∧ (∀ W0 G0, Ext (· = .ext) W0 G0 w g → Ext (· = .ext) W0 G0 w g') ∧ (∀ i k y, s = some i → OwnAt w g (.slot i) k y → OwnAt w g' (.slot 0) k y) := by
  have hlen : c.base ≤ c.mem.length := by simp [Cfg.base, Cfg.mem]
  have hbs : g.bs.length ≤ (c.mem.map (Bx.up c.base)).length := by simp [G.len]
  refine ⟨⟨by simp [G.len], G.nd, G.nohw, fun i x b hx hb => ?_, G.hw, fun b L e => ?_, G.glob⟩, fun W0 G0 E => ?_, ?_⟩
  · simp only [List.getElem?_map, Option.map_eq_some_iff] at hx
    obtain ⟨x, hx, rfl⟩ := hx
    have := G.box i x b hx hb
    cases x with
    | cells l os =>
      obtain ⟨cs, e, h1, h2, h3⟩ := this
      refine ⟨cs, e, h1, RepL.upL' hbs (by simpa using hlen) l _ h2, fun j hj => ?_⟩
      obtain ⟨k, l', y, e1, e2, e3⟩ := h3 j hj
      refine ⟨k, l', y, by rw [upL_eq, List.getElem?_map, e1]; rfl, e2, ?_⟩
      exact e3.mono fun b hb => ⟨by simp [hb, outOwn], rfl, rfl⟩
    | map l => exact this
  · cases h : g.own b with
    | none => simp [h, outOwn] at e
    | some L' => exact G.own b L' h
  · refine ⟨E.size, E.tape, E.os, E.output, E.hw, fun b L e hL => ?_, E.bs, E.bsnew, fun b hb L e => ?_, E.old⟩
    · obtain ⟨q1, q2, q3⟩ := E.ext b L e hL
      subst hL
      exact ⟨by simp [q1, outOwn], q2, q3⟩
    · cases h : g.own b with
      | none => simp [h, outOwn] at e
      | some L' =>
        obtain ⟨L'', e', he⟩ := E.orig b hb L' h
        refine ⟨L'', e', fun hk => ?_⟩
        have := he hk
        subst this hk
        simp [h, outOwn] at e
        exact e.symm
  · intro i k y hs h
    obtain ⟨a, n, c, e, hn, h⟩ := h
    refine ⟨a, n, c, e, hn, h.imp id ?_⟩
    rintro ⟨b, o, h, cs, e, ea, h1, h2, h3, h4, h5⟩
    exact ⟨b, o, h, cs, e, ea, by simp [h1, hs, outOwn], h2, h3, h4, h5⟩

theorem Good.out (G : Good w g c.mem c.base) (hcl : ∀ x ∈ c.env, Bx.cl c.base 0 x) (s : Option Nat) :
    let g' : Gh := { bs := g.bs.take c.base, hw := g.hw, own := fun b => match g.own b with
      | some (.slot i) => if some i = s then some (.slot 0) else none
      | some (.cell i j) => if i < c.base then some (.cell i j) else none
      | x => x }
    Good w g' c.env c.base ∧ (∀ W0 G0, G0.bs.length = c.base → Ext (· = .ext) W0 G0 w g → Ext (· = .ext) W0 G0 w g') ∧ (∀ i k y, s = some i → OwnAt w g (.slot i) k y → OwnAt w g' (.slot 0) k y) := by
  have hlen : c.base ≤ g.bs.length := by rw [G.len]; simp [Cfg.base, Cfg.mem]
  have hget : ∀ i (b : Nat), (g.bs.take c.base)[i]? = some b → i < c.base ∧ g.bs[i]? = some b := fun i b h => by
    rw [List.getElem?_take] at h
    split at h
    · exact ⟨by assumption, h⟩
    · cases h
  refine ⟨⟨by simp [Cfg.base] at hlen ⊢; omega, G.nd.sublist (List.take_sublist _ _), fun b hb => G.nohw b (List.mem_of_mem_take hb), fun i x b hx hb => ?_, G.hw, fun b L e => ?_, G.glob⟩, fun W0 G0 hW E => ?_, ?_⟩
  · obtain ⟨hi, hb'⟩ := hget i b hb
    have := G.box i x b (by rw [Cfg.mem, List.getElem?_append_left (by exact hi)]; exact hx) hb'
    have hc := hcl x (List.mem_of_getElem? hx)
    cases x with
    | cells l os =>
      obtain ⟨cs, e, h1, h2, h3⟩ := this
      refine ⟨cs, e, h1, by have := RepL.takeL l _ hc h2; rwa [Nat.add_zero] at this, fun j hj => ?_⟩
      obtain ⟨k, l', y, f1, f2, f3⟩ := h3 j hj
      exact ⟨k, l', y, f1, f2, f3.mono fun b hb => ⟨by simp [hb, hi], rfl, rfl⟩⟩
    | map l => exact this
  · cases h : g.own b with
    | none => simp [h] at e
    | some L' => exact G.own b L' h
  · refine ⟨E.size, E.tape, E.os, E.output, E.hw, fun b L e hL => ?_, fun i b h => ?_, fun b hb => E.bsnew b (List.mem_of_mem_take hb), fun b hb L e => ?_, E.old⟩
    · obtain ⟨q1, q2, q3⟩ := E.ext b L e hL
      subst hL
      exact ⟨by simp [q1], q2, q3⟩
    · have := (List.getElem?_eq_some_iff.1 h).1
      rw [List.getElem?_take, if_pos (by omega)]
      exact E.bs i b h
    · cases h : g.own b with
      | none => simp [h] at e
      | some L' =>
        obtain ⟨L'', e', he⟩ := E.orig b hb L' h
        refine ⟨L'', e', fun hk => ?_⟩
        have := he hk
        subst this hk
        simp [h] at e
        exact e.symm
  · intro i k y hs h
    obtain ⟨a, n, c, e, hn, h⟩ := h
    refine ⟨a, n, c, e, hn, h.imp id ?_⟩
    rintro ⟨b, o, h, cs, e, ea, h1, h2, h3, h4, h5⟩
    exact ⟨b, o, h, cs, e, ea, by simp [h1, hs], h2, h3, h4, h5⟩
end

/-- The frame in which a function's body begins. -/
theorem Inv.start {nt : Nat} {args : List AV} {env : List Bx} {w : World} {g : Gh} {vs : List Value} (ha : args.length ≤ nt) (G : Good w g env env.length) (hv : RepT w g.hw g.bs env.length args vs) :
    Inv nt w g ⟨frOf 0 args, [], [], env⟩ { tmps := vs.toArray ++ Array.replicate (nt - vs.toArray.size) undef, defers := [] } w g := by
  have hlen : ∀ (l : List AV) (us : List Value), RepT w g.hw g.bs env.length l us → us.length = l.length ∧ ∀ (i : Nat) (x : AV), l[i]? = some x → ∃ u, us[i]? = some u ∧ Rep1 w g.hw g.bs env.length x u := by
    intro l
    induction l with
    | nil => intro us h; simp only [RepT] at h; subst h; exact ⟨rfl, fun i x h => by simp at h⟩
    | cons x l ih =>
      intro us h
      simp only [RepT] at h
      obtain ⟨v, vs', rfl, h1, h2⟩ := h
      obtain ⟨q1, q2⟩ := ih _ h2
      refine ⟨by simp [q1], fun i y hy => ?_⟩
      cases i with
      | zero => simp at hy; subst hy; exact ⟨v, rfl, h1⟩
      | succ i => simpa using q2 i y (by simpa using hy)
  obtain ⟨hl, hget⟩ := hlen _ _ hv
  have hcl0 : ∀ x ∈ env, Bx.cl env.length 0 x := by
    intro x hx
    obtain ⟨i, hi, rfl⟩ := List.mem_iff_getElem.1 hx
    have hib : i < g.bs.length := by rw [G.len]; exact hi
    have := G.box i env[i] g.bs[i] (List.getElem?_eq_getElem hi) (List.getElem?_eq_getElem hib)
    cases hx : env[i] with
    | map l => trivial
    | cells l os =>
      rw [hx] at this
      obtain ⟨cs, e, _, h2, _⟩ := this
      have := RepL.toCl _ _ h2
      rw [G.len, Nat.sub_self] at this
      exact this
  refine ⟨?_, rfl, fun i hi => ?_, (fun i hi => by cases hi), by simpa [Cfg.mem, Cfg.base] using G, Ext.refl _ _ _, hcl0, G.len⟩
  · simp; omega
  · rw [frOf_get]
    simp only [Nat.zero_le, if_true, Nat.sub_zero]
    cases hx : args[i]? with
    | none => exact .inl rfl
    | some x =>
      obtain ⟨u, hu, hr⟩ := hget i x hx
      have hi' : i < vs.length := by rw [hl]; exact (List.getElem?_eq_some_iff.1 hx).1
      have : (vs.toArray ++ Array.replicate (nt - vs.toArray.size) undef).getD i undef = u := by
        rw [Array.getD_eq_getD_getElem?, Array.getElem?_append_left (by simpa using hi')]
        simp [hu]
      simp only [Option.getD_some]
      rw [this]
      exact rep_of hr

/-- The contract of a function out of its body's. -/
theorem XCalls.intro {P : Program} {f : FuncId} {fn : Func} {cd : Code} {args : List AV} {env : List Bx} {R : AV → Bool → List Bx → Prop} (hf : P.funcs[f]? = some fn) (hb : fn.body = some cd) (ha : args.length ≤ fn.ntmps)
    (h : XW P fn.ntmps cd (fun e c' => (e = .normal ∨ e = .ret) ∧ c'.env.length = env.length ∧ retA P fn.ntmps fn.results.toList c' (fun r ow => R r ow c'.env)) ⟨frOf 0 args, [], [], env⟩) :
    XCalls P f args env R := by
  intro w g vs G hs hv
  refine calls_of_wp hf hb (wp_mono (h.run w g _ w g (Inv.start ha G hv)) ?_)
  · rintro e a' w' ⟨c', g', ⟨he, hle, hret⟩, hi⟩
    obtain ⟨r, ow, u, hR, hpf, hrun, hrep, how⟩ := retA_run hi hret
    have hcl' := hi.ecl
    have fin : ∃ u g'' r ow env', Ending.returned u = .returned u ∧ R r ow env' ∧ env.length ≤ env'.length ∧ Good w' g'' env' env'.length ∧ Ext (· = .ext) w g w' g'' ∧ Rep w' g''.hw g''.bs env'.length r u ∧
        (ow = true → ∃ k l, r = .sl k l ∧ OwnAt w' g'' (.slot 0) k u) ∧ (results fn a'.tmps).run P w' = .ok u w' := by
      cases ow with
      | false =>
        obtain ⟨G', E', _⟩ := hi.good.out hcl' none
        exact ⟨u, _, r, false, c'.env, rfl, hR, Nat.le_of_eq hle.symm, G', E' w g (by rw [G.len, Cfg.base, hle]) hi.ext, (hrep.pf hpf).lift, by simp, hrun⟩
      | true =>
        obtain ⟨s, k, l, e1, e2⟩ := how rfl
        obtain ⟨G', E', O'⟩ := hi.good.out hcl' (some s)
        exact ⟨u, _, r, true, c'.env, rfl, hR, Nat.le_of_eq hle.symm, G', E' w g (by rw [G.len, Cfg.base, hle]) hi.ext, (hrep.pf hpf).lift, fun _ => ⟨k, l, e1, O' s k u rfl e2⟩, hrun⟩
    obtain ⟨u', g'', r', ow', env', _, q2, q3, q4, q5, q6, q7, q8⟩ := fin
    rcases he with rfl | rfl
    · exact ⟨hi.defers, u', q8, u', g'', r', ow', env', rfl, q2, q3, q4, q5, q6, q7⟩
    · exact ⟨hi.defers, u', q8, u', g'', r', ow', env', rfl, q2, q3, q4, q5, q6, q7⟩

/-- The same, of a function that hands on its boxes. -/
theorem XCalls.introB {P : Program} {f : FuncId} {fn : Func} {cd : Code} {args : List AV} {env : List Bx} {R : AV → Bool → List Bx → Prop} (hf : P.funcs[f]? = some fn) (hb : fn.body = some cd) (ha : args.length ≤ fn.ntmps)
    (h : XW P fn.ntmps cd (fun e c' => (e = .normal ∨ e = .ret) ∧ c'.env.length = env.length ∧ retB P fn.ntmps fn.results.toList c' (fun r ow => R (r.up c'.base) ow (c'.env ++ c'.own.map (Bx.up c'.base)))) ⟨frOf 0 args, [], [], env⟩) :
    XCalls P f args env R := by
  intro w g vs G hs hv
  refine calls_of_wp hf hb (wp_mono (h.run w g _ w g (Inv.start ha G hv)) ?_)
  rintro e a' w' ⟨c', g', ⟨he, hle, hret⟩, hi⟩
  obtain ⟨r, ow, u, hR, hrun, hrep, how⟩ := retB_run hi hret
  have hmem : c'.env ++ c'.own.map (Bx.up c'.base) = c'.mem.map (Bx.up c'.base) := by simp only [Cfg.mem, List.map_append, mapUp_cl hi.ecl]
  rw [hmem] at hR
  have hlen : c'.base ≤ c'.mem.length := by simp [Cfg.base, Cfg.mem]
  have hbs : g'.bs.length ≤ (c'.mem.map (Bx.up c'.base)).length := by simp [hi.good.len]
  have hle' : env.length ≤ (c'.mem.map (Bx.up c'.base)).length := by simp [Cfg.mem, hle]
  have fin : ∃ g'', Good w' g'' (c'.mem.map (Bx.up c'.base)) (c'.mem.map (Bx.up c'.base)).length ∧ Ext (· = .ext) w g w' g'' ∧ Rep w' g''.hw g''.bs (c'.mem.map (Bx.up c'.base)).length (r.up c'.base) u ∧
      (ow = true → ∃ k l, r.up c'.base = .sl k l ∧ OwnAt w' g'' (.slot 0) k u) := by
    cases ow with
    | false =>
      obtain ⟨G', E', _⟩ := hi.good.outB none
      exact ⟨_, G', E' _ _ hi.ext, hrep.up hbs (by simpa using hlen), fun h => by cases h⟩
    | true =>
      obtain ⟨s, k, l, e1, e2⟩ := how rfl
      obtain ⟨G', E', O'⟩ := hi.good.outB (some s)
      exact ⟨_, G', E' _ _ hi.ext, hrep.up hbs (by simpa using hlen), fun _ => ⟨k, l, by rw [e1]; rfl, O' s k u rfl e2⟩⟩
  obtain ⟨g'', q1, q2, q3, q4⟩ := fin
  rcases he with rfl | rfl
  · exact ⟨hi.defers, u, hrun, u, g'', _, ow, _, rfl, hR, hle', q1, q2, q3, q4⟩
  · exact ⟨hi.defers, u, hrun, u, g'', _, ow, _, rfl, hR, hle', q1, q2, q3, q4⟩
end Go.Ev
end
section
/- Written by this session: what is built out of parts, over trees. Conditions: none beyond those in each statement. -/
namespace Go.Ev
open Go

theorem fold_wr : ∀ (vs : List Value) (off j : Nat) (cs : Array Value), off + j + vs.length ≤ cs.size →
    ((vs.zipIdx j).foldl (fun (cs : Array Value) (p : Value × Nat) => cs.setIfInBounds (off + p.2) p.1) cs).toList = wrL cs.toList (off + j) vs
  | [], off, j, cs, h => by simp [wrL]
  | v :: vs, off, j, cs, h => by
    simp only [List.length_cons] at h
    simp only [List.zipIdx_cons, List.foldl_cons]
    rw [show off + j = off + j from rfl, fold_wr vs off (j + 1) (cs.setIfInBounds (off + j) v) (by simp; omega)]
    simp only [wrL, Array.toList_setIfInBounds]
    apply List.ext_getElem?
    intro i
    have hl : (cs.toList).length = cs.size := by simp
    simp only [List.append_assoc, List.cons_append]
    rcases Nat.lt_trichotomy i (off + j) with hi | hi | hi
    · rw [List.getElem?_append_left (by simp; omega), List.getElem?_append_left (by simp; omega)]
      rw [List.getElem?_take, List.getElem?_take, if_pos (by omega), if_pos hi, List.getElem?_set_ne (by omega)]
    · subst hi
      rw [List.getElem?_append_left (by simp; omega), List.getElem?_take, if_pos (by omega), List.getElem?_set_self (by omega)]
      rw [List.getElem?_append_right (by simp; omega)]
      simp [show min (off + j) cs.size = off + j from by omega]
    · have h1 : (List.take (off + (j + 1)) (cs.toList.set (off + j) v)).length = off + (j + 1) := by simp; omega
      have h2 : (List.take (off + j) cs.toList).length = off + j := by simp; omega
      rw [List.getElem?_append_right (l₁ := List.take (off + (j + 1)) (cs.toList.set (off + j) v)) (by rw [h1]; omega), h1, List.getElem?_append_right (l₁ := List.take (off + j) cs.toList) (by rw [h2]; omega), h2]
      obtain ⟨q, rfl⟩ : ∃ q, i = off + j + 1 + q := ⟨i - (off + j + 1), by omega⟩
      rw [show off + j + 1 + q - (off + (j + 1)) = q from by omega, show off + j + 1 + q - (off + j) = q + 1 from by omega, List.getElem?_cons_succ]
      rcases Nat.lt_or_ge q vs.length with hq | hq
      · rw [List.getElem?_append_left hq, List.getElem?_append_left hq]
      · rw [List.getElem?_append_right hq, List.getElem?_append_right hq, List.getElem?_drop, List.getElem?_drop, List.getElem?_set_ne (by simp; omega)]
        congr 1
        simp only [List.length_cons]
        omega

theorem fill_one {place : Nat → Option (Nat × Nat)} {cells : Array Value} {i off size : Nat} {v : Value} {rest : List (Nat × Value)} (hp : place i = some (off, size)) (hs : v.cells.size = size) (hf : off + v.cells.size ≤ cells.size) :
    ∃ cells' : Array Value, cells'.toList = wrL cells.toList off v.cells.toList ∧ Instr.fill place cells ((i, v) :: rest) = Instr.fill place cells' rest := by
  refine ⟨(v.cells.zipIdx.foldl (fun cs (c, j) => cs.setIfInBounds (off + j) c) cells), ?_, ?_⟩
  · rw [← Array.foldl_toList]
    have := fold_wr v.cells.toList off 0 cells (by simpa using hf)
    simp only [Nat.add_zero] at this
    rw [← this]
    simp [Array.toList_zipIdx]
  · simp only [Instr.fill, hp]
    rw [if_neg]
    simp; omega

/-- Parts laid one behind the other. -/
theorem fill_row {k : Nat} (hk : 0 < k) : ∀ (vs : List Value) (i : Nat) (cells : Array Value) (pre : List Value), (∀ v ∈ vs, v.cells.size = k) → cells.toList.take (i * k) = pre → cells.size = (i + vs.length) * k →
    ∃ cells' : Array Value, Instr.fill (fun i => some (i * k, k)) cells ((vs.zipIdx i).map fun (v, j) => (j, v)) = some cells' ∧ cells'.toList = pre ++ vs.flatMap fun v => v.cells.toList
  | [], i, cells, pre, _, hpre, hsz => ⟨cells, by simp [Instr.fill], by
      simp only [List.length_nil, Nat.add_zero] at hsz
      rw [← hpre, List.take_of_length_le (by simp; omega)]; simp⟩
  | v :: vs, i, cells, pre, hv, hpre, hsz => by
    have hv0 := hv v (by simp)
    have hmul : (i + (vs.length + 1)) * k = i * k + k + vs.length * k := by rw [Nat.add_mul, Nat.add_mul]; omega
    simp only [List.length_cons] at hsz
    rw [hmul] at hsz
    obtain ⟨c1, h1, h2⟩ := fill_one (place := fun i => some (i * k, k)) (cells := cells) (i := i) (rest := (vs.zipIdx (i + 1)).map fun (v, j) => (j, v)) rfl hv0 (by omega)
    have hvl : v.cells.toList.length = k := by simpa using hv0
    have htl : (cells.toList.take (i * k)).length = i * k := by simp; omega
    obtain ⟨c2, h3, h4⟩ := fill_row hk vs (i + 1) c1 (pre ++ v.cells.toList) (fun x hx => hv x (by simp [hx])) (by
      rw [h1, ← hpre]
      simp only [wrL]
      rw [List.take_append_of_le_length (by rw [List.length_append, htl, hvl, Nat.succ_mul]; omega)]
      rw [List.take_of_length_le (by rw [List.length_append, htl, hvl, Nat.succ_mul]; omega)]) (by
      have : c1.size = cells.size := by
        have := congrArg List.length h1
        simp only [wrL, List.length_append, htl, hvl, List.length_drop, Array.length_toList] at this
        omega
      rw [this, hsz, show i + 1 + vs.length = i + (vs.length + 1) from by omega, hmul])
    refine ⟨c2, ?_, ?_⟩
    · simp only [List.zipIdx_cons, List.map_cons]
      rw [h2]; exact h3
    · rw [h4]; simp
end Go.Ev
end
section
/- Written by this session: the steps of a region, over trees. Conditions: none beyond those in each statement. -/
namespace Go.Ev
open Go

def dstOk (n : Nat) : Option Tmp → Bool
  | some d => Nat.blt d n
  | none => true

def XStep (P : Program) (n : Nat) (o : Oper) (c : Cfg) (K : Cfg → Prop) : Prop :=
  ∀ W0 G0 a w g, Inv n W0 G0 c a w g → ∀ (next : Act → World → Prop) (Q : Exit → Act → World → Prop), (∀ c' a' w' g', K c' → Inv n W0 G0 c' a' w' g' → next a' w') → o.wp P a w next Q

def opsOk (n : Nat) (o : Oper) : Bool := o.op.operands.toList.all (okTmp n) && dstOk n o.dst

theorem opsOk_dst {n : Nat} {o : Oper} (h : opsOk n o = true) : ∀ x, o.dst = some x → x < n := fun x e => by
  simp only [opsOk, Bool.and_eq_true, e, dstOk] at h
  rw [← Nat.blt_eq]; exact h.2
theorem opsOk_mem {n : Nat} {o : Oper} (h : opsOk n o = true) {x : Operand} (hx : x ∈ o.op.operands) : okTmp n x = true := by
  simp only [opsOk, Bool.and_eq_true, List.all_eq_true] at h
  exact h.1 x (by simpa using hx)

section
variable {P : Program} {n : Nat} {o : Oper} {c : Cfg} {K : Cfg → Prop}

theorem XStep.pure (ho : opsOk n o = true) (h : pureA P c.env c.own (evA c) o fun v => K (c.put o.dst v)) : XStep P n o c K := by
  intro W0 G0 a w g hi next Q hn
  obtain ⟨v, hk, hv⟩ := pureA_sound h
  obtain ⟨u, hu, hr⟩ := hv a.eval w g hi.good fun x hx => hi.eval (opsOk_mem ho hx)
  unfold Oper.wp
  rw [hu]
  exact hn _ _ _ g hk (hi.putO (opsOk_dst ho) hr)

/-- An assignment that hands on the right to append. -/
theorem XStep.give {s d : Nat} {type : TypeId} {pos : String} {after : Array Edge} {guard : Option (Nat × Bool)} {op : Op} (hop : op = .assign (.tmp s) ∨ op = .move (.tmp s)) (hs : s ∈ c.os) (hsn : s < n) (hd : d < n) (h : K (c.give s d)) :
    XStep P n ⟨some d, op, type, pos, after, guard⟩ c K := by
  intro W0 G0 a w g hi next Q hn
  have hrun : (execOp a.eval ⟨some d, op, type, pos, after, guard⟩).run P w = .ok (.value (a.tmps.getD s undef)) w := by
    rcases hop with rfl | rfl <;> simp [execOp, Act.eval]
  unfold Oper.wp
  rw [hrun]
  obtain ⟨g', hi'⟩ := hi.give hs hd hsn
  exact hn _ _ _ g' h hi'

def leavesOk (x : AV) : Bool := x.isAgg || x.isLeaf
theorem leavesOk_or {x : AV} (h : leavesOk x = true) : x.isAgg = true ∨ x.isLeaf = true := by simpa [leavesOk] using h

theorem XStep.box {e : TypeId} {x : Operand} {d : Nat} {type : TypeId} {pos : String} {after : Array Edge} {guard : Option (Nat × Bool)} (ho : opsOk n ⟨some d, .box e x, type, pos, after, guard⟩ = true) (hx : leavesOk (evA c x) = true)
    (h : K (({ c with own := c.own ++ [.cells (evA c x).leaves []] } : Cfg).put (some d) (.bp c.own.length 0))) : XStep P n ⟨some d, .box e x, type, pos, after, guard⟩ c K := by
  intro W0 G0 a w g hi next Q hn
  obtain ⟨hc, _⟩ := rep_cells (leavesOk_or hx) (hi.eval (opsOk_mem ho (by simp [Op.operands] : x ∈ _)))
  obtain ⟨g', hi', hb⟩ := hi.newBox (e := e) hc
  unfold Oper.wp
  have hrun : (execOp a.eval ⟨some d, .box e x, type, pos, after, guard⟩).run P w = .ok (.value (.pointer (some ⟨w.heap.size, 0, none⟩))) (push w (.cells (a.eval x).cells e)) := by
    simp [execOp, Instr.box, newVar, newRow, push]
  rw [hrun]
  exact hn _ _ _ g' h (hi'.put (opsOk_dst ho d rfl) (rep_bp_mk hb))

theorem XStep.alloc {e : TypeId} {d : Nat} {i : TypeInfo} {z : Value} {type : TypeId} {pos : String} {after : Array Edge} {guard : Option (Nat × Bool)} (hd : d < n) (hi0 : P.info? e = some i) (hz : i.zero = some z) (hok : okTmp n (.const z) = true) (hx : leavesOk (cst z) = true)
    (h : K (({ c with own := c.own ++ [.cells (cst z).leaves []] } : Cfg).put (some d) (.bp c.own.length 0))) : XStep P n ⟨some d, .alloc e, type, pos, after, guard⟩ c K := by
  intro W0 G0 a w g hi next Q hn
  obtain ⟨hc, _⟩ := rep_cells (leavesOk_or hx) (cst_rep (hw := g.hw) (bs := g.bs) (base := c.base) (w := w) z hok)
  obtain ⟨g', hi', hb⟩ := hi.newBox (e := e) hc
  unfold Oper.wp
  have hrun : (execOp a.eval ⟨some d, .alloc e, type, pos, after, guard⟩).run P w = .ok (.value (.pointer (some ⟨w.heap.size, 0, none⟩))) (push w (.cells z.cells e)) := by
    simp [execOp, Instr.alloc, zeroValue, typeInfo, hi0, hz, newVar, newRow, push]
  rw [hrun]
  exact hn _ _ _ g' h (hi'.put hd (rep_bp_mk hb))

theorem XStep.store {t : TypeId} {p x : Operand} {i off : Nat} {l : List AV} {os : List Nat} {dst : Option Tmp} {type : TypeId} {pos : String} {after : Array Edge} {guard : Option (Nat × Bool)} (ho : opsOk n ⟨dst, .store t p x, type, pos, after, guard⟩ = true)
    (hp : evA c p = .bp i off) (hbox : c.own[i]? = some (.cells l os)) (ht : (P.underlying t).isSome = true) (hx : leavesOk (evA c x) = true) (hsz : (evA c x).leaves.length = P.cellsOf t) (hfit : off + (evA c x).leaves.length ≤ l.length)
    (h : K (({ c with own := c.own.set i (.cells (wrL l off (evA c x).leaves) (os.filter fun j => decide (j < off ∨ off + (evA c x).leaves.length ≤ j))) } : Cfg).put dst (.v undef))) : XStep P n ⟨dst, .store t p x, type, pos, after, guard⟩ c K := by
  intro W0 G0 a w g hi next Q hn
  have hm1 : p ∈ (Op.store t p x).operands := by simp [Op.operands]
  have hm2 : x ∈ (Op.store t p x).operands := by simp [Op.operands]
  obtain ⟨b, hb, ep⟩ := rep_bp (hp ▸ hi.eval (opsOk_mem ho hm1))
  obtain ⟨w', hrun, hi', _⟩ := hi.store ht (leavesOk_or hx) hb hbox (hi.eval (opsOk_mem ho hm2)) hsz hfit
  unfold Oper.wp
  have hrun' : (execOp a.eval ⟨dst, .store t p x, type, pos, after, guard⟩).run P w = .ok .skip w' := by
    simp [execOp, Instr.storeAt, ep, Instr.sureAddr, hrun]
  rw [hrun']
  exact hn _ _ _ g h (hi'.putO (opsOk_dst ho) (rep_v_mk rfl))

/-- A store that hands on the right to append. -/
theorem XStep.storeOwn {t : TypeId} {p : Operand} {s i off k : Nat} {l l' : List AV} {os : List Nat} {dst : Option Tmp} {type : TypeId} {pos : String} {after : Array Edge} {guard : Option (Nat × Bool)} (ho : opsOk n ⟨dst, .store t p (.tmp s), type, pos, after, guard⟩ = true)
    (hp : evA c p = .bp i off) (hbox : c.own[i]? = some (.cells l os)) (ht : (P.underlying t).isSome = true) (hs : s ∈ c.os) (hx : Fr.get c.fr s = .sl k l') (hsz : 1 = P.cellsOf t) (hfit : off + 1 ≤ l.length)
    (h : K (({ c with os := c.os.filter (fun i => !Nat.beq i s), own := c.own.set i (.cells (wrL l off [.sl k l']) (off :: os.filter fun j => decide (j < off ∨ off + 1 ≤ j))) } : Cfg).put dst (.v undef))) : XStep P n ⟨dst, .store t p (.tmp s), type, pos, after, guard⟩ c K := by
  intro W0 G0 a w g hi next Q hn
  have hm1 : p ∈ (Op.store t p (.tmp s)).operands := by simp [Op.operands]
  have hm2 : (Operand.tmp s) ∈ (Op.store t p (.tmp s)).operands := by simp [Op.operands]
  have hev : evA c (.tmp s) = .sl k l' := hx
  obtain ⟨b, hb, ep⟩ := rep_bp (hp ▸ hi.eval (opsOk_mem ho hm1))
  obtain ⟨G', E', O1, O2⟩ := hi.good.relabel (s := s) (d := .cell (c.base + i) off)
  have hi1 : Inv n W0 G0 { c with os := c.os.filter (fun i => !Nat.beq i s) } a w { g with own := fun b => (g.own b).map (moved (.slot s) (.cell (c.base + i) off)) } :=
    ⟨hi.size, hi.defers, hi.fr, fun j hj => by
      have hj' := List.mem_filter.1 hj
      have hne : j ≠ s := by rintro rfl; simp at hj'
      obtain ⟨k, l, h1, h2⟩ := hi.os j hj'.1
      exact ⟨k, l, h1, O1 _ k _ (by simp [hne]) h2⟩, G', E' _ _ hi.ext, hi.ecl, hi.b0⟩
  obtain ⟨k', l'', e1, e2⟩ := hi.os s hs
  rw [hx] at e1
  cases e1
  have hrs := hi.eval (opsOk_mem ho hm2)
  rw [hev] at hrs
  obtain ⟨w', hrun, _, hi'⟩ := hi1.store (x := .sl k l') (y := a.eval (.tmp s)) ht (.inr rfl) hb hbox hrs hsz hfit
  unfold Oper.wp
  have hrun' : (execOp a.eval ⟨dst, .store t p (.tmp s), type, pos, after, guard⟩).run P w = .ok .skip w' := by
    simp [execOp, Instr.storeAt, ep, Instr.sureAddr, hrun]
  rw [hrun']
  exact hn _ _ _ _ h ((hi' k (O2 k _ e2) ⟨l', rfl⟩).putO (opsOk_dst ho) (rep_v_mk rfl))

def Cfg.putOwn (c : Cfg) (d : Nat) (v : AV) : Cfg := { c with fr := (d, v) :: c.fr, os := d :: c.os.filter fun i => !Nat.beq i d }
theorem Inv.putOwn {W0 : World} {G0 : Gh} {a : Act} {w : World} {g : Gh} (hi : Inv n W0 G0 c a w g) {d : Nat} (hd : d < n) {k : Nat} {l : List AV} {u : Value} (hr : Rep w g.hw g.bs c.base (.sl k l) u) (ho : OwnAt w g (.slot d) k u) :
    Inv n W0 G0 (c.putOwn d (.sl k l)) (a.put (some d) u) w g := by
  have h1 := hi.put hd hr
  refine ⟨h1.size, h1.defers, h1.fr, fun i hm => ?_, h1.good, h1.ext, h1.ecl, h1.b0⟩
  rcases List.mem_cons.1 hm with rfl | hm
  · refine ⟨k, l, by simp [Cfg.putOwn, Fr.get_cons], ?_⟩
    rw [getD_put (by rw [hi.size]; exact hd), if_pos rfl]
    exact ho
  · exact h1.os i hm

/-- A slice that may be nil. -/
def asSl (k : Nat) : AV → Option (List AV)
  | .sl k' l => bif Nat.beq k k' then some l else none
  | .v (.slice none 0 0) => some []
  | _ => none
theorem asSl_rep {w : World} {hw : Hw} {bs : List Nat} {base k : Nat} {x : AV} {l : List AV} {y : Value} (hk : 0 < k) (h : asSl k x = some l) (hr : Rep w hw bs base x y) : Rep w hw bs base (.sl k l) y := by
  unfold asSl at h
  split at h
  · rename_i k' l'
    cases hb : Nat.beq k k' with
    | false => rw [hb] at h; cases h
    | true =>
      have := Nat.eq_of_beq_eq_true hb
      subst this
      simp at h
      subst h
      exact hr
  · simp at h; subst h
    obtain ⟨rfl, _⟩ := rep_v hr
    exact rep_sl_mk rfl (Nat.le_refl _) ⟨hk, by simp⟩ (.inl rfl)
  · cases h

theorem XStep.append {t t' e e' : TypeId} {i : TypeInfo} {z : Value} {x0 x1 : Operand} {d k : Nat} {l0 l1 : List AV} {type : TypeId} {pos : String} {after : Array Edge} {guard : Option (Nat × Bool)}
    (ho : opsOk n ⟨some d, .call ⟨.builtin .append, #[x0, x1], #[t, t']⟩, type, pos, after, guard⟩ = true)
    (ht : P.underlying t = some (.slice e)) (ht' : P.underlying t' = some (.slice e')) (hin : P.info? e = some i) (hz : i.zero = some z) (hk : i.size = k) (hk0 : 0 < k) (hzk : z.cells.size = k)
    (h0 : asSl k (evA c x0) = some l0) (h1 : asSl k (evA c x1) = some l1) (s : Nat) (hown : (x0 = .tmp s ∧ s ∈ c.os) ∨ evA c x0 = .v (.slice none 0 0))
    (hb : (l0.length + l1.length) * i.bytes ≤ 140737488355328) (h63 : l0.length + l1.length ≤ 140737488355328)
    (h : K (({ c with os := c.os.filter fun i => !Nat.beq i s } : Cfg).putOwn d (.sl k (l0 ++ l1)))) :
    XStep P n ⟨some d, .call ⟨.builtin .append, #[x0, x1], #[t, t']⟩, type, pos, after, guard⟩ c K := by
  intro W0 G0 a w g hi next Q hn
  have hm0 : x0 ∈ (Op.call ⟨.builtin .append, #[x0, x1], #[t, t']⟩).operands := by simp [Op.operands, Call.operands]
  have hm1 : x1 ∈ (Op.call ⟨.builtin .append, #[x0, x1], #[t, t']⟩).operands := by simp [Op.operands, Call.operands]
  have hr0 := hi.eval (opsOk_mem ho hm0)
  have hr1 := asSl_rep hk0 h1 (hi.eval (opsOk_mem ho hm1))
  have hO : OwnAt w g (.slot s) k (a.eval x0) := by
    rcases hown with ⟨rfl, hs⟩ | hnil
    · obtain ⟨k', l', e1, e2⟩ := hi.os s hs
      have : evA c (.tmp s) = .sl k' l' := e1
      rw [this] at h0
      simp only [asSl] at h0
      cases hb : Nat.beq k k' with
      | false => simp [hb] at h0
      | true =>
        have := Nat.eq_of_beq_eq_true hb
        subst this
        exact e2
    · rw [hnil] at hr0
      obtain ⟨e, _⟩ := rep_v hr0
      rw [e]
      exact ⟨_, _, _, rfl, Nat.le_refl _, .inl rfl⟩
  obtain ⟨v', w', g', hrun, hi', hR, hO'⟩ := hi.append (ty := type) (d := d) ht ht' hin hz hk hzk (asSl_rep hk0 h0 hr0) hO hr1 hb h63
  unfold Oper.wp
  have hrun' : (execOp a.eval ⟨some d, .call ⟨.builtin .append, #[x0, x1], #[t, t']⟩, type, pos, after, guard⟩).run P w = .ok (.value v') w' := by
    simp [execOp, resolve, invoke, builtin, hrun]
  rw [hrun']
  exact hn _ _ _ g' h (hi'.putOwn (opsOk_dst ho d rfl) hR hO')
end
end Go.Ev
end
section
/- Written by this session: calls, and what is built, as steps of a region. Conditions: none beyond those in each statement. -/
namespace Go.Ev
open Go

def Callable (P : Program) (f : FuncId) : Prop := ∃ fn, P.funcs[f]? = some fn ∧ fn.body.isSome = true ∧ (fn.name == "runtime.NumGoroutine") = false

/-- A function that answers so, whatever memory is, and leaves it as it is. -/
def XPure (P : Program) (f : FuncId) (args : List AV) (r : AV) (ow : Bool) : Prop :=
  Callable P f ∧ r.pf = true ∧ ∀ env, XCalls P f args env fun r' ow' env' => r' = r ∧ ow' = ow ∧ env' = env

mutual
theorem up_pf (base : Nat) : ∀ x : AV, x.pf = true → x.up base = x
  | .top, _ => rfl
  | .v _, _ => rfl
  | .sl _ _, _ => rfl
  | .agg l, h => by simp only [AV.pf] at h; simp only [AV.up, upL_pf base l h]
  | .tup l, h => by simp only [AV.pf] at h; simp only [AV.up, upL_pf base l h]
  | .bp _ _, h => by simp [AV.pf] at h
  | .xp _ _, h => by simp [AV.pf] at h
  | .mo _, h => by simp [AV.pf] at h
  | .mx _, h => by simp [AV.pf] at h
  | .bs .., h => by simp [AV.pf] at h
  | .xs .., h => by simp [AV.pf] at h
  | .ep _, _ => rfl
  | .fn f a b, h => by simp only [AV.pf, Bool.and_eq_true] at h; simp only [AV.up, upL_pf base a h.1, upL_pf base b h.2]
  | .ifc _ _, _ => rfl
  | .gv _ _, _ => rfl
theorem upL_pf (base : Nat) : ∀ l : List AV, pfL l = true → upL base l = l
  | [], _ => rfl
  | x :: l, h => by simp only [pfL, Bool.and_eq_true] at h; simp only [upL, up_pf base x h.1, upL_pf base l h.2]
end

section
variable {P : Program} {n : Nat} {c : Cfg} {K : Cfg → Prop}

theorem run_callFunc {f : FuncId} (hf : Callable P f) (args : Array Value) (w : World) : (callFunc f args).run P w = .ok (.enter f args) w := by
  obtain ⟨fn, h1, h2, h3⟩ := hf
  have h4 : fn.body.isNone = false := by cases h : fn.body <;> simp_all
  simp only [callFunc, Sem.run_bind, run_program, Result.andThen_ok, h1, h3, h4, Bool.false_eq_true, if_false, Sem.run_pure]

/-- The operands of a call, as trees and as values. -/
theorem argsRep {W0 : World} {G0 : Gh} {a : Act} {w : World} {g : Gh} (hi : Inv n W0 G0 c a w g) : ∀ (l : List Operand), (∀ x ∈ l, okTmp n x = true) → (l.all fun x => !(evA c x).isTup) = true → RepT w g.hw g.bs c.base (l.map (evA c)) (l.map a.eval)
  | [], _, _ => rfl
  | x :: l, h, ht => by
    simp only [List.all_cons, Bool.and_eq_true, Bool.not_eq_true'] at ht
    simp only [List.map_cons, RepT]
    exact ⟨_, _, rfl, rep1_of ht.1 (hi.eval (h x (by simp))), argsRep hi l (fun y hy => h y (by simp [hy])) ht.2⟩

/-- Behind a call. -/
def Cfg.after (c : Cfg) (d : Option Nat) (r : AV) (ow : Bool) : Cfg :=
  match d, ow with
  | some d, true => c.putOwn d r
  | d, _ => c.put d r

theorem Inv.after {W0 : World} {G0 : Gh} {a : Act} {w : World} {g : Gh} (hi : Inv n W0 G0 c a w g) {d : Option Nat} (hd : ∀ x, d = some x → x < n) {r : AV} {ow : Bool} {u : Value} (hr : Rep w g.hw g.bs c.base r u)
    (ho : ow = true → ∃ k l, r = .sl k l ∧ OwnAt w g (.slot (d.getD 0)) k u) : Inv n W0 G0 (c.after d r ow) (a.put d u) w g := by
  cases d with
  | none => cases ow <;> exact hi.putO hd hr
  | some d =>
    cases ow with
    | false => exact hi.putO hd hr
    | true =>
      obtain ⟨k, l, rfl, h⟩ := ho rfl
      exact hi.putOwn (hd d rfl) hr h

def isPtrD : TypeDesc → Bool
  | .pointer _ => true
  | _ => false

/-- The target of a call, and what is handed in ahead of the arguments and behind them. -/
def targetA (P : Program) (c : Cfg) (n : Nat) : Callee → Option (FuncId × List AV × List AV)
  | .value (.func f) => some (f, [], [])
  | .value (.tmp t) => bif Nat.blt t n then (match Fr.get c.fr t with
    | .fn (.func f) a b => some (f, a, b)
    | _ => none) else none
  | .invoke recv name => bif okTmp n recv then (match evA c recv with
    | .ifc t x => (match P.info? t, P.underlying t with
      | some i, some d => (match i.methods.find? (·.name == name) with
        | some m => (match m.path.isEmpty, m.func with
          | true, some (f, p) => bif Bool.xor p (isPtrD d) || x.isTup then none else some (f, [x], [])
          | _, _ => none)
        | none => none)
      | _, _ => none)
    | _ => none) else none
  | _ => none

mutual
theorem cl_pf {base m : Nat} : ∀ x : AV, x.pf = true → x.cl base m
  | .top, _ | .v _, _ | .sl _ _, _ | .ep _, _ | .gv _ _, _ | .ifc _ _, _ => by simp only [AV.cl]
  | .bp _ _, h | .xp _ _, h | .mo _, h | .mx _, h | .bs .., h | .xs .., h => by simp [AV.pf] at h
  | .agg l, h => by simp only [AV.pf] at h; simp only [AV.cl]; exact clL_pf l h
  | .tup l, h => by simp only [AV.pf] at h; simp only [AV.cl]; exact clL_pf l h
  | .fn f a b, h => by simp only [AV.pf, Bool.and_eq_true] at h; simp only [AV.cl]; exact ⟨clL_pf a h.1, clL_pf b h.2⟩
theorem clL_pf {base m : Nat} : ∀ l : List AV, pfL l = true → clL base m l
  | [], _ => by simp only [clL]
  | x :: l, h => by simp only [pfL, Bool.and_eq_true] at h; simp only [clL]; exact ⟨cl_pf x h.1, clL_pf l h.2⟩
end

theorem clMem {W0 : World} {G0 : Gh} {a : Act} {w : World} {g : Gh} (hi : Inv n W0 G0 c a w g) : ∀ x ∈ c.mem, Bx.cl c.base (c.mem.length - c.base) x := by
  intro x hx
  obtain ⟨i, hi', rfl⟩ := List.mem_iff_getElem.1 hx
  have hib : i < g.bs.length := by rw [hi.good.len]; exact hi'
  have := hi.good.box i c.mem[i] g.bs[i] (List.getElem?_eq_getElem hi') (List.getElem?_eq_getElem hib)
  cases hx : c.mem[i] with
  | map l => trivial
  | cells l os =>
    rw [hx] at this
    obtain ⟨cs, e, _, h2, _⟩ := this
    have := RepL.toCl _ _ h2
    rw [hi.good.len] at this
    exact this

theorem RepT_append {w : World} {hw : Hw} {bs : List Nat} {base : Nat} : ∀ {l1 l2 : List AV} {v1 v2 : List Value}, RepT w hw bs base l1 v1 → RepT w hw bs base l2 v2 → RepT w hw bs base (l1 ++ l2) (v1 ++ v2)
  | [], _, _, _, h1, h2 => by simp only [RepT] at h1; subst h1; simpa using h2
  | x :: l1, l2, _, v2, h1, h2 => by
    simp only [RepT] at h1
    obtain ⟨v, vs', rfl, h3, h4⟩ := h1
    simp only [List.cons_append, RepT]
    exact ⟨v, _, rfl, h3, RepT_append h4 h2⟩
theorem RepT_of_RepL {w : World} {hw : Hw} {bs : List Nat} {base : Nat} : ∀ {l : List AV} {vs : List Value}, RepL w hw bs base l vs → RepT w hw bs base l vs
  | [], _, h => by simpa only [RepL, RepT] using h
  | x :: l, _, h => by
    simp only [RepL] at h
    obtain ⟨v, vs', rfl, h3, h4⟩ := h
    simp only [RepT]
    exact ⟨v, _, rfl, .inr ⟨by rw [cells_toList_of (visAgg_of h3.2.2)]; exact h3.1, by rw [visAgg_of h3.2.2, h3.2.1]⟩, RepT_of_RepL h4⟩

theorem run_method {t : TypeId} {i : TypeInfo} {m : Method} {f : FuncId} {p : Bool} {d : TypeDesc} {name : String} (hi : P.info? t = some i) (hd : P.underlying t = some d) (hm : i.methods.find? (·.name == name) = some m) (hp : m.path.isEmpty = true) (hf : m.func = some (f, p))
    (hx : Bool.xor p (isPtrD d) = false) (v : Value) (w : World) : (method (P.types.size + Made.depth) t v name).run P w = .ok (f, v) w := by
  have hpl : m.path.toList = [] := by simpa using hp
  rw [show P.types.size + Made.depth = (P.types.size + 99) + 1 from rfl]
  have hr : (receiverAt t (.val v) p (some ((name.splitOn ".").getLastD name))).run P w = .ok v w := by
    unfold receiverAt
    simp only [Sem.run_bind, run_und hd, Result.andThen_ok]
    cases p <;> cases d <;> simp [isPtrD] at hx <;> rfl
  unfold method
  simp only [Sem.run_bind, typeInfo, run_program, hi, Result.andThen_ok, Sem.run_pure, hm, hpl, follow, hf, hp, if_true, hr]

/-- How a call comes to the function. -/
theorem target_run {W0 : World} {G0 : Gh} {a : Act} {w : World} {g : Gh} (hi : Inv n W0 G0 c a w g) {callee : Callee} {args : Array Operand} {ts : Array TypeId} {ty : TypeId} {f : FuncId} {a1 a2 : List AV} (ht : targetA P c n callee = some (f, a1, a2)) (hf : Callable P f)
    (hargs : ∀ x ∈ args.toList, okTmp n x = true) (htup : (args.toList.all fun x => !(evA c x).isTup) = true) :
    ∃ vs : List Value, (do let d ← resolve a.eval ⟨callee, args, ts⟩ ty; invoke d.target d.args : Sem Next).run P w = .ok (.enter f vs.toArray) w ∧ RepT w g.hw g.bs c.base (a1 ++ args.toList.map (evA c) ++ a2) vs := by
  have hA := argsRep hi args.toList hargs htup
  have plain : ∀ q, a.eval q = .func (.func f) #[] #[] → callee = .value q → a1 = [] → a2 = [] → ∃ vs : List Value, (do let d ← resolve a.eval ⟨callee, args, ts⟩ ty; invoke d.target d.args : Sem Next).run P w = .ok (.enter f vs.toArray) w ∧ RepT w g.hw g.bs c.base (a1 ++ args.toList.map (evA c) ++ a2) vs := by
    rintro q hq rfl rfl rfl
    refine ⟨args.toList.map a.eval, ?_, by simpa using hA⟩
    simp only [Sem.run_bind, resolve, hq, Deferred.ofValue, Sem.run_pure, Result.andThen_ok, invoke]
    rw [run_callFunc hf]
    congr 2
    apply Array.toList_inj.1; simp
  unfold targetA at ht
  split at ht
  · simp at ht; obtain ⟨rfl, rfl, rfl⟩ := ht; exact plain _ rfl rfl rfl rfl
  · rename_i t
    cases hb : Nat.blt t n with
    | false => rw [hb] at ht; cases ht
    | true =>
      rw [hb] at ht
      simp only [cond_true] at ht
      split at ht
      · rename_i f' b1 b2 hx
        simp only [Option.some.injEq, Prod.mk.injEq] at ht
        obtain ⟨rfl, rfl, rfl⟩ := ht
        have hr := hi.fr t (by rw [← Nat.blt_eq]; exact hb)
        rw [hx] at hr
        obtain ⟨h1, _⟩ := rep_leaf rfl (by simp) (by simp) hr
        simp only [RepV] at h1
        obtain ⟨fs, cs, e, q1, q2⟩ := h1
        simp only [List.cons.injEq, and_true] at e
        refine ⟨fs.toList ++ args.toList.map a.eval ++ cs.toList, ?_, RepT_append (RepT_append (RepT_of_RepL q1) hA) (RepT_of_RepL q2)⟩
        have hq : a.eval (.tmp t) = .func (.func f') fs cs := e
        simp only [Sem.run_bind, resolve, hq, Deferred.ofValue, Sem.run_pure, Result.andThen_ok, invoke]
        rw [run_callFunc hf]
        congr 2
        apply Array.toList_inj.1; simp
      · cases ht
  · rename_i recv name
    cases hb : okTmp n recv with
    | false => rw [hb] at ht; cases ht
    | true =>
      rw [hb] at ht
      simp only [cond_true] at ht
      split at ht
      · rename_i t x hx
        split at ht
        · rename_i i d hi0 hd
          split at ht
          · rename_i m hm
            split at ht
            · rename_i f' p hp hfn
              cases hc : (Bool.xor p (isPtrD d) || x.isTup) with
              | true => rw [hc] at ht; cases ht
              | false =>
                rw [hc] at ht
                simp only [cond_false, Option.some.injEq, Prod.mk.injEq] at ht
                obtain ⟨rfl, rfl, rfl⟩ := ht
                simp only [Bool.or_eq_false_iff] at hc
                have hr := hi.eval hb
                rw [hx] at hr
                obtain ⟨q1, _⟩ := rep_leaf rfl (by simp) (by simp) hr
                simp only [RepV] at q1
                obtain ⟨u, e, q2, q3⟩ := q1
                simp only [List.cons.injEq, and_true] at e
                refine ⟨u :: args.toList.map a.eval, ?_, ?_⟩
                · simp only [Sem.run_bind, resolve, Sem.run_pure, Result.andThen_ok, invoke]
                  have h0 : (#[a.eval recv] ++ Array.map a.eval args)[0]? = some (a.eval recv) := by
                    rw [Array.getElem?_append_left (by simp)]; rfl
                  rw [h0]
                  simp only [callMethod, e, Sem.run_bind, run_program, Result.andThen_ok, run_method hi0 hd hm hp hfn hc.1 u w]
                  rw [run_callFunc hf]
                  congr 2
                  apply Array.toList_inj.1
                  simp
                  exact List.take_of_length_le (by simp)
                · simp only [List.append_nil, List.singleton_append, RepT]
                  exact ⟨u, _, rfl, .inr ⟨RepV.lift x _ q2, q3⟩, hA⟩
            · cases ht
          · cases ht
        · cases ht
      · cases ht
  · cases ht

theorem XStep.callPure {callee : Callee} {args : Array Operand} {ts : Array TypeId} {dst : Option Tmp} {type : TypeId} {pos : String} {after : Array Edge} {guard : Option (Nat × Bool)} {f : FuncId} {a1 a2 : List AV} {r : AV} {ow : Bool}
    (ho : opsOk n ⟨dst, .call ⟨callee, args, ts⟩, type, pos, after, guard⟩ = true) (ht : targetA P c n callee = some (f, a1, a2)) (htup : (args.toList.all fun x => !(evA c x).isTup) = true) (hpf : pfL (a1 ++ args.toList.map (evA c) ++ a2) = true)
    (hx : XPure P f (a1 ++ args.toList.map (evA c) ++ a2) r ow) (h : K (c.after dst r ow)) : XStep P n ⟨dst, .call ⟨callee, args, ts⟩, type, pos, after, guard⟩ c K := by
  intro W0 G0 a w g hi next Q hn
  have hargs : ∀ x ∈ args.toList, okTmp n x = true := fun x hx => opsOk_mem ho (by simp [Op.operands, Call.operands]; exact .inr (by simpa using hx))
  obtain ⟨vs, hrun, hvs⟩ := target_run (P := P) (ts := ts) (ty := type) hi ht hx.1 hargs htup
  unfold Oper.wp
  have hrun' : (execOp a.eval ⟨dst, .call ⟨callee, args, ts⟩, type, pos, after, guard⟩).run P w = .ok (.enter f vs.toArray) w := hrun
  rw [hrun']
  have hup : (a1 ++ args.toList.map (evA c) ++ a2).map (AV.up c.base) = a1 ++ args.toList.map (evA c) ++ a2 := by rw [← upL_eq]; exact upL_pf _ _ hpf
  refine (hi.call hvs (hup ▸ hx.2.2 _) (dst.getD 0)).mono ?_
  rintro e w' ⟨u, r', ow', env', rfl, ⟨rfl, rfl, rfl⟩, hcont⟩
  obtain ⟨g', hi', hr', ho'⟩ := hcont r' c.mem (up_pf _ _ hx.2.1).symm rfl (cl_pf _ hx.2.1) (clMem hi) c rfl rfl rfl rfl hi.ecl
  exact hn _ _ _ g' h (hi'.after (opsOk_dst ho) hr' ho')

/-- A call that may change boxes. -/
theorem XStep.callAny {callee : Callee} {args : Array Operand} {ts : Array TypeId} {dst : Option Tmp} {type : TypeId} {pos : String} {after : Array Edge} {guard : Option (Nat × Bool)} {f : FuncId} {a1 a2 : List AV} {R : AV → Bool → List Bx → Prop}
    (ho : opsOk n ⟨dst, .call ⟨callee, args, ts⟩, type, pos, after, guard⟩ = true) (ht : targetA P c n callee = some (f, a1, a2)) (htup : (args.toList.all fun x => !(evA c x).isTup) = true) (hc : Callable P f)
    (hx : XCalls P f ((a1 ++ args.toList.map (evA c) ++ a2).map (AV.up c.base)) (c.env ++ c.own.map (Bx.up c.base)) R)
    (h : (∀ x ∈ c.env, Bx.cl c.base 0 x) → (∀ x ∈ c.env ++ c.own, Bx.cl c.base c.own.length x) → ∀ r ow env', R r ow env' → ∃ r2 env2 own2, r = AV.up c.base r2 ∧ env' = env2 ++ own2.map (Bx.up c.base) ∧ env2.length = c.env.length ∧ r2.cl c.base own2.length ∧ (∀ x ∈ env2, Bx.cl c.base 0 x) ∧ (∀ x ∈ env2 ++ own2, Bx.cl c.base own2.length x) ∧ K (({ c with env := env2, own := own2 } : Cfg).after dst r2 ow)) :
    XStep P n ⟨dst, .call ⟨callee, args, ts⟩, type, pos, after, guard⟩ c K := by
  intro W0 G0 a w g hi next Q hn
  have hargs : ∀ x ∈ args.toList, okTmp n x = true := fun x hx => opsOk_mem ho (by simp [Op.operands, Call.operands]; exact .inr (by simpa using hx))
  obtain ⟨vs, hrun, hvs⟩ := target_run (P := P) (ts := ts) (ty := type) hi ht hc hargs htup
  unfold Oper.wp
  have hrun' : (execOp a.eval ⟨dst, .call ⟨callee, args, ts⟩, type, pos, after, guard⟩).run P w = .ok (.enter f vs.toArray) w := hrun
  rw [hrun']
  have hmem : c.env ++ c.own.map (Bx.up c.base) = c.mem.map (Bx.up c.base) := by simp only [Cfg.mem, List.map_append, mapUp_cl hi.ecl]
  rw [hmem] at hx
  refine (hi.call hvs hx (dst.getD 0)).mono ?_
  rintro e w' ⟨u, r', ow', env', rfl, hR, hcont⟩
  obtain ⟨r2, env2, own2, hr2, he, hl, hrc, hecl, hcl, hk⟩ := h hi.ecl (by have := clMem hi; simpa [Cfg.mem, Cfg.base] using this) r' ow' env' hR
  have hlen : (env2 ++ own2).length - c.base = own2.length := by simp [Cfg.base, hl]
  obtain ⟨g', hi', hr', ho'⟩ := hcont r2 (env2 ++ own2) hr2 (by rw [he, List.map_append, mapUp_cl hecl]) (by rw [hlen]; exact hrc) (by rw [hlen]; exact hcl) { c with env := env2, own := own2 } rfl rfl rfl hl hecl
  refine hn _ _ _ g' hk (hi'.after (opsOk_dst ho) ?_ ho')
  have : (({ c with env := env2, own := own2 } : Cfg).base) = c.base := hl
  rw [this]; exact hr'
end
end Go.Ev
end
section
/- Written by this session: slices and structs out of parts, as steps of a region. Conditions: none beyond those in each statement. -/
namespace Go.Ev
open Go

theorem rep_elem {w : World} {hw : Hw} {bs : List Nat} {base : Nat} {x : AV} {y : Value} (hx : leavesOk x = true) (hp : x.pf = true) (h : Rep w hw bs base x y) :
    RepV w hw [] 0 x y.cells.toList ∧ (x.isAgg = false → ∀ v ∈ y.cells.toList, v.oneCell' = true) ∧ y.cells.size = x.leaves.length := by
  have h' := h.pf hp
  obtain ⟨h1, h2⟩ := rep_cells (leavesOk_or hx) h'
  refine ⟨?_, fun _ => oneCells h1, h2⟩
  rcases leavesOk_or hx with hx | hx
  · cases x <;> simp only [AV.isAgg] at hx <;> try cases hx
    simpa only [RepV, AV.leaves] using h1
  · obtain ⟨q1, _, q3⟩ := rep_isLeaf hx h'
    rw [cells_toList_of (visAgg_of q3)]; exact q1

theorem repE_flat {w : World} {hw : Hw} {bs : List Nat} {base k : Nat} : ∀ (l : List AV) (ys : List Value), RepT w hw bs base l ys → (∀ x ∈ l, leavesOk x = true ∧ x.pf = true ∧ x.leaves.length = k) →
    RepE w hw k l (ys.flatMap fun v => v.cells.toList) ∧ (∀ y ∈ ys, y.cells.size = k) ∧ ys.length = l.length
  | [], _, h, _ => by simp only [RepT] at h; subst h; simp [RepE]
  | x :: l, _, h, hl => by
    simp only [RepT] at h
    obtain ⟨y, ys, rfl, h1, h2⟩ := h
    obtain ⟨q1, q2, q3⟩ := hl x (by simp)
    obtain ⟨r1, r2, r3⟩ := rep_elem q1 q2 (rep_of h1)
    obtain ⟨i1, i2, i3⟩ := repE_flat l ys h2 fun z hz => hl z (by simp [hz])
    have hk : y.cells.toList.length = k := by simp [r3, q3]
    refine ⟨?_, fun z hz => ?_, by simp [i3]⟩
    · simp only [List.flatMap_cons, RepE]
      refine ⟨by simp [hk], ⟨?_, ?_⟩, ?_⟩
      · rw [List.take_append_of_le_length (by rw [hk]; exact Nat.le_refl _), List.take_of_length_le (by rw [hk]; exact Nat.le_refl _)]; exact r1
      · rw [List.take_append_of_le_length (by rw [hk]; exact Nat.le_refl _), List.take_of_length_le (by rw [hk]; exact Nat.le_refl _)]; exact r2
      · rw [List.drop_append_of_le_length (by rw [hk]; exact Nat.le_refl _), List.drop_of_length_le (by rw [hk]; exact Nat.le_refl _)]; exact i1
    · rcases List.mem_cons.1 hz with rfl | hz
      · rw [r3, q3]
      · exact i2 z hz

section
variable {P : Program} {n : Nat} {c : Cfg} {K : Cfg → Prop}

theorem XStep.buildSlice {t e : TypeId} {len k : Nat} {parts : Array (Nat × Operand)} {xs : List Operand} {i : TypeInfo} {z : Value} {d : Nat} {type : TypeId} {pos : String} {after : Array Edge} {guard : Option (Nat × Bool)}
    (ho : opsOk n ⟨some d, .buildSlice t len parts, type, pos, after, guard⟩ = true) (ht : P.underlying t = some (.slice e)) (hin : P.info? e = some i) (hz : i.zero = some z) (hk : i.size = k) (hk0 : 0 < k)
    (hlen : len = xs.length) (hparts : parts.toList = xs.zipIdx.map fun (x, j) => (j, x)) (hsm : len * k ≤ 16777216)
    (hxs : ∀ x ∈ xs, leavesOk (evA c x) = true ∧ (evA c x).pf = true ∧ (evA c x).isTup = false ∧ (evA c x).leaves.length = k)
    (h : K (c.putOwn d (.sl k (xs.map (evA c))))) : XStep P n ⟨some d, .buildSlice t len parts, type, pos, after, guard⟩ c K := by
  intro W0 G0 a w g hi next Q hn
  have hmem : ∀ x ∈ xs, x ∈ (Op.buildSlice t len parts).operands := fun x hx => by
    obtain ⟨j, hj, rfl⟩ := List.mem_iff_getElem.1 hx
    simp only [Op.operands, List.mem_toArray, List.mem_map, hparts]
    exact ⟨(j, xs[j]), ⟨(xs[j], j), by simp [List.mem_zipIdx_iff_getElem?, List.getElem?_eq_getElem hj], rfl⟩, rfl⟩
  have hT := argsRep hi xs (fun x hx => opsOk_mem ho (hmem x hx)) (by
    rw [List.all_eq_true]; intro x hx; rw [(hxs x hx).2.2.1]; rfl)
  obtain ⟨hE, hcs, hl⟩ := repE_flat (k := k) _ _ hT (by
    intro y hy
    obtain ⟨x, hx, rfl⟩ := List.mem_map.1 hy
    exact ⟨(hxs x hx).1, (hxs x hx).2.1, (hxs x hx).2.2.2⟩)
  simp only [List.length_map] at hl
  subst hlen
  let cells0 : Array Value := (Array.range (xs.length * k)).map fun j => (if xs.length * k = 0 then (#[] : Array Value) else z.cells)[j % (if xs.length * k = 0 then (#[] : Array Value) else z.cells).size]!
  obtain ⟨cells', hfill, hcl⟩ := fill_row hk0 (xs.map a.eval) 0 cells0 [] hcs (by simp) (by simp [cells0])
  have hcells : cells' = ((xs.map a.eval).flatMap fun v => v.cells.toList).toArray := by apply Array.toList_inj.1; rw [hcl]; simp
  have hps : (parts.map fun (p : Nat × Operand) => (p.1, a.eval p.2)).toList = ((xs.map a.eval).zipIdx 0).map fun (v, j) => (j, v) := by
    rw [Array.toList_map, hparts]
    simp [List.zipIdx_map]
  have hlenE := RepE.len hE
  obtain ⟨g', hi', hR, hO⟩ := hi.newArr (rest := []) (e := e) hk0 hE d xs.length (by simp; exact Nat.le_trans (Nat.le_mul_of_pos_right _ hk0) (Nat.le_trans hsm (by decide))) (by simp) (by simp at hlenE ⊢; omega)
  simp only [List.append_nil, List.length_map] at hi' hR hO
  rw [← hcells] at hi' hR hO
  unfold Oper.wp
  have hsz : (sizeOf e).run P w = .ok k w := by simp [sizeOf, typeInfo, hin, hk]
  have hrun : (execOp a.eval ⟨some d, .buildSlice t xs.length parts, type, pos, after, guard⟩).run P w = .ok (.value (.slice (some ⟨w.heap.size, 0, none⟩) xs.length xs.length)) (push w (.cells cells' e)) := by
    have hc0 : ∀ zz : Array Value, zz = (if xs.length * k = 0 then (#[] : Array Value) else z.cells) → (Array.range (xs.length * k)).map (fun x => zz[x % zz.size]!) = cells0 := by rintro _ rfl; rfl
    simp only [execOp, Instr.buildSlice, Sem.run_bind, run_und ht, Result.andThen_ok, hsz]
    rw [if_neg (by omega : ¬ xs.length * k > 2 ^ 24)]
    simp only [hps]
    by_cases h0 : xs.length * k = 0
    · rw [if_pos h0]
      simp only [Sem.run_bind, Sem.run_pure, Result.andThen_ok]
      rw [hc0 #[] (by rw [if_pos h0]), hfill]
      simp [newRow, push]
    · rw [if_neg h0]
      have hzv : (zeroValue e).run P w = .ok z w := by simp [zeroValue, typeInfo, hin, hz]
      simp only [Sem.run_bind, Sem.run_pure, Result.andThen_ok, hzv]
      rw [hc0 z.cells (by rw [if_neg h0]), hfill]
      simp [newRow, push]
  rw [hrun]
  exact hn _ _ _ g' h (hi'.putOwn (opsOk_dst ho d rfl) hR hO)
end
end Go.Ev
end
section
/- Written by this session: structs out of parts, as steps of a region. Conditions: none beyond those in each statement. -/
namespace Go.Ev
open Go

def buildFold (P : Program) (c : Cfg) (fs : Array Field) : List (Nat × Operand) → List AV → (List AV → Prop) → Prop
  | [], l, K => K l
  | (i, x) :: r, l, K => match fs[i]? with
    | some f => bif leavesOk (evA c x) && !(evA c x).isTup && Nat.beq (evA c x).leaves.length (P.cellsOf f.type) && Nat.ble (f.offset + P.cellsOf f.type) l.length then buildFold P c fs r (wrL l f.offset (evA c x).leaves) K else False
    | none => False

section
variable {P : Program} {n : Nat} {c : Cfg} {K : Cfg → Prop}

theorem run_places : ∀ (fs : List Field) (w : World), (fs.all fun f => (P.underlying f.type).isSome) = true →
    (fs.mapM fun f => do Pure.pure (f.offset, ← sizeOf f.type) : Sem (List (Nat × Nat))).run P w = .ok (fs.map fun f => (f.offset, P.cellsOf f.type)) w
  | [], w, _ => by simp
  | f :: fs, w, h => by
    simp only [List.all_cons, Bool.and_eq_true] at h
    simp only [List.mapM_cons, Sem.run_bind, run_size (info_of_und h.1), Result.andThen_ok, Sem.run_pure, List.map_cons]
    rw [run_places fs w h.2]
    rfl

theorem buildFold_run {fs : Array Field} {W0 : World} {G0 : Gh} {a : Act} {w : World} {g : Gh} (hi : Inv n W0 G0 c a w g) : ∀ (ps : List (Nat × Operand)) (l : List AV) (cells : Array Value) (K : List AV → Prop),
    (∀ p ∈ ps, okTmp n p.2 = true) → RepL w g.hw g.bs c.base l cells.toList → buildFold P c fs ps l K →
    ∃ l' cells', K l' ∧ Instr.fill ((fs.map fun f => (f.offset, P.cellsOf f.type))[·]?) cells (ps.map fun p => (p.1, a.eval p.2)) = some cells' ∧ RepL w g.hw g.bs c.base l' cells'.toList
  | [], l, cells, K, _, hr, h => ⟨l, cells, h, by simp [Instr.fill], hr⟩
  | (i, x) :: ps, l, cells, K, hok, hr, h => by
    simp only [buildFold] at h
    split at h
    · rename_i f hf
      cases hc : (leavesOk (evA c x) && !(evA c x).isTup && Nat.beq (evA c x).leaves.length (P.cellsOf f.type) && Nat.ble (f.offset + P.cellsOf f.type) l.length) with
      | false => rw [hc] at h; exact h.elim
      | true =>
        rw [hc] at h
        simp only [cond_true] at h
        simp only [Bool.and_eq_true] at hc
        obtain ⟨⟨⟨h1, _⟩, h3⟩, h4⟩ := hc
        have h3' := Nat.eq_of_beq_eq_true h3
        have h4' := Nat.le_of_ble_eq_true h4
        obtain ⟨q1, q2⟩ := rep_cells (leavesOk_or h1) (hi.eval (hok (i, x) (by simp)))
        have hlen := RepL.length hr
        obtain ⟨c1, e1, e2⟩ := fill_one (place := ((fs.map fun f => (f.offset, P.cellsOf f.type))[·]?)) (cells := cells) (i := i) (off := f.offset) (size := P.cellsOf f.type) (v := a.eval x) (rest := ps.map fun p => (p.1, a.eval p.2))
          (by simp [hf]) (by rw [q2, h3']) (by rw [q2, h3']; simp only [Array.length_toList] at hlen; omega)
        have hL : (a.eval x).cells.toList.length = (evA c x).leaves.length := by simpa using q2
        obtain ⟨l', cells', k1, k2, k3⟩ := buildFold_run hi ps _ c1 K (fun p hp => hok p (by simp [hp])) (by
          rw [e1]
          simp only [wrL]
          rw [hL]
          exact ((hr.take f.offset).append q1).append (hr.drop _)) h
        refine ⟨l', cells', k1, ?_, k3⟩
        simp only [List.map_cons]
        rw [e2]; exact k2
    · exact h.elim

theorem XStep.build {t : TypeId} {fs : Array Field} {parts : Array (Nat × Operand)} {i : TypeInfo} {z : Value} {dst : Option Tmp} {type : TypeId} {pos : String} {after : Array Edge} {guard : Option (Nat × Bool)}
    (ho : opsOk n ⟨dst, .build t parts, type, pos, after, guard⟩ = true) (ht : P.underlying t = some (.struct fs)) (hfs : (fs.toList.all fun f => (P.underlying f.type).isSome) = true) (hin : P.info? t = some i) (hz : i.zero = some z) (hok : okTmp n (.const z) = true) (hx : leavesOk (cst z) = true)
    (h : buildFold P c fs parts.toList (cst z).leaves fun l => K (c.put dst (.agg l))) : XStep P n ⟨dst, .build t parts, type, pos, after, guard⟩ c K := by
  intro W0 G0 a w g hi next Q hn
  obtain ⟨hc, _⟩ := rep_cells (leavesOk_or hx) (cst_rep (hw := g.hw) (bs := g.bs) (base := c.base) (w := w) z hok)
  obtain ⟨l', cells', k1, k2, k3⟩ := buildFold_run hi parts.toList _ z.cells _ (fun p hp => opsOk_mem ho (by
    simp only [Op.operands, List.mem_toArray, List.mem_map]
    exact ⟨p, by simpa using hp, rfl⟩)) hc h
  have hrun : (execOp a.eval ⟨dst, .build t parts, type, pos, after, guard⟩).run P w = .ok (.value (.agg cells')) w := by
    have hp := run_places (P := P) fs.toList w hfs
    have hps : (parts.map fun (p : Nat × Operand) => (p.1, a.eval p.2)).toList = parts.toList.map fun p => (p.1, a.eval p.2) := by simp
    simp only [execOp, Instr.build, Sem.run_bind, zeroValue, typeInfo, run_program, hin, Result.andThen_ok, Sem.run_pure, hz, run_und ht, Array.mapM_eq_mapM_toList, Sem.run_map, hp, hps]
    have hpl : (fs.toList.map fun f => (f.offset, P.cellsOf f.type)).toArray = fs.map fun f => (f.offset, P.cellsOf f.type) := by apply Array.toList_inj.1; simp
    rw [hpl, k2]
    simp
  unfold Oper.wp
  rw [hrun]
  exact hn _ _ _ g k1 (hi.putO (opsOk_dst ho) (rep_agg_mk k3))
end
end Go.Ev
end
section
/- Written by this session: maps, boxes of the surroundings, and what is appended to in a box, as steps of a region. Conditions: none beyond those in each statement. -/
namespace Go.Ev
open Go

mutual
theorem cl_of_pf {base : Nat} : ∀ x : AV, x.pf = true → x.cl base 0
  | .top, _ | .v _, _ | .sl _ _, _ | .ep _, _ | .gv _ _, _ | .ifc _ _, _ => by simp only [AV.cl]
  | .bp _ _, h => by simp [AV.pf] at h
  | .xp _ _, h => by simp [AV.pf] at h
  | .mo _, h => by simp [AV.pf] at h
  | .mx _, h => by simp [AV.pf] at h
  | .bs .., h => by simp [AV.pf] at h
  | .xs .., h => by simp [AV.pf] at h
  | .agg l, h => by simp only [AV.pf] at h; simp only [AV.cl]; exact clL_of_pf l h
  | .tup l, h => by simp only [AV.pf] at h; simp only [AV.cl]; exact clL_of_pf l h
  | .fn f a b, h => by simp only [AV.pf, Bool.and_eq_true] at h; simp only [AV.cl]; exact ⟨clL_of_pf a h.1, clL_of_pf b h.2⟩
theorem clL_of_pf {base : Nat} : ∀ l : List AV, pfL l = true → clL base 0 l
  | [], _ => by simp only [clL]
  | x :: l, h => by simp only [pfL, Bool.and_eq_true] at h; simp only [clL]; exact ⟨cl_of_pf x h.1, clL_of_pf l h.2⟩
end
theorem clL_of_leaf {base : Nat} {x : AV} (h : x.pf = true) : x.cl base 0 := cl_of_pf x h
theorem clL_leaves {base : Nat} {x : AV} (h : x.pf = true) : clL base 0 x.leaves := by
  have := clL_of_leaf (base := base) h
  cases x <;> simp only [AV.leaves, clL] <;> first | exact ⟨this, trivial⟩ | (simpa only [AV.cl] using this)
theorem clL_app {base m : Nat} : ∀ {a b : List AV}, clL base m a → clL base m b → clL base m (a ++ b)
  | [], _, _, h => h
  | x :: a, b, h1, h2 => by simp only [List.cons_append, clL] at h1 ⊢; exact ⟨h1.1, clL_app h1.2 h2⟩
theorem clL_take {base m : Nat} : ∀ {a : List AV} (k : Nat), clL base m a → clL base m (a.take k)
  | _, 0, _ => by simp [clL]
  | [], k + 1, _ => by simp [clL]
  | x :: a, k + 1, h => by simp only [List.take_succ_cons, clL] at h ⊢; exact ⟨h.1, clL_take k h.2⟩
theorem clL_drop {base m : Nat} : ∀ {a : List AV} (k : Nat), clL base m a → clL base m (a.drop k)
  | _, 0, h => by simpa using h
  | [], k + 1, _ => by simp [clL]
  | x :: a, k + 1, h => by simp only [List.drop_succ_cons, clL] at h ⊢; exact clL_drop k h.2

section
variable {P : Program} {n : Nat} {c : Cfg} {K : Cfg → Prop} {dst : Option Tmp} {type : TypeId} {pos : String} {after : Array Edge} {guard : Option (Nat × Bool)}

theorem XStep.makeMap {t kt et : TypeId} {r : Option Operand} {d : Nat} (ho : opsOk n ⟨some d, .makeMap t r, type, pos, after, guard⟩ = true) (ht : P.underlying t = some (.map kt et)) (hr : r = none ∨ ∃ k m, r = some (.const (.int k m)))
    (h : K (({ c with own := c.own ++ [.map []] } : Cfg).put (some d) (.mo c.own.length))) : XStep P n ⟨some d, .makeMap t r, type, pos, after, guard⟩ c K := by
  intro W0 G0 a w g hi next Q hn
  obtain ⟨g', hi', hb⟩ := hi.newBoxG (.map []) (.map #[] 0) fun _ _ _ => ⟨#[], 0, heap_push_new, by simp [RepM]⟩
  unfold Oper.wp
  have hrun : (execOp a.eval ⟨some d, .makeMap t r, type, pos, after, guard⟩).run P w = .ok (.value (.map (some w.heap.size))) (push w (.map #[] 0)) := by
    rcases hr with rfl | ⟨k, m, rfl⟩
    · simp [execOp, Instr.makeMap, push]
    · simp [execOp, Instr.makeMap, run_und ht, Act.eval, asInt, asIntOf, push]
  rw [hrun]
  exact hn _ _ _ g' h (hi'.put (opsOk_dst ho d rfl) (rep_mk_leaf rfl rfl (by simp only [RepV]; exact ⟨_, hb, rfl⟩)))

theorem XStep.mapUpdate {t kt et : TypeId} {m k x : Operand} {s : ByteArray} {l : List (ByteArray × AV)} (ho : opsOk n ⟨dst, .mapUpdate t m k x, type, pos, after, guard⟩ = true) (ht : P.underlying t = some (.map kt et)) (hkt : P.underlying kt = some .string)
    (hk : evA c k = .v (.string s)) (hpf : (evA c x).pf = true) (htup : (evA c x).isTup = false) (c' : Cfg)
    (hm : (∃ i, evA c m = .mo i ∧ c.own[i]? = some (.map l) ∧ c' = { c with own := c.own.set i (.map (setM l s (evA c x))) }) ∨ (∃ i, evA c m = .mx i ∧ c.env[i]? = some (.map l) ∧ c' = { c with env := c.env.set i (.map (setM l s (evA c x))) }))
    (h : K (c'.put dst (.v undef))) : XStep P n ⟨dst, .mapUpdate t m k x, type, pos, after, guard⟩ c K := by
  intro W0 G0 a w g hi next Q hn
  have hmm : m ∈ (Op.mapUpdate t m k x).operands := by simp [Op.operands]
  have hmk : k ∈ (Op.mapUpdate t m k x).operands := by simp [Op.operands]
  have hmx : x ∈ (Op.mapUpdate t m k x).operands := by simp [Op.operands]
  have hrm := hi.eval (opsOk_mem ho hmm)
  have ek := (rep_v (hk ▸ hi.eval (opsOk_mem ho hmk))).1
  have hv : Rep1 w g.hw [] 0 (evA c x) (a.eval x) := rep1_of htup ((hi.eval (opsOk_mem ho hmx)).pf hpf)
  have fin : ∀ (q b : Nat), g.bs[q]? = some b → a.eval m = .map (some b) → c.mem[q]? = some (.map l) → c'.fr = c.fr → c'.os = c.os → c'.mem = c.mem.set q (.map (setM l s (evA c x))) → c'.base = c.base → (∀ y ∈ c'.env, Bx.cl c.base 0 y) →
      (Oper.wp P ⟨dst, .mapUpdate t m k x, type, pos, after, guard⟩ a w next Q) := by
    intro q b hb em hq e1 e2 e3 e4 e5
    obtain ⟨es, clock, hheap, hM⟩ := hi.good.box q _ b hq hb
    obtain ⟨es', clock', hrun, hM'⟩ := mapUpdate_run (P := P) (w := w) (s := s) ht hkt hheap hM hv
    have W := oneBlk_setObj (o' := .map es' clock') hheap
    have hi' := hi.writeAt (x' := .map (setM l s (evA c x))) hq hb W (fun hH _ => ⟨es', clock', W.blk, RepM.mono hH _ _ hM'⟩) c' e1 e2 e3 e4 e5
    unfold Oper.wp
    have hrun' : (execOp a.eval ⟨dst, .mapUpdate t m k x, type, pos, after, guard⟩).run P w = .ok .skip { w with heap := w.heap.setIfInBounds b (.map es' clock') } := by
      simp only [execOp, em, ek, Sem.run_bind, hrun, Result.andThen_ok, Sem.run_pure]
    rw [hrun']
    exact hn _ _ _ g h (hi'.putO (opsOk_dst ho) (rep_v_mk rfl))
  rcases hm with ⟨i, em, hl, rfl⟩ | ⟨i, em, hl, rfl⟩
  · obtain ⟨b, hb, e⟩ := rep_mo (em ▸ hrm)
    exact fin _ b hb e (mem_own hl) rfl rfl set_own rfl hi.ecl
  · obtain ⟨_, b, hb, e⟩ := rep_mx (em ▸ hrm)
    have hil := (List.getElem?_eq_some_iff.1 hl).1
    exact fin i b hb e (mem_env hl) rfl rfl (set_env hil) (by simp [Cfg.base]) (ecl_set hi.ecl trivial)

/-- A store into a box of the surroundings. -/
theorem XStep.storeEnv {t : TypeId} {p x : Operand} {i off : Nat} {l : List AV} {os : List Nat} (ho : opsOk n ⟨dst, .store t p x, type, pos, after, guard⟩ = true)
    (hp : evA c p = .xp i off) (hbox : c.env[i]? = some (.cells l os)) (ht : (P.underlying t).isSome = true) (hx : leavesOk (evA c x) = true) (hpf : (evA c x).pf = true) (hsz : (evA c x).leaves.length = P.cellsOf t) (hfit : off + (evA c x).leaves.length ≤ l.length)
    (h : K (({ c with env := c.env.set i (.cells (wrL l off (evA c x).leaves) (os.filter fun j => decide (j < off ∨ off + (evA c x).leaves.length ≤ j))) } : Cfg).put dst (.v undef))) : XStep P n ⟨dst, .store t p x, type, pos, after, guard⟩ c K := by
  intro W0 G0 a w g hi next Q hn
  have hm1 : p ∈ (Op.store t p x).operands := by simp [Op.operands]
  have hm2 : x ∈ (Op.store t p x).operands := by simp [Op.operands]
  obtain ⟨_, b, hb, ep⟩ := rep_xp (hp ▸ hi.eval (opsOk_mem ho hm1))
  obtain ⟨w', hrun, hcont⟩ := hi.storeAt ht (leavesOk_or hx) hb (mem_env hbox) (hi.eval (opsOk_mem ho hm2)) hsz hfit
  have hil := (List.getElem?_eq_some_iff.1 hbox).1
  have hcl : Bx.cl c.base 0 (.cells (wrL l off (evA c x).leaves) (os.filter fun j => decide (j < off ∨ off + (evA c x).leaves.length ≤ j))) := by
    have := hi.ecl _ (List.mem_of_getElem? hbox)
    simp only [Bx.cl] at this ⊢
    exact clL_app (clL_app (clL_take _ this) (clL_leaves hpf)) (clL_drop _ this)
  have hi' := hcont (os.filter fun j => decide (j < off ∨ off + (evA c x).leaves.length ≤ j)) (fun j hj => .inl (by simpa using hj)) { c with env := c.env.set i (.cells (wrL l off (evA c x).leaves) (os.filter fun j => decide (j < off ∨ off + (evA c x).leaves.length ≤ j))) }
    rfl rfl (set_env hil) (by simp [Cfg.base]) (ecl_set hi.ecl hcl)
  unfold Oper.wp
  have hrun' : (execOp a.eval ⟨dst, .store t p x, type, pos, after, guard⟩).run P w = .ok .skip w' := by
    simp [execOp, Instr.storeAt, ep, Instr.sureAddr, hrun]
  rw [hrun']
  exact hn _ _ _ g h (hi'.putO (opsOk_dst ho) (rep_v_mk rfl))

/-- A store into a box of the surroundings that hands on the right to append. -/
theorem XStep.storeEnvOwn {t : TypeId} {p : Operand} {s i off k : Nat} {l l' : List AV} {os : List Nat} (ho : opsOk n ⟨dst, .store t p (.tmp s), type, pos, after, guard⟩ = true)
    (hp : evA c p = .xp i off) (hbox : c.env[i]? = some (.cells l os)) (ht : (P.underlying t).isSome = true) (hs : s ∈ c.os) (hx : Fr.get c.fr s = .sl k l') (hsz : 1 = P.cellsOf t) (hfit : off + 1 ≤ l.length)
    (h : K (({ c with os := c.os.filter (fun i => !Nat.beq i s), env := c.env.set i (.cells (wrL l off [.sl k l']) (off :: os.filter fun j => decide (j < off ∨ off + 1 ≤ j))) } : Cfg).put dst (.v undef))) : XStep P n ⟨dst, .store t p (.tmp s), type, pos, after, guard⟩ c K := by
  intro W0 G0 a w g hi next Q hn
  have hm1 : p ∈ (Op.store t p (.tmp s)).operands := by simp [Op.operands]
  have hm2 : (Operand.tmp s) ∈ (Op.store t p (.tmp s)).operands := by simp [Op.operands]
  have hev : evA c (.tmp s) = .sl k l' := hx
  obtain ⟨_, b, hb, ep⟩ := rep_xp (hp ▸ hi.eval (opsOk_mem ho hm1))
  obtain ⟨G', E', O1, O2⟩ := hi.good.relabel (s := s) (d := .cell i off)
  have hi1 : Inv n W0 G0 { c with os := c.os.filter (fun i => !Nat.beq i s) } a w { g with own := fun b => (g.own b).map (moved (.slot s) (.cell i off)) } :=
    ⟨hi.size, hi.defers, hi.fr, fun j hj => by
      have hj' := List.mem_filter.1 hj
      have hne : j ≠ s := by rintro rfl; simp at hj'
      obtain ⟨k, l, h1, h2⟩ := hi.os j hj'.1
      exact ⟨k, l, h1, O1 _ k _ (by simp [hne]) h2⟩, G', E' _ _ hi.ext, hi.ecl, hi.b0⟩
  obtain ⟨k', l'', e1, e2⟩ := hi.os s hs
  rw [hx] at e1
  cases e1
  have hrs := hi.eval (opsOk_mem ho hm2)
  rw [hev] at hrs
  obtain ⟨w', hrun, hcont⟩ := hi1.storeAt (x := .sl k l') (y := a.eval (.tmp s)) ht (.inr rfl) hb (mem_env hbox) hrs hsz hfit
  have hil := (List.getElem?_eq_some_iff.1 hbox).1
  have hcl : Bx.cl c.base 0 (.cells (wrL l off [.sl k l']) (off :: os.filter fun j => decide (j < off ∨ off + 1 ≤ j))) := by
    have := hi.ecl _ (List.mem_of_getElem? hbox)
    simp only [Bx.cl] at this ⊢
    exact clL_app (clL_app (clL_take _ this) (by simp only [clL]; exact ⟨by simp only [AV.cl], trivial⟩)) (clL_drop _ this)
  have hi' := hcont (off :: os.filter fun j => decide (j < off ∨ off + 1 ≤ j)) (fun j hj => by
    rcases List.mem_cons.1 hj with rfl | hj
    · exact .inr ⟨k, l', rfl, rfl, O2 k _ e2⟩
    · exact .inl (by simpa [AV.leaves] using hj)) { c with os := c.os.filter (fun i => !Nat.beq i s), env := c.env.set i (.cells (wrL l off [.sl k l']) (off :: os.filter fun j => decide (j < off ∨ off + 1 ≤ j))) }
    rfl rfl (set_env hil) (by simp [Cfg.base]) (ecl_set hi.ecl hcl)
  unfold Oper.wp
  have hrun' : (execOp a.eval ⟨dst, .store t p (.tmp s), type, pos, after, guard⟩).run P w = .ok .skip w' := by
    simp [execOp, Instr.storeAt, ep, Instr.sureAddr, hrun]
  rw [hrun']
  exact hn _ _ _ _ h (hi'.putO (opsOk_dst ho) (rep_v_mk rfl))

/-- A slice is read out of a box, and the right to append with it. -/
theorem XStep.loadOwn {t : TypeId} {p : Operand} {d off k : Nat} {l l' : List AV} {os : List Nat} (ho : opsOk n ⟨some d, .load t p, type, pos, after, guard⟩ = true) (ht : (P.underlying t).isSome = true) (hta : isAggT P t = false) (hl : l[off]? = some (.sl k l')) (hos : off ∈ os) (c' : Cfg)
    (hp : (∃ i, evA c p = .bp i off ∧ c.own[i]? = some (.cells l os) ∧ c' = { c with own := c.own.set i (.cells l (os.filter fun j => !Nat.beq j off)) }) ∨ (∃ i, evA c p = .xp i off ∧ c.env[i]? = some (.cells l os) ∧ c' = { c with env := c.env.set i (.cells l (os.filter fun j => !Nat.beq j off)) }))
    (h : K (c'.putOwn d (.sl k l'))) : XStep P n ⟨some d, .load t p, type, pos, after, guard⟩ c K := by
  intro W0 G0 a w g hi next Q hn
  have hm1 : p ∈ (Op.load t p).operands := by simp [Op.operands]
  have hrp := hi.eval (opsOk_mem ho hm1)
  obtain ⟨dd, hd⟩ := Option.isSome_iff_exists.1 ht
  have fin : ∀ (q b : Nat), g.bs[q]? = some b → a.eval p = .pointer (some ⟨b, off, none⟩) → c.mem[q]? = some (.cells l os) → c'.fr = c.fr → c'.os = c.os → c'.mem = c.mem.set q (.cells l (os.filter fun j => !Nat.beq j off)) → c'.base = c.base → (∀ y ∈ c'.env, Bx.cl c.base 0 y) →
      (Oper.wp P ⟨some d, .load t p, type, pos, after, guard⟩ a w next Q) := by
    intro q b hb ep hq e1 e2 e3 e4 e5
    obtain ⟨cs, e, hheap, hrl, hown⟩ := hi.good.box q _ b hq hb
    obtain ⟨k2, l2, y, f1, f2, f3⟩ := hown off hos
    rw [hl] at f1
    cases f1
    obtain ⟨v, hv, hrv, _, hone⟩ := hrl.get hl
    have hyv : y = v := by
      have : cs[off]? = some v := by simpa using hv
      rw [f2] at this; cases this; rfl
    subst hyv
    obtain ⟨hi', O⟩ := hi.takeCell (d := d) hq e1 e2 e3 e4 e5
    have hrep : Rep w g.hw g.bs c.base (.sl k l') y := rep_mk_leaf rfl (visAgg_of hone) hrv
    unfold Oper.wp
    have hcell : w.cell? ⟨b, off, none⟩ = some y := by
      simp only [World.cell?, hheap, Option.isSome_none, Bool.false_eq_true, if_false]; exact f2
    have hrun : (execOp a.eval ⟨some d, .load t p, type, pos, after, guard⟩).run P w = .ok (.value y) w := by
      simp [execOp, ep, Instr.loadAt, Instr.sureAddr, loadVar, run_isAgg hd, hta, hcell]
    rw [hrun]
    exact hn _ _ _ _ h (hi'.putOwn (opsOk_dst ho d rfl) (by rw [e4]; exact hrep) (O k y f3))
  rcases hp with ⟨i, em, hl', rfl⟩ | ⟨i, em, hl', rfl⟩
  · obtain ⟨b, hb, e⟩ := rep_bp (em ▸ hrp)
    exact fin _ b hb e (mem_own hl') rfl rfl set_own rfl hi.ecl
  · obtain ⟨_, b, hb, e⟩ := rep_xp (em ▸ hrp)
    have hil := (List.getElem?_eq_some_iff.1 hl').1
    refine fin i b hb e (mem_env hl') rfl rfl (set_env hil) (by simp [Cfg.base]) (ecl_set hi.ecl ?_)
    have := hi.ecl _ (List.mem_of_getElem? hl')
    exact this

def makeMapA (P : Program) (c : Cfg) (t : TypeId) (r : Option Operand) (dst : Option Tmp) (K : Cfg → Prop) : Prop :=
  match P.underlying t, dst with
  | some (.map _ _), some d => (match r with
    | none | some (.const (.int _ _)) => K (({ c with own := c.own ++ [.map []] } : Cfg).put (some d) (.mo c.own.length))
    | _ => False)
  | _, _ => False
theorem makeMapA_sound {t : TypeId} {r : Option Operand} (ho : opsOk n ⟨dst, .makeMap t r, type, pos, after, guard⟩ = true) (h : makeMapA P c t r dst K) : XStep P n ⟨dst, .makeMap t r, type, pos, after, guard⟩ c K := by
  unfold makeMapA at h
  split at h
  · rename_i kt et d hu
    split at h
    · exact XStep.makeMap ho hu (.inl rfl) h
    · exact XStep.makeMap ho hu (.inr ⟨_, _, rfl⟩) h
    · exact h.elim
  · exact h.elim

def mapUpdateA (P : Program) (c : Cfg) (t : TypeId) (m k x : Operand) (dst : Option Tmp) (K : Cfg → Prop) : Prop :=
  match P.underlying t, evA c k with
  | some (.map kt _), .v (.string s) => (match P.underlying kt with
    | some .string => bif pf1 (evA c x) && !(evA c x).isTup then (match evA c m with
      | .mo i => (match c.own[i]? with
        | some (.map l) => K (({ c with own := c.own.set i (.map (setM l s (evA c x))) } : Cfg).put dst (.v undef))
        | _ => False)
      | .mx i => (match c.env[i]? with
        | some (.map l) => K (({ c with env := c.env.set i (.map (setM l s (evA c x))) } : Cfg).put dst (.v undef))
        | _ => False)
      | _ => False) else False
    | _ => False)
  | _, _ => False
theorem mapUpdateA_sound {t : TypeId} {m k x : Operand} (ho : opsOk n ⟨dst, .mapUpdate t m k x, type, pos, after, guard⟩ = true) (h : mapUpdateA P c t m k x dst K) : XStep P n ⟨dst, .mapUpdate t m k x, type, pos, after, guard⟩ c K := by
  unfold mapUpdateA at h
  split at h
  · rename_i kt et s hu hk
    split at h
    · rename_i hkt
      cases hc : (pf1 (evA c x) && !(evA c x).isTup) with
      | false => rw [hc] at h; exact h.elim
      | true =>
        rw [hc] at h
        simp only [Bool.and_eq_true, Bool.not_eq_true'] at hc
        simp only [cond_true] at h
        split at h
        · rename_i i hm
          split at h
          · rename_i l hl; exact XStep.mapUpdate ho hu hkt hk (pf_of1 hc.1) hc.2 _ (.inl ⟨i, hm, hl, rfl⟩) h
          · exact h.elim
        · rename_i i hm
          split at h
          · rename_i l hl; exact XStep.mapUpdate ho hu hkt hk (pf_of1 hc.1) hc.2 _ (.inr ⟨i, hm, hl, rfl⟩) h
          · exact h.elim
        · exact h.elim
    · exact h.elim
  · exact h.elim
end
end Go.Ev
end
section
/- Written by this session: a slice is compared with nil; a cap of nothing. Conditions: none beyond those in each statement. -/
namespace Go.Ev
open Go

theorem run_nilEq {P : Program} {t e : TypeId} (hu : P.underlying t = some (.slice e)) (a : Option Addr) (n c n0 c0 : Nat) (w : World) :
    (Op.equal t (.slice a n c) (.slice none n0 c0)).run P w = .ok a.isNone w := by
  have : ∀ d : Nat, (Op.equalIn (d + 1) t (.slice a n c) (.slice none n0 c0)).run P w = .ok a.isNone w := fun d => by
    cases a <;> simp only [Op.equalIn, Sem.run_bind, run_und hu, Result.andThen_ok, Sem.run_pure] <;> rfl
  exact this 9999

theorem exec_nilEq {P : Program} {op : BinOp} {t yt e : TypeId} (hop : op = .eql ∨ op = .neq) (hu : P.underlying t = some (.slice e)) {ev : Operand → Value} {x y : Operand} {a : Option Addr} {n c n0 c0 : Nat} {dst : Option Tmp} {type : TypeId} {pos : String} {after : Array Edge} {guard : Option (Nat × Bool)}
    (hx : ev x = .slice a n c) (hy : ev y = .slice none n0 c0) (w : World) : (execOp ev ⟨dst, .binOp op t x y yt, type, pos, after, guard⟩).run P w = .ok (.value (.bool (bif decide (op = .eql) then a.isNone else !a.isNone))) w := by
  have he : (Op.equal t (.slice a n c) (.slice none n0 c0)).run P w = .ok a.isNone w := run_nilEq hu a n c n0 c0 w
  rcases hop with rfl | rfl <;> simp [execOp, hx, hy, eqGuard, binOp, he]

def nilEqA (P : Program) (c : Cfg) (op : BinOp) (t : TypeId) (x : AV) (dst : Option Tmp) (K : Cfg → Prop) : Prop :=
  match P.underlying t, x with
  | some (.slice _), .sl _ l => (l = [] → K (c.put dst (.v (.bool (bif decide (op = .eql) then true else false))))) ∧ K (c.put dst (.v (.bool (bif decide (op = .eql) then false else true))))
  | some (.slice _), .bs .. => K (c.put dst (.v (.bool (bif decide (op = .eql) then false else true))))
  | some (.slice _), .xs .. => K (c.put dst (.v (.bool (bif decide (op = .eql) then false else true))))
  | some (.slice _), .v (.slice none _ _) => K (c.put dst (.v (.bool (bif decide (op = .eql) then true else false))))
  | _, _ => False

section
variable {P : Program} {n : Nat} {c : Cfg} {K : Cfg → Prop} {dst : Option Tmp} {type : TypeId} {pos : String} {after : Array Edge} {guard : Option (Nat × Bool)}

theorem XStep.nilEq {op : BinOp} {t yt : TypeId} {x y : Operand} {n0 c0 : Nat} (hop : op = .eql ∨ op = .neq) (ho : opsOk n ⟨dst, .binOp op t x y yt, type, pos, after, guard⟩ = true) (hy : evA c y = .v (.slice none n0 c0)) (h : nilEqA P c op t (evA c x) dst K) :
    XStep P n ⟨dst, .binOp op t x y yt, type, pos, after, guard⟩ c K := by
  intro W0 G0 a w g hi next Q hn
  have hmx : x ∈ (Op.binOp op t x y yt).operands := by simp [Op.operands]
  have hmy : y ∈ (Op.binOp op t x y yt).operands := by simp [Op.operands]
  have ey := (rep_v (hy ▸ hi.eval (opsOk_mem ho hmy))).1
  have hr := hi.eval (opsOk_mem ho hmx)
  have go : ∀ (e : TypeId) (A : Option Addr) (m q : Nat), P.underlying t = some (.slice e) → a.eval x = .slice A m q → K (c.put dst (.v (.bool (bif decide (op = .eql) then A.isNone else !A.isNone)))) →
      Oper.wp P ⟨dst, .binOp op t x y yt, type, pos, after, guard⟩ a w next Q := by
    intro e A m q hu ex hk
    unfold Oper.wp
    rw [exec_nilEq hop hu ex ey]
    exact hn _ _ _ g hk (hi.putO (opsOk_dst ho) rep_bool)
  unfold nilEqA at h
  split at h
  · rename_i e k l hu hx
    obtain ⟨A, q, ex, _, _, hh⟩ := rep_sl (hx ▸ hr)
    cases A with
    | none =>
      refine go e none _ q hu ex (h.1 ?_)
      rcases hh with rfl | ⟨b, o, cs, e', _⟩
      · rfl
      · cases e'
    | some A => exact go e (some A) _ q hu ex h.2
  · rename_i e i off k m q hu hx
    obtain ⟨b, _, _, _, _, ex⟩ := rep_bs (hx ▸ hr)
    exact go e _ _ _ hu ex h
  · rename_i e i off k m q hu hx
    obtain ⟨_, b, _, _, _, _, ex⟩ := rep_xs (hx ▸ hr)
    exact go e _ _ _ hu ex h
  · rename_i e m q hu hx
    have ex := (rep_v (hx ▸ hr)).1
    exact go e none _ _ hu ex h
  · exact h.elim

end
end Go.Ev
end
section
/- Written by this session: slices that lie in boxes: copy, append, make. Conditions: none beyond those in each statement. -/
namespace Go.Ev
open Go

theorem leavesE {w : World} {hw : Hw} {k : Nat} : ∀ (l : List AV) (vs : List Value), RepE w hw k l vs → RepL w hw [] 0 (l.flatMap AV.leaves) vs
  | [], _, h => by simp only [RepE] at h; subst h; simp only [List.flatMap_nil, RepL]
  | x :: l, vs, h => by
    simp only [RepE] at h
    obtain ⟨_, h2, h3⟩ := h
    have h1 := repV_leaves h2.1 h2.2
    have := h1.append (leavesE l _ h3)
    rw [List.take_append_drop] at this
    simpa using this

theorem RepL.one {w : World} {hw : Hw} {bs : List Nat} {base : Nat} : ∀ {l : List AV} {vs : List Value}, RepL w hw bs base l vs → ∀ u ∈ vs, u.oneCell' = true
  | [], _, h, u, hu => by simp only [RepL] at h; subst h; simp at hu
  | x :: l, _, h, u, hu => by
    simp only [RepL] at h
    obtain ⟨v, vs', rfl, h1, h2⟩ := h
    rcases List.mem_cons.1 hu with rfl | hu
    · exact h1.2.2
    · exact RepL.one h2 u hu

theorem wrL_all {α : Type} (l : List α) (off : Nat) (xs : List α) : wrL l off xs = l.take off ++ xs ++ l.drop (off + xs.length) := rfl

section
variable {n : Nat} {W0 : World} {G0 : Gh} {c : Cfg} {a : Act} {w : World} {g : Gh} {P : Program}

/-- A row is written into a box. -/
theorem Inv.writeRow (hi : Inv n W0 G0 c a w g) {q off b : Nat} {l ls : List AV} {os : List Nat} {news : List Value} {cs : Array Value} {e : TypeId} (hb : g.bs[q]? = some b) (hbox : c.mem[q]? = some (.cells l os)) (hheap : w.heap[b]? = some (.cells cs e (0, 0)))
    (hr : RepL w g.hw g.bs c.base ls news) (hfit : off + ls.length ≤ l.length) (c' : Cfg) (e1 : c'.fr = c.fr) (e2 : c'.os = c.os)
    (e3 : c'.mem = c.mem.set q (.cells (wrL l off ls) (os.filter fun j => decide (j < off ∨ off + ls.length ≤ j)))) (e4 : c'.base = c.base) (e5 : ∀ x ∈ c'.env, Bx.cl c.base 0 x) :
    Inv n W0 G0 c' a (w.setRow b (wrL cs.toList off news).toArray) g := by
  obtain ⟨cs0, e0, hheap0, hrl, hos⟩ := hi.good.box q _ b hbox hb
  rw [hheap] at hheap0
  cases hheap0
  have hlen := RepL.length hrl
  simp only [Array.length_toList] at hlen
  have hL : news.length = ls.length := RepL.length hr
  have W := oneBlk_setRow (cs' := (wrL cs.toList off news).toArray) hheap
  refine hi.writeAt hbox hb W (fun hH hO => ?_) c' e1 e2 e3 e4 e5
  refine ⟨_, e, W.blk, ?_, fun j hj => ?_⟩
  · have h1 := RepL.mono hH (fun _ _ h => h) _ _ hrl
    have h2 := RepL.mono hH (fun _ _ h => h) _ _ hr
    rw [show (wrL cs.toList off news).toArray.toList = cs.toList.take off ++ news ++ cs.toList.drop (off + ls.length) from by simp only [wrL, hL]]
    exact ((h1.take off).append h2).append (h1.drop (off + ls.length))
  · have hj' := List.mem_filter.1 hj
    have hjr : j < off ∨ off + ls.length ≤ j := by simpa using hj'.2
    obtain ⟨k, l', v, f1, f2, f3⟩ := hos j hj'.1
    refine ⟨k, l', v, by rw [wrL_get hfit hjr]; exact f1, ?_, f3.mono fun b' e => hO _ b' e⟩
    rw [List.getElem?_toArray, wrL_get (by rw [hL]; simpa [hlen] using hfit) (by rw [hL]; exact hjr)]
    simpa using f2

/-- The elements of a slice, as leaves. -/
def srcA (c : Cfg) (k : Nat) (x : AV) (K : Nat → List AV → Prop) : Prop :=
  match x with
  | .sl k' l => bif Nat.beq k k' then K l.length (l.flatMap AV.leaves) else False
  | .bs i off k' m _ => bif Nat.beq k k' then (match c.own[i]? with
    | some (.cells l _) => off + m * k ≤ l.length ∧ K m ((l.drop off).take (m * k))
    | _ => False) else False
  | .xs i off k' m _ => bif Nat.beq k k' then (match c.env[i]? with
    | some (.cells l _) => off + m * k ≤ l.length ∧ K m ((l.drop off).take (m * k))
    | _ => False) else False
  | .v (.slice none 0 _) => K 0 []
  | _ => False

theorem src_run (hi : Inv n W0 G0 c a w g) {k : Nat} {x : AV} {y : Value} {K : Nat → List AV → Prop} (h : srcA c k x K) (hr : Rep w g.hw g.bs c.base x y) :
    ∃ m ls A cp cs, K m ls ∧ y = .slice A m cp ∧ RepL w g.hw g.bs c.base ls cs ∧ cs.length = m * k ∧ ∀ j, j ≤ m → ∀ w' : World, w'.heap = w.heap → (Builtin.firstCells k j y).run P w' = .ok (cs.take (j * k)).toArray w' := by
  have boxed : ∀ (q off m cp b : Nat) (l : List AV) (os : List Nat), c.mem[q]? = some (.cells l os) → g.bs[q]? = some b → y = .slice (some ⟨b, off, none⟩) m cp → off + m * k ≤ l.length → K m ((l.drop off).take (m * k)) →
      ∃ m ls A cp cs, K m ls ∧ y = .slice A m cp ∧ RepL w g.hw g.bs c.base ls cs ∧ cs.length = m * k ∧ ∀ j, j ≤ m → ∀ w' : World, w'.heap = w.heap → (Builtin.firstCells k j y).run P w' = .ok (cs.take (j * k)).toArray w' := by
    intro q off m cp b l os hbox hb ey hfit hk
    obtain ⟨cs, e, hheap, hrl, _⟩ := hi.good.box q _ b hbox hb
    have hlen := RepL.length hrl
    refine ⟨m, _, _, cp, (cs.toList.drop off).take (m * k), hk, ey, (hrl.drop off).take (m * k), by simp only [List.length_take, List.length_drop, hlen]; omega, fun j hj w' hw' => ?_⟩
    subst ey
    have hjk : j * k ≤ m * k := Nat.mul_le_mul_right _ hj
    have hc : CellsAt w' b off ((cs.toList.drop off).take (j * k)) := by
      have h0 := (cells_of_block (w := w') (b := b) (cs := cs) (e := e) (f := (0, 0)) (by rw [hw']; exact hheap)).sub off (j * k)
      simpa using h0
    simp only [Builtin.firstCells]
    have : (((cs.toList.drop off).take (m * k)).take (j * k)) = (cs.toList.drop off).take (j * k) := by rw [List.take_take, Nat.min_eq_left hjk]
    rw [this]
    unfold loadCells
    rw [run_loadCellsFrom (j * k) 0 #[] ((cs.toList.drop off).take (j * k)) (by simp only [List.length_take, List.length_drop, hlen]; omega) (fun i v hv => by simpa using hc i v hv)]
    simp
  unfold srcA at h
  split at h
  · rename_i k' l
    cases hb : Nat.beq k k' with
    | false => rw [hb] at h; exact h.elim
    | true =>
      rw [hb] at h
      have := Nat.eq_of_beq_eq_true hb
      subst this
      obtain ⟨A, cp, e, _, hk0, hh⟩ := rep_sl hr
      subst e
      rcases hh with rfl | ⟨b, o, cs, rfl, hc, hE⟩
      · refine ⟨0, _, A, cp, [], h, rfl, by simp [RepL], by simp, fun j hj w' _ => ?_⟩
        obtain rfl : j = 0 := by omega
        cases A <;> simp [Builtin.firstCells, loadCells, loadCellsFrom]
      · refine ⟨l.length, _, _, cp, cs, h, rfl, RepL.lift _ _ (leavesE l cs hE), RepE.len hE, fun j hj w' hw' => ?_⟩
        have hl := RepE.len hE
        have hjk : j * k ≤ l.length * k := Nat.mul_le_mul_right _ hj
        have hc' := hc.at
        simp only [Builtin.firstCells]
        unfold loadCells
        rw [run_loadCellsFrom (j * k) 0 #[] (cs.take (j * k)) (by simp only [List.length_take]; omega) (fun i v hv => by
          rw [List.getElem?_take] at hv
          split at hv
          · rw [show w'.cell? ⟨b, o + 0 + i, none⟩ = w.cell? ⟨b, o + i, none⟩ from cell?_same (by rw [hw'])]; exact hc' i v hv
          · cases hv)]
        simp
  · rename_i i off k' m cp
    cases hb : Nat.beq k k' with
    | false => rw [hb] at h; exact h.elim
    | true =>
      rw [hb] at h
      have := Nat.eq_of_beq_eq_true hb
      subst this
      simp only [cond_true] at h
      split at h
      · rename_i l os hbox
        obtain ⟨b, hb, _, _, _, ey⟩ := rep_bs hr
        exact boxed _ off m cp b l os (mem_own hbox) hb ey h.1 h.2
      · exact h.elim
  · rename_i i off k' m cp
    cases hb : Nat.beq k k' with
    | false => rw [hb] at h; exact h.elim
    | true =>
      rw [hb] at h
      have := Nat.eq_of_beq_eq_true hb
      subst this
      simp only [cond_true] at h
      split at h
      · rename_i l os hbox
        obtain ⟨_, b, hb, _, _, _, ey⟩ := rep_xs hr
        exact boxed _ off m cp b l os (mem_env hbox) hb ey h.1 h.2
      · exact h.elim
  · rename_i cp
    have ey := (rep_v hr).1
    subst ey
    refine ⟨0, [], none, cp, [], h, rfl, by simp only [RepL], by simp, fun j hj w' _ => ?_⟩
    simp [Builtin.firstCells]
  · exact h.elim

def setBox (c : Cfg) (own : Bool) (i : Nat) (x : Bx) : Cfg := bif own then { c with own := c.own.set i x } else { c with env := c.env.set i x }

def mkSl (ow : Bool) (i off k n c : Nat) : AV := bif ow then .bs i off k n c else .xs i off k n c

/-- The box and the row of it in which a slice lies. -/
def dstA (c : Cfg) (k : Nat) (x : AV) (K : Bool → Nat → Nat → Nat → Nat → List AV → List Nat → Prop) : Prop :=
  match x with
  | .bs i off k' m cp => bif Nat.beq k k' then (match c.own[i]? with
    | some (.cells l os) => K true i off m cp l os
    | _ => False) else False
  | .xs i off k' m cp => bif Nat.beq k k' then (match c.env[i]? with
    | some (.cells l os) => K false i off m cp l os
    | _ => False) else False
  | _ => False

theorem dst_run (hi : Inv n W0 G0 c a w g) {k : Nat} {x : AV} {y : Value} {K : Bool → Nat → Nat → Nat → Nat → List AV → List Nat → Prop} (h : dstA c k x K) (hr : Rep w g.hw g.bs c.base x y) :
    ∃ ow i off m cp l os q b cs e, K ow i off m cp l os ∧ y = .slice (some ⟨b, off, none⟩) m cp ∧ g.bs[q]? = some b ∧ c.mem[q]? = some (.cells l os) ∧ w.heap[b]? = some (.cells cs e (0, 0)) ∧ cs.size = l.length ∧ 0 < k ∧ m ≤ cp ∧ cp ≤ 9223372036854775807 ∧
      (∀ (w' : World) (hw' : Hw) (m' : Nat), m' ≤ cp → Rep w' hw' g.bs c.base (mkSl ow i off k m' cp) (.slice (some ⟨b, off, none⟩) m' cp)) ∧
      (∀ off' ls os', (ow = true ∨ pfL ls = true) → (setBox c ow i (.cells (wrL l off' ls) os')).mem = c.mem.set q (.cells (wrL l off' ls) os') ∧ (∀ x ∈ (setBox c ow i (.cells (wrL l off' ls) os')).env, Bx.cl c.base 0 x) ∧ (setBox c ow i (.cells (wrL l off' ls) os')).base = c.base) := by
  unfold dstA at h
  split at h
  · rename_i i off k' m cp
    cases hb : Nat.beq k k' with
    | false => rw [hb] at h; exact h.elim
    | true =>
      rw [hb] at h
      have := Nat.eq_of_beq_eq_true hb
      subst this
      simp only [cond_true] at h
      split at h
      · rename_i l os hbox
        obtain ⟨b, hb, hk0, hmc, hcp, ey⟩ := rep_bs hr
        obtain ⟨cs, e, hheap, hrl, _⟩ := hi.good.box _ _ b (mem_own hbox) hb
        have hlen := RepL.length hrl
        refine ⟨true, i, off, m, cp, l, os, _, b, cs, e, h, ey, hb, mem_own hbox, hheap, by simpa using hlen, hk0, hmc, hcp, fun w' hw' m' hm' => rep_mk_leaf rfl rfl (by simp only [mkSl, cond_true, RepV]; exact ⟨b, hb, hk0, hm', hcp, rfl⟩), fun off' ls os' _ => ⟨set_own, hi.ecl, rfl⟩⟩
      · exact h.elim
  · rename_i i off k' m cp
    cases hb : Nat.beq k k' with
    | false => rw [hb] at h; exact h.elim
    | true =>
      rw [hb] at h
      have := Nat.eq_of_beq_eq_true hb
      subst this
      simp only [cond_true] at h
      split at h
      · rename_i l os hbox
        obtain ⟨hib, b, hb, hk0, hmc, hcp, ey⟩ := rep_xs hr
        obtain ⟨cs, e, hheap, hrl, _⟩ := hi.good.box _ _ b (mem_env hbox) hb
        have hlen := RepL.length hrl
        have hil := (List.getElem?_eq_some_iff.1 hbox).1
        have hcl : ∀ off' ls os', pfL ls = true → Bx.cl c.base 0 (.cells (wrL l off' ls) os') := fun off' ls os' hp => by
          have := hi.ecl _ (List.mem_of_getElem? hbox)
          simp only [Bx.cl] at this ⊢
          exact clL_app (clL_app (clL_take _ this) (clL_of_pf _ hp)) (clL_drop _ this)
        refine ⟨false, i, off, m, cp, l, os, _, b, cs, e, h, ey, hb, mem_env hbox, hheap, by simpa using hlen, hk0, hmc, hcp, fun w' hw' m' hm' => rep_mk_leaf rfl rfl (by simp only [mkSl, cond_false, RepV]; exact ⟨hib, b, hb, hk0, hm', hcp, rfl⟩), fun off' ls os' hp => ⟨set_env hil, ecl_set hi.ecl (hcl _ _ _ (by simpa using hp)), by simp [setBox, Cfg.base]⟩⟩
      · exact h.elim
  · exact h.elim

/-- copy. -/
def copyA (P : Program) (c : Cfg) (cl : Call) (dst : Option Tmp) (K : Cfg → Prop) : Prop :=
  match cl.args.toList, cl.argTypes.toList with
  | [d, s], [t, _] => (match P.underlying t with
    | some (.slice e) => bif (P.underlying e).isSome then dstA c (P.cellsOf e) (evA c d) fun ow i off m _ l os => srcA c (P.cellsOf e) (evA c s) fun ms ls =>
        off + m * P.cellsOf e ≤ l.length ∧ (ow = true ∨ pfL ls = true) ∧
          K ((setBox c ow i (.cells (wrL l off (ls.take (Nat.min ms m * P.cellsOf e))) (os.filter fun j => decide (j < off ∨ off + (ls.take (Nat.min ms m * P.cellsOf e)).length ≤ j)))).put dst (.v (.int .i64 (Nat.min ms m)))) else False
    | _ => False)
  | _, _ => False
end

theorem pfL_take : ∀ {l : List AV} (k : Nat), pfL l = true → pfL (l.take k) = true
  | _, 0, _ => by simp [pfL]
  | [], k + 1, _ => by simp [pfL]
  | x :: l, k + 1, h => by simp only [List.take_succ_cons, pfL, Bool.and_eq_true] at h ⊢; exact ⟨h.1, pfL_take k h.2⟩

section
variable {P : Program} {n : Nat} {c : Cfg} {K : Cfg → Prop} {dst : Option Tmp} {type : TypeId} {pos : String} {after : Array Edge} {guard : Option (Nat × Bool)}

theorem copyA_sound {cl : Call} (hcl : cl.callee = .builtin .copy) (ho : opsOk n ⟨dst, .call cl, type, pos, after, guard⟩ = true) (h : copyA P c cl dst K) : XStep P n ⟨dst, .call cl, type, pos, after, guard⟩ c K := by
  obtain ⟨callee, args, argTypes⟩ := cl
  simp only at hcl
  subst hcl
  unfold copyA at h
  split at h
  · rename_i d s t t' ha ht
    have e1 : args = #[d, s] := by apply Array.toList_inj.1; simpa using ha
    have e2 : argTypes = #[t, t'] := by apply Array.toList_inj.1; simpa using ht
    subst e1 e2
    split at h
    · rename_i e hu
      cases hz : (P.underlying e).isSome with
      | false => rw [hz] at h; exact h.elim
      | true =>
        rw [hz] at h
        simp only [cond_true] at h
        intro W0 G0 a w g hi next Q hn
        have hmd : d ∈ (Op.call ⟨.builtin .copy, #[d, s], #[t, t']⟩).operands := by simp [Op.operands, Call.operands]
        have hms : s ∈ (Op.call ⟨.builtin .copy, #[d, s], #[t, t']⟩).operands := by simp [Op.operands, Call.operands]
        obtain ⟨ow, i, off, m, cp, l, os, q, b, cs, et, h, ed, hb, hbox, hheap, hsz, hk0, hmc, _, _, hset⟩ := dst_run hi h (hi.eval (opsOk_mem ho hmd))
        obtain ⟨ms, ls, A, cps, news, ⟨hfit, hpf, hK⟩, es, hrn, hnl, hfc⟩ := src_run (P := P) hi h (hi.eval (opsOk_mem ho hms))
        have hls := RepL.length hrn
        have hmm : Nat.min ms m * P.cellsOf e ≤ m * P.cellsOf e := Nat.mul_le_mul_right _ (Nat.min_le_right _ _)
        have hmm' : Nat.min ms m * P.cellsOf e ≤ ms * P.cellsOf e := Nat.mul_le_mul_right _ (Nat.min_le_left _ _)
        have hL : (ls.take (Nat.min ms m * P.cellsOf e)).length = Nat.min ms m * P.cellsOf e := by rw [List.length_take]; omega
        have hN : (news.take (Nat.min ms m * P.cellsOf e)).length = Nat.min ms m * P.cellsOf e := by rw [List.length_take]; omega
        have hst := run_storeCells_at P b off et (news.take (Nat.min ms m * P.cellsOf e)) 0 cs w hheap (by rw [hN]; omega) (fun v hv => RepL.one hrn v (List.mem_of_mem_take hv))
        simp only [Nat.add_zero] at hst
        have hpf' : ow = true ∨ pfL (ls.take (Nat.min ms m * P.cellsOf e)) = true := hpf.imp id (pfL_take _)
        obtain ⟨s1, s2, s3⟩ := hset off (ls.take (Nat.min ms m * P.cellsOf e)) (os.filter fun j => decide (j < off ∨ off + (ls.take (Nat.min ms m * P.cellsOf e)).length ≤ j)) hpf'
        have hi' := hi.writeRow hb hbox hheap (hrn.take _) (by rw [hL]; omega) (setBox c ow i (.cells (wrL l off (ls.take (Nat.min ms m * P.cellsOf e))) (os.filter fun j => decide (j < off ∨ off + (ls.take (Nat.min ms m * P.cellsOf e)).length ≤ j)))) (by cases ow <;> rfl) (by cases ow <;> rfl) s1 s3 s2
        unfold Oper.wp
        have hrun : (execOp a.eval ⟨dst, .call ⟨.builtin .copy, #[d, s], #[t, t']⟩, type, pos, after, guard⟩).run P w = .ok (.value (goInt (Nat.min ms m))) (w.setRow b (wrL cs.toList off (news.take (Nat.min ms m * P.cellsOf e))).toArray) := by
          have hfc' := hfc (Nat.min ms m) (Nat.min_le_left _ _) w rfl
          rw [es] at hfc'
          simp only [execOp, resolve, invoke, builtin, Sem.run_bind, Sem.run_pure, Result.andThen_ok, List.map_toArray, List.map_cons, List.map_nil, ed, es, Builtin.copy_, Builtin.lenOf]
          simp [hst, wrL_all, run_und hu, run_size (info_of_und hz), hfc']
        rw [hrun]
        exact hn _ _ _ g hK (hi'.putO (opsOk_dst ho) rep_int)
    · exact h.elim
  · exact h.elim
end
end Go.Ev
end
section
/- Written by this session: append to slices that lie in boxes. Conditions: none beyond those in each statement. -/
namespace Go.Ev
open Go

theorem zeroCells_list (z : Array Value) (n : Nat) : (Builtin.zeroCells z n).toList = (List.replicate n z.toList).flatten := by
  unfold Builtin.zeroCells
  induction n with
  | zero => simp
  | succ n ih =>
    rw [List.replicate_succ', List.flatten_concat]
    have e : (Array.map (fun i => z[i % z.size]!) (Array.range ((n + 1) * z.size))).toList = (Array.map (fun i => z[i % z.size]!) (Array.range (n * z.size))).toList ++ z.toList := by
      simp only [Array.toList_map, Array.toList_range]
      rw [Nat.add_mul, Nat.one_mul, List.range_add, List.map_append]
      congr 1
      apply List.ext_getElem
      · simp
      · intro i h1 h2
        have hi : i < z.size := by simpa using h2
        simp only [List.getElem_map, List.getElem_range, Array.getElem_toList]
        rw [show (n * z.size + i) % z.size = i from by rw [Nat.mul_comm, Nat.mul_add_mod, Nat.mod_eq_of_lt hi]]
        simp [hi]
    rw [e, ih]

theorem RepL.replicate {w : World} {hw : Hw} {bs : List Nat} {base : Nat} {l : List AV} {vs : List Value} (h : RepL w hw bs base l vs) : ∀ n : Nat, RepL w hw bs base (List.replicate n l).flatten (List.replicate n vs).flatten
  | 0 => by simp [RepL]
  | n + 1 => by
    rw [List.replicate_succ, List.replicate_succ, List.flatten_cons, List.flatten_cons]
    exact h.append (RepL.replicate h n)

/-- What lies in a new block behind an append. -/
def grownL (old ls : List AV) (rest : Nat) (z : Value) : List AV := old ++ ls ++ (List.replicate rest (cst z).leaves).flatten

def appendB (P : Program) (n : Nat) (c : Cfg) (cl : Call) (dst : Option Tmp) (K : Cfg → Prop) : Prop :=
  match cl.args.toList, cl.argTypes.toList, dst with
  | [x0, x1], [t, t'], some _ => match P.underlying t, P.underlying t' with
    | some (.slice e), some (.slice _) => match P.info? e with
      | some i => match i.zero with
        | some z => bif Nat.blt 0 i.size && Nat.beq z.cells.size i.size && okTmp n (.const z) && leavesOk (cst z) then
            match evA c x0 with
            | .v (.slice none 0 0) => srcA c i.size (evA c x1) fun m1 ls => m1 * i.bytes ≤ 140737488355328 ∧ m1 ≤ 140737488355328 ∧
                (m1 = 0 → K (c.put dst (.v (.slice none 0 0)))) ∧
                (0 < m1 → ∀ c', m1 ≤ c' → c' ≤ 9223372036854775807 → K (({ c with own := c.own ++ [.cells (grownL [] ls (c' - m1) z) []] } : Cfg).put dst (.bs c.own.length 0 i.size m1 c')))
            | x => dstA c i.size x fun ow bi off m cp l os => srcA c i.size (evA c x1) fun m1 ls => (m + m1) * i.bytes ≤ 140737488355328 ∧ m + m1 ≤ 140737488355328 ∧ off + cp * i.size ≤ l.length ∧ (ow = true ∨ pfL ls = true) ∧
                (m + m1 ≤ cp → K ((setBox c ow bi (.cells (wrL l (off + m * i.size) ls) (os.filter fun j => decide (j < off + m * i.size ∨ off + m * i.size + ls.length ≤ j)))).put dst (mkSl ow bi off i.size (m + m1) cp))) ∧
                (cp < m + m1 → ∀ c', m + m1 ≤ c' → c' ≤ 9223372036854775807 → K (({ c with own := c.own ++ [.cells (grownL ((l.drop off).take (m * i.size)) ls (c' - (m + m1)) z) []] } : Cfg).put dst (.bs c.own.length 0 i.size (m + m1) c')))
          else False
        | none => False
      | none => False
    | _, _ => False
  | _, _, _ => False

section
variable {P : Program} {n : Nat} {c : Cfg} {K : Cfg → Prop} {dst : Option Tmp} {type : TypeId} {pos : String} {after : Array Edge} {guard : Option (Nat × Bool)}

theorem appendB_sound {cl : Call} (hcl : cl.callee = .builtin .append) (ho : opsOk n ⟨dst, .call cl, type, pos, after, guard⟩ = true) (h : appendB P n c cl dst K) : XStep P n ⟨dst, .call cl, type, pos, after, guard⟩ c K := by
  obtain ⟨callee, args, argTypes⟩ := cl
  simp only at hcl
  subst hcl
  unfold appendB at h
  split at h
  · rename_i x0 x1 t t' d ha ht
    have e1 : args = #[x0, x1] := by apply Array.toList_inj.1; simpa using ha
    have e2 : argTypes = #[t, t'] := by apply Array.toList_inj.1; simpa using ht
    subst e1 e2
    split at h
    · rename_i e e' hu hu'
      split at h
      · rename_i i hin
        split at h
        · rename_i z hz
          cases hc : (Nat.blt 0 i.size && Nat.beq z.cells.size i.size && okTmp n (.const z) && leavesOk (cst z)) with
          | false => rw [hc] at h; exact h.elim
          | true =>
            rw [hc] at h
            simp only [cond_true] at h
            simp only [Bool.and_eq_true] at hc
            obtain ⟨⟨⟨k0, kz⟩, okz⟩, lz⟩ := hc
            have hzk : z.cells.size = i.size := Nat.eq_of_beq_eq_true kz
            have hk0 : 0 < i.size := by rw [← Nat.blt_eq]; exact k0
            intro W0 G0 a w g hi next Q hn
            have hm0 : x0 ∈ (Op.call ⟨.builtin .append, #[x0, x1], #[t, t']⟩).operands := by simp [Op.operands, Call.operands]
            have hm1 : x1 ∈ (Op.call ⟨.builtin .append, #[x0, x1], #[t, t']⟩).operands := by simp [Op.operands, Call.operands]
            have r0 := hi.eval (opsOk_mem ho hm0)
            have r1 := hi.eval (opsOk_mem ho hm1)
            have hrun0 : ∀ u w', (Builtin.append_ #[t, t'] type #[a.eval x0, a.eval x1]).run P w = .ok u w' → (execOp a.eval ⟨some d, .call ⟨.builtin .append, #[x0, x1], #[t, t']⟩, type, pos, after, guard⟩).run P w = .ok (.value u) w' := by
              intro u w' h
              simp [execOp, resolve, invoke, builtin, h]
            have hzr : RepL w g.hw g.bs c.base (cst z).leaves z.cells.toList := (rep_cells (leavesOk_or lz) (cst_rep (hw := g.hw) (bs := g.bs) (base := c.base) (w := w) z okz)).1
            -- a new block
            have grow : ∀ (A : Option Addr) (m cp : Nat) (old : List AV) (olds : List Value) (m1 : Nat) (ls : List AV) (A1 : Option Addr) (cp1 : Nat) (news : List Value), a.eval x0 = .slice A m cp → a.eval x1 = .slice A1 m1 cp1 →
                RepL w g.hw g.bs c.base old olds → RepL w g.hw g.bs c.base ls news → (∀ w' : World, w'.heap = w.heap → (Builtin.firstCells i.size m (.slice A m cp)).run P w' = .ok olds.toArray w') →
                (∀ w' : World, w'.heap = w.heap → (Builtin.firstCells i.size m1 (.slice A1 m1 cp1)).run P w' = .ok news.toArray w') → cp < m + m1 → (m + m1) * i.bytes ≤ 140737488355328 → m + m1 ≤ 140737488355328 →
                (∀ c', m + m1 ≤ c' → c' ≤ 9223372036854775807 → K (({ c with own := c.own ++ [.cells (grownL old ls (c' - (m + m1)) z) []] } : Cfg).put (some d) (.bs c.own.length 0 i.size (m + m1) c'))) →
                Oper.wp P ⟨some d, .call ⟨.builtin .append, #[x0, x1], #[t, t']⟩, type, pos, after, guard⟩ a w next Q := by
              intro A m cp old olds m1 ls A1 cp1 news e0 e1 ho1 hn1 f0 f1 hg hb h47 hK
              have h63 : m + m1 ≤ maxLen := by simp only [maxLen]; omega
              have hrun := run_append_grows (w := w) (ty := type) (x := .slice A1 m1 cp1) hu hu' hin hz (fun w' => by simp [Builtin.lenOf]) f0 f1 hg hb h63
              rw [← e0, ← e1] at hrun
              have hge := grownCap_ge w (m + m1) cp e
              have hle := grownCap_le_maxLen w (m + m1) cp e h63
              simp only [maxLen] at hle
              generalize hcp : grownCap w (m + m1) cp e = c' at *
              have hid := hi.drew
              obtain ⟨g', hi', hb'⟩ := hid.newBoxG (.cells (grownL old ls (c' - (m + m1)) z) []) (.cells (olds.toArray ++ news.toArray ++ Builtin.zeroCells z.cells (c' - (m + m1))) e) fun g' hH hB =>
                ⟨_, e, heap_push_new, by
                  have hH' : HwLe w g.hw (push w.drew (.cells (olds.toArray ++ news.toArray ++ Builtin.zeroCells z.cells (c' - (m + m1))) e)) g'.hw := HwLe.trans (w2 := w.drew) (HwLe.of_heap (w := w) (w' := w.drew) rfl) hH
                  have q1 := RepL.mono hH' hB _ _ ho1
                  have q2 := RepL.mono hH' hB _ _ hn1
                  have q3 := RepL.mono hH' hB _ _ (hzr.replicate (c' - (m + m1)))
                  have := (q1.append q2).append q3
                  simpa [grownL, zeroCells_list] using this, by simp⟩
              unfold Oper.wp
              rw [hrun0 _ _ hrun]
              refine hn _ _ _ g' (hK c' hge hle) (hi'.put (opsOk_dst ho d rfl) (rep_mk_leaf rfl rfl ?_))
              simp only [RepV]
              exact ⟨_, hb', hk0, hge, hle, rfl⟩
            split at h
            · rename_i hx0
              obtain ⟨m1, ls, A1, cp1, news, ⟨hb, h47, hK0, hK1⟩, es, hrn, hnl, hfc⟩ := src_run (P := P) hi h r1
              have e0 := (rep_v (hx0 ▸ r0)).1
              have hfc' : ∀ w' : World, w'.heap = w.heap → (Builtin.firstCells i.size m1 (.slice A1 m1 cp1)).run P w' = .ok news.toArray w' := fun w' hw' => by
                have := hfc m1 (Nat.le_refl _) w' hw'
                rw [es, List.take_of_length_le (by omega)] at this; exact this
              rcases Nat.eq_zero_or_pos m1 with hz1 | hp
              · subst hz1
                unfold Oper.wp
                have hf := hfc' w rfl
                have hnn : news = [] := List.eq_nil_of_length_eq_zero (by omega)
                subst hnn
                rw [hrun0 (.slice none 0 0) w (by rw [e0, es]; simp [Builtin.append_, run_und hu, run_und hu', sizeOf, typeInfo, hin, Builtin.lenOf, hf])]
                exact hn _ _ _ g (hK0 rfl) (hi.put (opsOk_dst ho d rfl) (rep_v_mk rfl))
              · refine grow none 0 0 [] [] m1 ls A1 cp1 news e0 es (by simp only [RepL]) hrn (fun w' _ => by simp [Builtin.firstCells]) hfc' (by omega) (by simpa using hb) (by omega) (fun c' q1 q2 => ?_)
                have := hK1 hp c' (by omega) q2
                simpa using this
            · obtain ⟨ow, bi, off, m, cp, l, os, q, b, cs, et, h, ed, hb, hbox, hheap, hsz, _, hmc, hcp47, hrep, hset⟩ := dst_run hi h r0
              obtain ⟨m1, ls, A1, cp1, news, ⟨hby, h47, hfit, hpf, hK0, hK1⟩, es, hrn, hnl, hfc⟩ := src_run (P := P) hi h r1
              have hls := RepL.length hrn
              have hfc' : ∀ w' : World, w'.heap = w.heap → (Builtin.firstCells i.size m1 (.slice A1 m1 cp1)).run P w' = .ok news.toArray w' := fun w' hw' => by
                have := hfc m1 (Nat.le_refl _) w' hw'
                rw [es, List.take_of_length_le (by omega)] at this; exact this
              have hmk : m * i.size ≤ cp * i.size := Nat.mul_le_mul_right _ hmc
              by_cases hroom : m + m1 ≤ cp
              · have hmul : m * i.size + m1 * i.size ≤ cp * i.size := by rw [← Nat.add_mul]; exact Nat.mul_le_mul_right _ hroom
                have hrun := run_append_fits (w := w) (ty := type) (x := .slice A1 m1 cp1) (o := off) hu hu' hin (fun w' => by simp [Builtin.lenOf]) hfc' hheap hnl (RepL.one hrn) hroom (by rw [hsz]; exact hfit)
                rw [← ed, ← es] at hrun
                obtain ⟨s1, s2, s3⟩ := hset (off + m * i.size) ls (os.filter fun j => decide (j < off + m * i.size ∨ off + m * i.size + ls.length ≤ j)) hpf
                have hi' := hi.writeRow hb hbox hheap hrn (by rw [← hls, hnl]; omega) (setBox c ow bi (.cells (wrL l (off + m * i.size) ls) (os.filter fun j => decide (j < off + m * i.size ∨ off + m * i.size + ls.length ≤ j)))) (by cases ow <;> rfl) (by cases ow <;> rfl) s1 s3 s2
                unfold Oper.wp
                rw [hrun0 _ _ hrun]
                refine hn _ _ _ g (hK0 hroom) (hi'.put (opsOk_dst ho d rfl) ?_)
                rw [s3]; exact hrep _ _ _ hroom
              · refine grow _ m cp ((l.drop off).take (m * i.size)) ((cs.toList.drop off).take (m * i.size)) m1 ls A1 cp1 news ed es ?_ hrn (fun w' hw' => ?_) hfc' (by omega) hby h47 (hK1 (by omega))
                · obtain ⟨cs0, e0, hheap0, hrl, _⟩ := hi.good.box q _ b hbox hb
                  rw [hheap] at hheap0
                  cases hheap0
                  exact (hrl.drop off).take _
                · have hc : CellsAt w' b off ((cs.toList.drop off).take (m * i.size)) := by
                    have h0 := (cells_of_block (w := w') (b := b) (cs := cs) (e := et) (f := (0, 0)) (by rw [hw']; exact hheap)).sub off (m * i.size)
                    simpa using h0
                  simp only [Builtin.firstCells]
                  unfold loadCells
                  rw [run_loadCellsFrom (m * i.size) 0 #[] ((cs.toList.drop off).take (m * i.size)) (by simp only [List.length_take, List.length_drop, Array.length_toList, hsz]; omega) (fun i v hv => by simpa using hc i v hv)]
                  simp
        · exact h.elim
      · exact h.elim
    · exact h.elim
  · exact h.elim
end
end Go.Ev
end
section
/- Written by this session: a slice out of parts, in a box. Conditions: none beyond those in each statement. -/
namespace Go.Ev
open Go

theorem repL_flat {w : World} {hw : Hw} {bs : List Nat} {base k : Nat} : ∀ (l : List AV) (ys : List Value), RepT w hw bs base l ys → (∀ x ∈ l, leavesOk x = true ∧ x.leaves.length = k) →
    RepL w hw bs base (l.flatMap AV.leaves) (ys.flatMap fun v => v.cells.toList) ∧ (∀ y ∈ ys, y.cells.size = k) ∧ ys.length = l.length
  | [], _, h, _ => by simp only [RepT] at h; subst h; simp [RepL]
  | x :: l, _, h, hl => by
    simp only [RepT] at h
    obtain ⟨y, ys, rfl, h1, h2⟩ := h
    obtain ⟨q1, q3⟩ := hl x (by simp)
    obtain ⟨r1, r2⟩ := rep_cells (leavesOk_or q1) (rep_of h1)
    obtain ⟨i1, i2, i3⟩ := repL_flat l ys h2 fun z hz => hl z (by simp [hz])
    refine ⟨by simp only [List.flatMap_cons]; exact r1.append i1, fun z hz => ?_, by simp [i3]⟩
    rcases List.mem_cons.1 hz with rfl | hz
    · rw [r2, q3]
    · exact i2 z hz

section
variable {P : Program} {n : Nat} {c : Cfg} {K : Cfg → Prop}

theorem XStep.buildSliceB {t e : TypeId} {len k : Nat} {parts : Array (Nat × Operand)} {xs : List Operand} {i : TypeInfo} {z : Value} {d : Nat} {type : TypeId} {pos : String} {after : Array Edge} {guard : Option (Nat × Bool)}
    (ho : opsOk n ⟨some d, .buildSlice t len parts, type, pos, after, guard⟩ = true) (ht : P.underlying t = some (.slice e)) (hin : P.info? e = some i) (hz : i.zero = some z) (hk : i.size = k) (hk0 : 0 < k)
    (hlen : len = xs.length) (hparts : parts.toList = xs.zipIdx.map fun (x, j) => (j, x)) (hsm : len * k ≤ 16777216)
    (hxs : ∀ x ∈ xs, leavesOk (evA c x) = true ∧ (evA c x).isTup = false ∧ (evA c x).leaves.length = k)
    (h : K (({ c with own := c.own ++ [.cells ((xs.map (evA c)).flatMap AV.leaves) []] } : Cfg).put (some d) (.bs c.own.length 0 k xs.length xs.length))) : XStep P n ⟨some d, .buildSlice t len parts, type, pos, after, guard⟩ c K := by
  intro W0 G0 a w g hi next Q hn
  have hmem : ∀ x ∈ xs, x ∈ (Op.buildSlice t len parts).operands := fun x hx => by
    obtain ⟨j, hj, rfl⟩ := List.mem_iff_getElem.1 hx
    simp only [Op.operands, List.mem_toArray, List.mem_map, hparts]
    exact ⟨(j, xs[j]), ⟨(xs[j], j), by simp [List.mem_zipIdx_iff_getElem?, List.getElem?_eq_getElem hj], rfl⟩, rfl⟩
  have hT := argsRep hi xs (fun x hx => opsOk_mem ho (hmem x hx)) (by
    rw [List.all_eq_true]; intro x hx; rw [(hxs x hx).2.1]; rfl)
  obtain ⟨hE, hcs, hl⟩ := repL_flat (k := k) _ _ hT (by
    intro y hy
    obtain ⟨x, hx, rfl⟩ := List.mem_map.1 hy
    exact ⟨(hxs x hx).1, (hxs x hx).2.2⟩)
  simp only [List.length_map] at hl
  subst hlen
  let cells0 : Array Value := (Array.range (xs.length * k)).map fun j => (if xs.length * k = 0 then (#[] : Array Value) else z.cells)[j % (if xs.length * k = 0 then (#[] : Array Value) else z.cells).size]!
  obtain ⟨cells', hfill, hcl⟩ := fill_row hk0 (xs.map a.eval) 0 cells0 [] hcs (by simp) (by simp [cells0])
  have hcells : cells' = ((xs.map a.eval).flatMap fun v => v.cells.toList).toArray := by apply Array.toList_inj.1; rw [hcl]; simp
  have hps : (parts.map fun (p : Nat × Operand) => (p.1, a.eval p.2)).toList = ((xs.map a.eval).zipIdx 0).map fun (v, j) => (j, v) := by
    rw [Array.toList_map, hparts]
    simp [List.zipIdx_map]
  obtain ⟨g', hi', hb'⟩ := hi.newBoxG (.cells ((xs.map (evA c)).flatMap AV.leaves) []) (.cells cells' e) fun g' hH hB =>
    ⟨_, e, heap_push_new, by rw [show cells'.toList = (xs.map a.eval).flatMap fun v => v.cells.toList from by rw [hcl]; simp]; exact RepL.mono hH hB _ _ hE, by simp⟩
  unfold Oper.wp
  have hsz : (sizeOf e).run P w = .ok k w := by simp [sizeOf, typeInfo, hin, hk]
  have hrun : (execOp a.eval ⟨some d, .buildSlice t xs.length parts, type, pos, after, guard⟩).run P w = .ok (.value (.slice (some ⟨w.heap.size, 0, none⟩) xs.length xs.length)) (push w (.cells cells' e)) := by
    have hc0 : ∀ zz : Array Value, zz = (if xs.length * k = 0 then (#[] : Array Value) else z.cells) → (Array.range (xs.length * k)).map (fun x => zz[x % zz.size]!) = cells0 := by rintro _ rfl; rfl
    simp only [execOp, Instr.buildSlice, Sem.run_bind, run_und ht, Result.andThen_ok, hsz]
    rw [if_neg (by omega : ¬ xs.length * k > 2 ^ 24)]
    simp only [hps]
    by_cases h0 : xs.length * k = 0
    · rw [if_pos h0]
      simp only [Sem.run_bind, Sem.run_pure, Result.andThen_ok]
      rw [hc0 #[] (by rw [if_pos h0]), hfill]
      simp [newRow, push]
    · rw [if_neg h0]
      have hzv : (zeroValue e).run P w = .ok z w := by simp [zeroValue, typeInfo, hin, hz]
      simp only [Sem.run_bind, Sem.run_pure, Result.andThen_ok, hzv]
      rw [hc0 z.cells (by rw [if_neg h0]), hfill]
      simp [newRow, push]
  rw [hrun]
  refine hn _ _ _ g' h (hi'.put (opsOk_dst ho d rfl) (rep_mk_leaf rfl rfl ?_))
  simp only [RepV]
  exact ⟨_, hb', hk0, Nat.le_refl _, Nat.le_trans (Nat.le_mul_of_pos_right _ hk0) (Nat.le_trans hsm (by decide)), rfl⟩
end
end Go.Ev
end
section
/- Written by this session: append of zeros to a slice in a box that has no room. Conditions: none beyond those in each statement. -/
namespace Go.Ev
open Go

def appendZ (P : Program) (n : Nat) (c : Cfg) (cl : Call) (dst : Option Tmp) (K : Cfg → Prop) : Prop :=
  match cl.args.toList, cl.argTypes.toList, dst with
  | [x0, x1], [t, t'], some _ => match P.underlying t, P.underlying t', evA c x1 with
    | some (.slice e), some (.int _), .v (.int _ q) => match P.info? e with
      | some i => match i.zero with
        | some z => bif Nat.blt 0 i.size && Nat.beq z.cells.size i.size && okTmp n (.const z) && leavesOk (cst z) then
            dstA c i.size (evA c x0) fun _ _ off m cp l _ => 0 < q ∧ (m + q.toNat) * i.bytes ≤ 140737488355328 ∧ m + q.toNat ≤ 140737488355328 ∧ off + cp * i.size ≤ l.length ∧ cp < m + q.toNat ∧
                (∀ c', m + q.toNat ≤ c' → c' ≤ 9223372036854775807 → K (({ c with own := c.own ++ [.cells (grownL ((l.drop off).take (m * i.size)) (List.replicate q.toNat (cst z).leaves).flatten (c' - (m + q.toNat)) z) []] } : Cfg).put dst (.bs c.own.length 0 i.size (m + q.toNat) c')))
          else False
        | none => False
      | none => False
    | _, _, _ => False
  | _, _, _ => False

section
variable {P : Program} {n : Nat} {c : Cfg} {K : Cfg → Prop} {dst : Option Tmp} {type : TypeId} {pos : String} {after : Array Edge} {guard : Option (Nat × Bool)}

theorem appendZ_sound {cl : Call} (hcl : cl.callee = .builtin .append) (ho : opsOk n ⟨dst, .call cl, type, pos, after, guard⟩ = true) (h : appendZ P n c cl dst K) : XStep P n ⟨dst, .call cl, type, pos, after, guard⟩ c K := by
  obtain ⟨callee, args, argTypes⟩ := cl
  simp only at hcl
  subst hcl
  unfold appendZ at h
  split at h
  · rename_i x0 x1 t t' d ha ht
    have e1 : args = #[x0, x1] := by apply Array.toList_inj.1; simpa using ha
    have e2 : argTypes = #[t, t'] := by apply Array.toList_inj.1; simpa using ht
    subst e1 e2
    split at h
    · rename_i e kn kq qi hu hu' hx1
      split at h
      · rename_i i hin
        split at h
        · rename_i z hz
          cases hc : (Nat.blt 0 i.size && Nat.beq z.cells.size i.size && okTmp n (.const z) && leavesOk (cst z)) with
          | false => rw [hc] at h; exact h.elim
          | true =>
            rw [hc] at h
            simp only [cond_true] at h
            simp only [Bool.and_eq_true] at hc
            obtain ⟨⟨⟨k0, kz⟩, okz⟩, lz⟩ := hc
            have hzk : z.cells.size = i.size := Nat.eq_of_beq_eq_true kz
            have hk0 : 0 < i.size := by rw [← Nat.blt_eq]; exact k0
            intro W0 G0 a w g hi next Q hn
            have hm0 : x0 ∈ (Op.call ⟨.builtin .append, #[x0, x1], #[t, t']⟩).operands := by simp [Op.operands, Call.operands]
            have hm1 : x1 ∈ (Op.call ⟨.builtin .append, #[x0, x1], #[t, t']⟩).operands := by simp [Op.operands, Call.operands]
            have r0 := hi.eval (opsOk_mem ho hm0)
            have ex1 := (rep_v (hx1 ▸ hi.eval (opsOk_mem ho hm1))).1
            have hrun0 : ∀ u w', (Builtin.append_ #[t, t'] type #[a.eval x0, a.eval x1]).run P w = .ok u w' → (execOp a.eval ⟨some d, .call ⟨.builtin .append, #[x0, x1], #[t, t']⟩, type, pos, after, guard⟩).run P w = .ok (.value u) w' := by
              intro u w' h
              simp [execOp, resolve, invoke, builtin, h]
            have hzr : RepL w g.hw g.bs c.base (cst z).leaves z.cells.toList := (rep_cells (leavesOk_or lz) (cst_rep (hw := g.hw) (bs := g.bs) (base := c.base) (w := w) z okz)).1
            obtain ⟨ow, bi, off, m, cp, l, os, q, b, cs, et, ⟨hq, hby, h47, hfit, hg, hK⟩, ed, hb, hbox, hheap, hsz, _, hmc, hcp47, hrep, hset⟩ := dst_run hi h r0
            have hmk : m * i.size ≤ cp * i.size := Nat.mul_le_mul_right _ hmc
            have hold : RepL w g.hw g.bs c.base ((l.drop off).take (m * i.size)) ((cs.toList.drop off).take (m * i.size)) := by
              obtain ⟨cs0, e0, hheap0, hrl, _⟩ := hi.good.box q _ b hbox hb
              rw [hheap] at hheap0
              cases hheap0
              exact (hrl.drop off).take _
            have hf0 : ∀ w' : World, w'.heap = w.heap → (Builtin.firstCells i.size m (.slice (some ⟨b, off, none⟩) m cp)).run P w' = .ok ((cs.toList.drop off).take (m * i.size)).toArray w' := fun w' hw' => by
              have hc : CellsAt w' b off ((cs.toList.drop off).take (m * i.size)) := by
                have h0 := (cells_of_block (w := w') (b := b) (cs := cs) (e := et) (f := (0, 0)) (by rw [hw']; exact hheap)).sub off (m * i.size)
                simpa using h0
              simp only [Builtin.firstCells]
              unfold loadCells
              rw [run_loadCellsFrom (m * i.size) 0 #[] ((cs.toList.drop off).take (m * i.size)) (by simp only [List.length_take, List.length_drop, Array.length_toList, hsz]; omega) (fun i v hv => by simpa using hc i v hv)]
              simp
            have h63 : m + qi.toNat ≤ maxLen := by simp only [maxLen]; omega
            have hfit2 : Builtin.nextslicecap (m + qi.toNat) cp * i.bytes ≤ 281474976710656 := by have := growslice_fits hg hby; omega
            have hb2 : qi.toNat * i.bytes ≤ (m + qi.toNat) * i.bytes := Nat.mul_le_mul_right _ (by omega)
            have hrun := Lib.run_append_grow_zeros (P := P) w t t' type e i z kq kn hu hu' hin hz (some ⟨b, off, none⟩) m cp _ (hf0 w.drew rfl) qi.toNat (by omega) hk0 hg (by simp only [maxLen] at h63; omega) (by omega) hfit2
            have eq : ((qi.toNat : Nat) : Int) = qi := Int.toNat_of_nonneg (by omega)
            rw [eq, ← ed, ← ex1] at hrun
            have hge := grownCap_ge w (m + qi.toNat) cp e
            have hle := grownCap_le_maxLen w (m + qi.toNat) cp e h63
            simp only [maxLen] at hle
            generalize hcp : grownCap w (m + qi.toNat) cp e = c' at *
            have hid := hi.drew
            obtain ⟨g', hi', hb'⟩ := hid.newBoxG (.cells (grownL ((l.drop off).take (m * i.size)) (List.replicate qi.toNat (cst z).leaves).flatten (c' - (m + qi.toNat)) z) []) (.cells (((cs.toList.drop off).take (m * i.size)).toArray ++ Builtin.zeroCells z.cells qi.toNat ++ Builtin.zeroCells z.cells (c' - (m + qi.toNat))) e) fun g' hH hB =>
              ⟨_, e, heap_push_new, by
                have hH' : HwLe w g.hw (push w.drew (.cells (((cs.toList.drop off).take (m * i.size)).toArray ++ Builtin.zeroCells z.cells qi.toNat ++ Builtin.zeroCells z.cells (c' - (m + qi.toNat))) e)) g'.hw := HwLe.trans (w2 := w.drew) (HwLe.of_heap (w := w) (w' := w.drew) rfl) hH
                have q1 := RepL.mono hH' hB _ _ hold
                have q2 := RepL.mono hH' hB _ _ (hzr.replicate qi.toNat)
                have q3 := RepL.mono hH' hB _ _ (hzr.replicate (c' - (m + qi.toNat)))
                have := (q1.append q2).append q3
                simpa [grownL, zeroCells_list] using this, by simp⟩
            unfold Oper.wp
            rw [hrun0 _ _ hrun]
            refine hn _ _ _ g' (hK c' hge hle) (hi'.put (opsOk_dst ho d rfl) (rep_mk_leaf rfl rfl ?_))
            simp only [RepV]
            exact ⟨_, hb', hk0, hge, hle, rfl⟩
        · exact h.elim
      · exact h.elim
    · exact h.elim
  · exact h.elim
end
end Go.Ev
end
section
/- Written by this session: calls of functions that the model itself answers. Conditions: none beyond those in each statement. -/
namespace Go.Ev
open Go

/-- The model answers so, and leaves memory as it is. -/
def ExtAt (P : Program) (f : FuncId) (env own : List Bx) (args : List AV) (v : AV) : Prop :=
  ∀ (w : World) (g : Gh) (vs : List Value), Good w g (env ++ own) env.length → RepT w g.hw g.bs env.length args vs → ∃ u, (callFunc f vs.toArray).run P w = .ok (.value u) w ∧ Rep w g.hw g.bs env.length v u

theorem XStep.callExt {P : Program} {n : Nat} {c : Cfg} {K : Cfg → Prop} {dst : Option Tmp} {type : TypeId} {pos : String} {after : Array Edge} {guard : Option (Nat × Bool)} {f : FuncId} {args : Array Operand} {ts : Array TypeId} {v : AV}
    (ho : opsOk n ⟨dst, .call ⟨.value (.func f), args, ts⟩, type, pos, after, guard⟩ = true) (htup : (args.toList.all fun x => !(evA c x).isTup) = true) (hx : ExtAt P f c.env c.own (args.toList.map (evA c)) v) (h : K (c.put dst v)) :
    XStep P n ⟨dst, .call ⟨.value (.func f), args, ts⟩, type, pos, after, guard⟩ c K := by
  intro W0 G0 a w g hi next Q hn
  have hargs : ∀ x ∈ args.toList, okTmp n x = true := fun x hx => opsOk_mem ho (by simp [Op.operands, Call.operands]; exact .inr (by simpa using hx))
  have hA := argsRep hi args.toList hargs htup
  obtain ⟨u, hu, hr⟩ := hx w g _ hi.good hA
  unfold Oper.wp
  have hrun : (execOp a.eval ⟨dst, .call ⟨.value (.func f), args, ts⟩, type, pos, after, guard⟩).run P w = .ok (.value u) w := by
    have hq : a.eval (.func f) = .func (.func f) #[] #[] := rfl
    simp only [execOp, Sem.run_bind, resolve, hq, Deferred.ofValue, Sem.run_pure, Result.andThen_ok, invoke]
    have e : #[] ++ Array.map a.eval args ++ #[] = (args.toList.map a.eval).toArray := by apply Array.toList_inj.1; simp
    rw [e]; exact hu
  rw [hrun]
  exact hn _ _ _ g h (hi.putO (opsOk_dst ho) hr)

def slBox (base : Nat) : AV → Option Nat
  | .bs i _ _ _ _ => some (base + i)
  | .xs i _ _ _ _ => some i
  | _ => none

/-- Slices in two boxes have nothing in common. -/
theorem ExtAt.overlaps {P : Program} {f : FuncId} {fn : Func} {env own : List Bx} {x y : AV} {qx qy : Nat} {tS tR e : TypeId} {lx ly : List AV} {ox oy : List Nat} (hf : P.funcs[f]? = some fn) (hname : (fn.name == "runtime.NumGoroutine") = false)
    (hb : fn.body.isNone = true) (hn : Extern.findNext fn = none) (he : Extern.find fn = some (Extern.SlicesOverlaps.overlaps #[tS, tS] #[tR])) (ht : P.underlying tS = some (.slice e)) (hz : (P.underlying e).isSome = true)
    (hx : slBox env.length x = some qx) (hy : slBox env.length y = some qy) (hne : qx ≠ qy) (bx : (env ++ own)[qx]? = some (.cells lx ox)) (byy : (env ++ own)[qy]? = some (.cells ly oy)) (hl : ly ≠ []) :
    ExtAt P f env own [x, y] (.v (.bool false)) := by
  intro w g vs G hv
  have at_ : ∀ (x : AV) (u : Value) (q : Nat), slBox env.length x = some q → Rep1 w g.hw g.bs env.length x u → ∃ b off n c, g.bs[q]? = some b ∧ u = .slice (some ⟨b, off, none⟩) n c := by
    intro x u q hq hr
    unfold slBox at hq
    split at hq
    · cases hq; obtain ⟨b, h1, _, _, _, h2⟩ := rep_bs (rep_of hr); exact ⟨b, _, _, _, h1, h2⟩
    · cases hq; obtain ⟨_, b, h1, _, _, _, h2⟩ := rep_xs (rep_of hr); exact ⟨b, _, _, _, h1, h2⟩
    · cases hq
  simp only [RepT] at hv
  obtain ⟨u1, _, rfl, r1, u2, _, rfl, r2, rfl⟩ := hv
  obtain ⟨b1, o1, n1, c1, hb1, rfl⟩ := at_ x u1 qx hx r1
  obtain ⟨b2, o2, n2, c2, hb2, rfl⟩ := at_ y u2 qy hy r2
  obtain ⟨cs1, e1, hh1, hr1, _⟩ := G.box qx _ b1 bx hb1
  obtain ⟨cs2, e2, hh2, hr2, _⟩ := G.box qy _ b2 byy hb2
  have hbne : b1 ≠ b2 := by
    rintro rfl
    apply hne
    have h1 := (List.getElem?_eq_some_iff.1 hb1)
    have h2 := (List.getElem?_eq_some_iff.1 hb2)
    exact (List.getElem_inj G.nd (h₀ := h1.1) (h₁ := h2.1)).1 (h1.2.trans h2.2.symm)
  have hsz2 : cs2.size ≠ 0 := by
    have := RepL.length hr2
    simp only [Array.length_toList] at this
    intro h0
    rw [h0] at this
    exact hl (List.eq_nil_of_length_eq_zero this.symm)
  refine ⟨.bool false, ?_, rep_bool⟩
  have hrun := Lib.run_overlaps_apart (P := P) w tS tR e ht (P.cellsOf e) (fun w => run_size (info_of_und hz) w) ⟨b1, o1, none⟩ ⟨b2, o2, none⟩ n1 c1 n2 c2 hbne e1 e2 cs1.size cs2.size (by simp [World.shape?, hh1]) (by simp [World.shape?, hh2]) hsz2
    (by simp [World.frozen?, hh1]) (by simp [World.frozen?, hh1])
  rw [run_callFunc_extern hf hname hb hn he]
  rw [show [Value.slice (some ⟨b1, o1, none⟩) n1 c1, Value.slice (some ⟨b2, o2, none⟩) n2 c2].toArray = #[Value.slice (some ⟨b1, o1, none⟩) n1 c1, Value.slice (some ⟨b2, o2, none⟩) n2 c2] from rfl, hrun]
  rfl
end Go.Ev
end
section
/- Written by this session: clear of a slice in a box. Conditions: none beyond those in each statement. -/
namespace Go.Ev
open Go

/-- clear. -/
def clearA (P : Program) (n : Nat) (c : Cfg) (cl : Call) (dst : Option Tmp) (K : Cfg → Prop) : Prop :=
  match cl.args.toList, cl.argTypes.toList, dst with
  | [x], [t], none => match P.underlying t with
    | some (.slice e) => match P.info? e with
      | some i => match i.zero with
        | some z => bif Nat.blt 0 i.size && Nat.beq z.cells.size i.size && okTmp n (.const z) && leavesOk (cst z) then
            dstA c i.size (evA c x) fun ow bi off m _ l os => 0 < m ∧ off + (List.replicate m (cst z).leaves).flatten.length ≤ l.length ∧ (ow = true ∨ pfL (List.replicate m (cst z).leaves).flatten = true) ∧
              K (setBox c ow bi (.cells (wrL l off (List.replicate m (cst z).leaves).flatten) (os.filter fun j => decide (j < off ∨ off + (List.replicate m (cst z).leaves).flatten.length ≤ j))))
          else False
        | none => False
      | none => False
    | _ => False
  | _, _, _ => False

section
variable {P : Program} {n : Nat} {c : Cfg} {K : Cfg → Prop} {dst : Option Tmp} {type : TypeId} {pos : String} {after : Array Edge} {guard : Option (Nat × Bool)}

theorem clearA_sound {cl : Call} (hcl : cl.callee = .builtin .clear) (ho : opsOk n ⟨dst, .call cl, type, pos, after, guard⟩ = true) (h : clearA P n c cl dst K) : XStep P n ⟨dst, .call cl, type, pos, after, guard⟩ c K := by
  obtain ⟨callee, args, argTypes⟩ := cl
  simp only at hcl
  subst hcl
  unfold clearA at h
  split at h
  · rename_i x t ha ht
    have e1 : args = #[x] := by apply Array.toList_inj.1; simpa using ha
    have e2 : argTypes = #[t] := by apply Array.toList_inj.1; simpa using ht
    subst e1 e2
    split at h
    · rename_i e hu
      split at h
      · rename_i i hin
        split at h
        · rename_i z hz
          cases hc : (Nat.blt 0 i.size && Nat.beq z.cells.size i.size && okTmp n (.const z) && leavesOk (cst z)) with
          | false => rw [hc] at h; exact h.elim
          | true =>
            rw [hc] at h
            simp only [cond_true] at h
            simp only [Bool.and_eq_true] at hc
            obtain ⟨⟨⟨k0, kz⟩, okz⟩, lz⟩ := hc
            intro W0 G0 a w g hi next Q hn
            have hmd : x ∈ (Op.call ⟨.builtin .clear, #[x], #[t]⟩).operands := by simp [Op.operands, Call.operands]
            obtain ⟨ow, bi, off, m, cp, l, os, q, b, cs, et, ⟨hm0, hfit, hpf, hK⟩, ed, hb, hbox, hheap, hsz, hk0, hmc, _, _, hset⟩ := dst_run hi h (hi.eval (opsOk_mem ho hmd))
            have hzr : RepL w g.hw g.bs c.base (cst z).leaves z.cells.toList := (rep_cells (leavesOk_or lz) (cst_rep (hw := g.hw) (bs := g.bs) (base := c.base) (w := w) z okz)).1
            have hzs := hzr.replicate m
            have hL : (List.replicate m z.cells.toList).flatten.length = (List.replicate m (cst z).leaves).flatten.length := RepL.length hzs
            have hst := run_storeCells_at P b off et (List.replicate m z.cells.toList).flatten 0 cs w hheap (by rw [hL]; omega) (fun v hv => RepL.one hzs v hv)
            simp only [Nat.add_zero] at hst
            obtain ⟨s1, s2, s3⟩ := hset off (List.replicate m (cst z).leaves).flatten (os.filter fun j => decide (j < off ∨ off + (List.replicate m (cst z).leaves).flatten.length ≤ j)) hpf
            have hi' := hi.writeRow hb hbox hheap hzs hfit (setBox c ow bi (.cells (wrL l off (List.replicate m (cst z).leaves).flatten) (os.filter fun j => decide (j < off ∨ off + (List.replicate m (cst z).leaves).flatten.length ≤ j)))) (by cases ow <;> rfl) (by cases ow <;> rfl) s1 s3 s2
            unfold Oper.wp
            have hrun : (execOp a.eval ⟨none, .call ⟨.builtin .clear, #[x], #[t]⟩, type, pos, after, guard⟩).run P w = .ok (.value (.tuple #[])) (w.setRow b (wrL cs.toList off (List.replicate m z.cells.toList).flatten).toArray) := by
              obtain ⟨m', rfl⟩ : ∃ m', m = m' + 1 := ⟨m - 1, by omega⟩
              simp only [execOp, resolve, invoke, builtin, Sem.run_bind, Sem.run_pure, Result.andThen_ok, List.map_toArray, List.map_cons, List.map_nil, ed, Builtin.clear_]
              simp [hst, wrL_all, run_und hu, zeroValue, typeInfo, hin, hz, zeroCells_list]
            rw [hrun]
            exact hn _ _ _ g hK hi'
        · exact h.elim
      · exact h.elim
    · exact h.elim
  · exact h.elim
end
end Go.Ev
end
section
/- Written by this session: what is to be shown of a region, over trees, as a proposition; and that it is enough. Conditions: none beyond those in each statement. -/
namespace Go.Ev
open Go

def appArg (ops : List Oper) (d : Nat) : Bool :=
  ops.any fun o => match o.op with
    | .call cl => (match cl.callee, cl.args.toList with
      | .builtin .append, .tmp t :: _ => Nat.beq t d
      | _, _ => false)
    | _ => false

def mayGive (ops : List Oper) (o : Oper) (c : Cfg) : Option (Nat × Nat) :=
  match o.op, o.dst with
  | .assign (.tmp s), some d => bif c.os.any (Nat.beq s) then some (s, d) else none
  | .move (.tmp s), some d => bif c.os.any (Nat.beq s) && appArg ops d then some (s, d) else none
  | _, _ => none

def ownSl (c : Cfg) : Operand → Option (Nat × Nat × List AV)
  | .tmp s => bif c.os.any (Nat.beq s) then (match Fr.get c.fr s with
    | .sl k l => some (s, k, l)
    | _ => none) else none
  | _ => none

/-- A slice in a box to which may be appended; and what is left when it is taken. -/
def cellOwn (c : Cfg) (p : Operand) : Option (Nat × List AV × Cfg) :=
  match evA c p with
  | .bp i off => match c.own[i]? with
    | some (.cells l os) => match l[off]? with
      | some (.sl k l') => bif os.any (Nat.beq off) then some (k, l', { c with own := c.own.set i (.cells l (os.filter fun j => !Nat.beq j off)) }) else none
      | _ => none
    | _ => none
  | .xp i off => match c.env[i]? with
    | some (.cells l os) => match l[off]? with
      | some (.sl k l') => bif os.any (Nat.beq off) then some (k, l', { c with env := c.env.set i (.cells l (os.filter fun j => !Nat.beq j off)) }) else none
      | _ => none
    | _ => none
  | _ => none

def storeA (P : Program) (c : Cfg) (t : TypeId) (p x : Operand) (dst : Option Tmp) (K : Cfg → Prop) : Prop :=
  match evA c p with
  | .bp i off => match c.own[i]? with
    | some (.cells l os) => match ownSl c x with
      | some (s, k, l') => bif (P.underlying t).isSome && Nat.beq 1 (P.cellsOf t) && Nat.ble (off + 1) l.length then
          K (({ c with os := c.os.filter (fun i => !Nat.beq i s), own := c.own.set i (.cells (wrL l off [.sl k l']) (off :: os.filter fun j => decide (j < off ∨ off + 1 ≤ j))) } : Cfg).put dst (.v undef)) else False
      | none => bif (P.underlying t).isSome && leavesOk (evA c x) && Nat.beq (evA c x).leaves.length (P.cellsOf t) && Nat.ble (off + (evA c x).leaves.length) l.length then
          K (({ c with own := c.own.set i (.cells (wrL l off (evA c x).leaves) (os.filter fun j => decide (j < off ∨ off + (evA c x).leaves.length ≤ j))) } : Cfg).put dst (.v undef)) else False
    | _ => False
  | .xp i off => match c.env[i]? with
    | some (.cells l os) => match ownSl c x with
      | some (s, k, l') => bif (P.underlying t).isSome && Nat.beq 1 (P.cellsOf t) && Nat.ble (off + 1) l.length then
          K (({ c with os := c.os.filter (fun i => !Nat.beq i s), env := c.env.set i (.cells (wrL l off [.sl k l']) (off :: os.filter fun j => decide (j < off ∨ off + 1 ≤ j))) } : Cfg).put dst (.v undef)) else False
      | none => bif (P.underlying t).isSome && leavesOk (evA c x) && pf1 (evA c x) && Nat.beq (evA c x).leaves.length (P.cellsOf t) && Nat.ble (off + (evA c x).leaves.length) l.length then
          K (({ c with env := c.env.set i (.cells (wrL l off (evA c x).leaves) (os.filter fun j => decide (j < off ∨ off + (evA c x).leaves.length ≤ j))) } : Cfg).put dst (.v undef)) else False
    | _ => False
  | _ => False

def ownOf (c : Cfg) (d : Nat) : Operand → Option Nat
  | .tmp s => bif c.os.any (Nat.beq s) then some s else (match Fr.get c.fr s with
    | .v (.slice none 0 0) => some d
    | _ => none)
  | .const (.slice none 0 0) => some d
  | _ => none

def appendA (P : Program) (c : Cfg) (cl : Call) (dst : Option Tmp) (K : Cfg → Prop) : Prop :=
  match cl.args.toList, cl.argTypes.toList, dst with
  | [x0, x1], [t, t'], some d => match P.underlying t, P.underlying t' with
    | some (.slice e), some (.slice _) => match P.info? e with
      | some i => match i.zero with
        | some z => bif Nat.blt 0 i.size && Nat.beq z.cells.size i.size then
            match asSl i.size (evA c x0), asSl i.size (evA c x1), ownOf c d x0 with
            | some l0, some l1, some s => (l0.length + l1.length) * i.bytes ≤ 140737488355328 ∧ l0.length + l1.length ≤ 140737488355328 ∧ K (({ c with os := c.os.filter fun i => !Nat.beq i s } : Cfg).putOwn d (.sl i.size (l0 ++ l1)))
            | _, _, _ => False
          else False
        | none => False
      | none => False
    | _, _ => False
  | _, _, _ => False

/-- A call that may change boxes, or hand on new ones. -/
@[irreducible] def callG (P : Program) (c : Cfg) (args : List AV) (f : FuncId) (dst : Option Tmp) (K : Cfg → Prop) : Prop :=
  Callable P f ∧ ∃ R, XCalls P f (args.map (AV.up c.base)) (c.env ++ c.own.map (Bx.up c.base)) R ∧ ((∀ x ∈ c.env, Bx.cl c.base 0 x) → (∀ x ∈ c.env ++ c.own, Bx.cl c.base c.own.length x) → ∀ r ow env', R r ow env' →
    ∃ r2 env2 own2, r = AV.up c.base r2 ∧ env' = env2 ++ own2.map (Bx.up c.base) ∧ env2.length = c.env.length ∧ r2.cl c.base own2.length ∧ (∀ x ∈ env2, Bx.cl c.base 0 x) ∧ (∀ x ∈ env2 ++ own2, Bx.cl c.base own2.length x) ∧ K (({ c with env := env2, own := own2 } : Cfg).after dst r2 ow))

/-- A call that leaves all as it is. -/
theorem callG_same {P : Program} {c : Cfg} {args : List AV} {f : FuncId} {dst : Option Tmp} {K : Cfg → Prop} {r0 : AV} (hc : Callable P f) (hp : r0.pf = true)
    (hx : XCalls P f (args.map (AV.up c.base)) (c.env ++ c.own.map (Bx.up c.base)) fun r ow env' => r = r0 ∧ ow = false ∧ env' = c.env ++ c.own.map (Bx.up c.base)) (h : K (c.after dst r0 false)) : callG P c args f dst K := by
  unfold callG
  refine ⟨hc, _, hx, fun h1 h2 r ow env' ⟨e1, e2, e3⟩ => ?_⟩
  subst e1 e2 e3
  exact ⟨r, c.env, c.own, (up_pf _ _ hp).symm, rfl, rfl, cl_pf _ hp, h1, h2, h⟩

def callA (P : Program) (n : Nat) (c : Cfg) (cl : Call) (dst : Option Tmp) (K : Cfg → Prop) : Prop :=
  match targetA P c n cl.callee with
  | some (f, a1, a2) => bif cl.args.toList.all fun x => !(evA c x).isTup then
      (bif pf1L (a1 ++ cl.args.toList.map (evA c) ++ a2) then (∃ r ow, XPure P f (a1 ++ cl.args.toList.map (evA c) ++ a2) r ow ∧ K (c.after dst r ow)) ∨ callG P c (a1 ++ cl.args.toList.map (evA c) ++ a2) f dst K
       else callG P c (a1 ++ cl.args.toList.map (evA c) ++ a2) f dst K)
    else False
  | none => False
def sliceParts : Nat → List (Nat × Operand) → Option (List Operand)
  | _, [] => some []
  | i, (j, x) :: r => bif Nat.beq i j then (sliceParts (i + 1) r).map (x :: ·) else none

/-- Is it handed in to a function? -/
def callArg (ops : List Oper) (d : Nat) : Bool :=
  ops.any fun o => match o.op with
    | .call cl => (match cl.callee with
      | .builtin _ => false
      | _ => cl.args.toList.any fun x => match x with
        | .tmp t => Nat.beq t d
        | _ => false)
    | _ => false

def buildSliceA (P : Program) (ops : List Oper) (c : Cfg) (t : TypeId) (len : Nat) (parts : Array (Nat × Operand)) (dst : Option Tmp) (K : Cfg → Prop) : Prop :=
  match P.underlying t, dst, sliceParts 0 parts.toList with
  | some (.slice e), some d, some xs => match P.info? e with
    | some i => match i.zero with
      | some _ => bif Nat.blt 0 i.size && Nat.beq len xs.length && Nat.ble (len * i.size) 16777216 && xs.all (fun x => leavesOk (evA c x) && !(evA c x).isTup && Nat.beq (evA c x).leaves.length i.size) then
          (bif xs.all (fun x => pf1 (evA c x)) then
            (bif Nat.beq len 0 || callArg ops d then K (c.putOwn d (.sl i.size (xs.map (evA c)))) ∨ K (({ c with own := c.own ++ [.cells ((xs.map (evA c)).flatMap AV.leaves) []] } : Cfg).put (some d) (.bs c.own.length 0 i.size xs.length xs.length))
             else K (c.putOwn d (.sl i.size (xs.map (evA c)))))
           else K (({ c with own := c.own ++ [.cells ((xs.map (evA c)).flatMap AV.leaves) []] } : Cfg).put (some d) (.bs c.own.length 0 i.size xs.length xs.length))) else False
      | none => False
    | none => False
  | _, _, _ => False

def buildA (P : Program) (n : Nat) (c : Cfg) (t : TypeId) (parts : Array (Nat × Operand)) (dst : Option Tmp) (K : Cfg → Prop) : Prop :=
  match P.underlying t, P.info? t with
  | some (.struct fs), some i => match i.zero with
    | some z => bif (fs.toList.all fun f => (P.underlying f.type).isSome) && okTmp n (.const z) && leavesOk (cst z) then buildFold P c fs parts.toList (cst z).leaves fun l => K (c.put dst (.agg l)) else False
    | none => False
  | _, _ => False

def isExt (P : Program) (f : FuncId) : Bool :=
  match P.funcs[f]? with
  | some fn => fn.body.isNone
  | none => false

def stepA (P : Program) (n : Nat) (ops : List Oper) (o : Oper) (c : Cfg) (K : Cfg → Prop) : Prop :=
  bif opsOk n o then
    match mayGive ops o c with
    | some (s, d) => bif Nat.blt s n && Nat.blt d n then K (c.give s d) else False
    | none => match o.op with
      | .box _ x => (match o.dst with
        | some d => bif leavesOk (evA c x) then K (({ c with own := c.own ++ [.cells (evA c x).leaves []] } : Cfg).put (some d) (.bp c.own.length 0)) else False
        | none => False)
      | .alloc e => (match o.dst, P.info? e with
        | some d, some i => (match i.zero with
          | some z => bif okTmp n (.const z) && leavesOk (cst z) then K (({ c with own := c.own ++ [.cells (cst z).leaves []] } : Cfg).put (some d) (.bp c.own.length 0)) else False
          | none => False)
        | _, _ => False)
      | .store t p x => storeA P c t p x o.dst K
      | .binOp op t x y _ => (match op, evA c y with
        | .eql, .v (.slice none _ _) => nilEqA P c .eql t (evA c x) o.dst K
        | .neq, .v (.slice none _ _) => nilEqA P c .neq t (evA c x) o.dst K
        | _, _ => pureA P c.env c.own (evA c) o fun v => K (c.put o.dst v))
      | .makeMap t r => makeMapA P c t r o.dst K
      | .mapUpdate t m k x => mapUpdateA P c t m k x o.dst K
      | .load t p => (match o.dst, cellOwn c p with
        | some d, some (k, l', c') => bif appArg ops d && (P.underlying t).isSome && !isAggT P t then K (c'.putOwn d (.sl k l')) else pureA P c.env c.own (evA c) o fun v => K (c.put o.dst v)
        | _, _ => pureA P c.env c.own (evA c) o fun v => K (c.put o.dst v))
      | .buildSlice t len parts => buildSliceA P ops c t len parts o.dst K
      | .build t parts => buildA P n c t parts o.dst K
      | .call cl => (match cl.callee with
        | .builtin .append => (match cl.argTypes.toList.map P.underlying, cl.args.toList.map (evA c) with
          | [_, some (.int _)], _ => appendZ P n c cl o.dst K
          | _, [.bs .., _] => appendB P n c cl o.dst K
          | _, [.xs .., _] => appendB P n c cl o.dst K
          | _, [_, .bs ..] => appendB P n c cl o.dst K
          | _, [_, .xs ..] => appendB P n c cl o.dst K
          | _, _ => appendA P c cl o.dst K)
        | .builtin .copy => copyA P c cl o.dst K
        | .builtin .clear => clearA P n c cl o.dst K
        | .builtin _ => pureA P c.env c.own (evA c) o fun v => K (c.put o.dst v)
        | .value (.func f) => bif isExt P f then (bif cl.args.toList.all fun x => !(evA c x).isTup then ∃ v, ExtAt P f c.env c.own (cl.args.toList.map (evA c)) v ∧ K (c.put o.dst v) else False) else callA P n c cl o.dst K
        | _ => callA P n c cl o.dst K)
      | _ => pureA P c.env c.own (evA c) o fun v => K (c.put o.dst v)
  else False

section
variable {P : Program} {n : Nat} {ops : List Oper} {o : Oper} {c : Cfg} {K : Cfg → Prop}

theorem mem_os {s : Nat} (h : c.os.any (Nat.beq s) = true) : s ∈ c.os := by
  obtain ⟨x, hx, e⟩ := List.any_eq_true.1 h
  rw [Nat.eq_of_beq_eq_true e]; exact hx

theorem storeA_sound {t : TypeId} {p x : Operand} {dst : Option Tmp} {type : TypeId} {pos : String} {after : Array Edge} {guard : Option (Nat × Bool)} (ho : opsOk n ⟨dst, .store t p x, type, pos, after, guard⟩ = true)
    (h : storeA P c t p x dst K) : XStep P n ⟨dst, .store t p x, type, pos, after, guard⟩ c K := by
  unfold storeA at h
  split at h
  · rename_i i off hp
    split at h
    · rename_i l os hb
      split at h
      · rename_i s k l' hs
        cases hc : ((P.underlying t).isSome && Nat.beq 1 (P.cellsOf t) && Nat.ble (off + 1) l.length) with
        | false => rw [hc] at h; exact h.elim
        | true =>
          rw [hc] at h
          simp only [Bool.and_eq_true] at hc
          cases x with
          | tmp q =>
            simp only [ownSl] at hs
            cases hq : c.os.any (Nat.beq q) with
            | false => rw [hq] at hs; cases hs
            | true =>
              rw [hq] at hs
              simp only [cond_true] at hs
              split at hs
              · rename_i k2 l2 hg
                cases hs
                exact XStep.storeOwn ho hp hb hc.1.1 (mem_os hq) hg (Nat.eq_of_beq_eq_true hc.1.2) (Nat.le_of_ble_eq_true hc.2) h
              · cases hs
          | _ => cases hs
      · cases hc : ((P.underlying t).isSome && leavesOk (evA c x) && Nat.beq (evA c x).leaves.length (P.cellsOf t) && Nat.ble (off + (evA c x).leaves.length) l.length) with
        | false => rw [hc] at h; exact h.elim
        | true =>
          rw [hc] at h
          simp only [Bool.and_eq_true] at hc
          exact XStep.store ho hp hb hc.1.1.1 hc.1.1.2 (Nat.eq_of_beq_eq_true hc.1.2) (Nat.le_of_ble_eq_true hc.2) h
    · exact h.elim
  · rename_i i off hp
    split at h
    · rename_i l os hb
      split at h
      · rename_i s k l' hs
        cases hc : ((P.underlying t).isSome && Nat.beq 1 (P.cellsOf t) && Nat.ble (off + 1) l.length) with
        | false => rw [hc] at h; exact h.elim
        | true =>
          rw [hc] at h
          simp only [Bool.and_eq_true] at hc
          cases x with
          | tmp q =>
            simp only [ownSl] at hs
            cases hq : c.os.any (Nat.beq q) with
            | false => rw [hq] at hs; cases hs
            | true =>
              rw [hq] at hs
              simp only [cond_true] at hs
              split at hs
              · rename_i k2 l2 hg
                cases hs
                exact XStep.storeEnvOwn ho hp hb hc.1.1 (mem_os hq) hg (Nat.eq_of_beq_eq_true hc.1.2) (Nat.le_of_ble_eq_true hc.2) h
              · cases hs
          | _ => cases hs
      · cases hc : ((P.underlying t).isSome && leavesOk (evA c x) && pf1 (evA c x) && Nat.beq (evA c x).leaves.length (P.cellsOf t) && Nat.ble (off + (evA c x).leaves.length) l.length) with
        | false => rw [hc] at h; exact h.elim
        | true =>
          rw [hc] at h
          simp only [Bool.and_eq_true] at hc
          exact XStep.storeEnv ho hp hb hc.1.1.1.1 hc.1.1.1.2 (pf_of1 hc.1.1.2) (Nat.eq_of_beq_eq_true hc.1.2) (Nat.le_of_ble_eq_true hc.2) h
    · exact h.elim
  · exact h.elim

theorem cellOwn_eq {p : Operand} {k : Nat} {l' : List AV} {c' : Cfg} (h : cellOwn c p = some (k, l', c')) : ∃ (off : Nat) (l : List AV) (os : List Nat), l[off]? = some (.sl k l') ∧ off ∈ os ∧
    ((∃ i, evA c p = .bp i off ∧ c.own[i]? = some (.cells l os) ∧ c' = { c with own := c.own.set i (.cells l (os.filter fun j => !Nat.beq j off)) }) ∨ (∃ i, evA c p = .xp i off ∧ c.env[i]? = some (.cells l os) ∧ c' = { c with env := c.env.set i (.cells l (os.filter fun j => !Nat.beq j off)) })) := by
  have mem : ∀ {os : List Nat} {off : Nat}, os.any (Nat.beq off) = true → off ∈ os := fun h => by
    obtain ⟨x, hx, e⟩ := List.any_eq_true.1 h
    rw [Nat.eq_of_beq_eq_true e]; exact hx
  unfold cellOwn at h
  split at h
  · rename_i i off hp
    split at h
    · rename_i l os hb
      split at h
      · rename_i k2 l2 hl
        cases hc : os.any (Nat.beq off) with
        | false => rw [hc] at h; cases h
        | true => rw [hc] at h; cases h; exact ⟨off, l, os, hl, mem hc, .inl ⟨i, hp, hb, rfl⟩⟩
      · cases h
    · cases h
  · rename_i i off hp
    split at h
    · rename_i l os hb
      split at h
      · rename_i k2 l2 hl
        cases hc : os.any (Nat.beq off) with
        | false => rw [hc] at h; cases h
        | true => rw [hc] at h; cases h; exact ⟨off, l, os, hl, mem hc, .inr ⟨i, hp, hb, rfl⟩⟩
      · cases h
    · cases h
  · cases h

theorem sliceParts_eq : ∀ (ps : List (Nat × Operand)) (i : Nat) (xs : List Operand), sliceParts i ps = some xs → ps = (xs.zipIdx i).map fun (x, j) => (j, x)
  | [], i, xs, h => by simp [sliceParts] at h; subst h; rfl
  | (j, x) :: r, i, xs, h => by
    simp only [sliceParts] at h
    cases hb : Nat.beq i j with
    | false => rw [hb] at h; cases h
    | true =>
      rw [hb] at h
      simp only [cond_true, Option.map_eq_some_iff] at h
      obtain ⟨ys, h1, rfl⟩ := h
      have := Nat.eq_of_beq_eq_true hb
      subst this
      rw [sliceParts_eq r (i + 1) ys h1]
      simp [List.zipIdx_cons]

theorem appendA_sound {cl : Call} {dst : Option Tmp} {type : TypeId} {pos : String} {after : Array Edge} {guard : Option (Nat × Bool)} (hcl : cl.callee = .builtin .append) (ho : opsOk n ⟨dst, .call cl, type, pos, after, guard⟩ = true)
    (h : appendA P c cl dst K) : XStep P n ⟨dst, .call cl, type, pos, after, guard⟩ c K := by
  obtain ⟨callee, args, argTypes⟩ := cl
  simp only at hcl
  subst hcl
  unfold appendA at h
  split at h
  · rename_i x0 x1 t t' d ha ht
    have e1 : args = #[x0, x1] := by apply Array.toList_inj.1; simpa using ha
    have e2 : argTypes = #[t, t'] := by apply Array.toList_inj.1; simpa using ht
    subst e1 e2
    split at h
    · rename_i e e' hu hu'
      split at h
      · rename_i i hi
        split at h
        · rename_i z hz
          cases hc : (Nat.blt 0 i.size && Nat.beq z.cells.size i.size) with
          | false => rw [hc] at h; exact h.elim
          | true =>
            rw [hc] at h
            simp only [cond_true] at h
            simp only [Bool.and_eq_true] at hc
            split at h
            · rename_i l0 l1 s h0 h1 hs
              obtain ⟨b1, b2, hk⟩ := h
              refine XStep.append ho hu hu' hi hz rfl (by rw [← Nat.blt_eq]; exact hc.1) (Nat.eq_of_beq_eq_true hc.2) h0 h1 s ?_ b1 b2 hk
              unfold ownOf at hs
              split at hs
              · rename_i q
                cases hq : c.os.any (Nat.beq q) with
                | true => rw [hq] at hs; simp at hs; subst hs; exact .inl ⟨rfl, mem_os hq⟩
                | false =>
                  rw [hq] at hs
                  simp only [cond_false] at hs
                  split at hs
                  · rename_i hg; exact .inr hg
                  · cases hs
              · exact .inr rfl
              · cases hs
            · exact h.elim
        · exact h.elim
      · exact h.elim
    · exact h.elim
  · exact h.elim

theorem callA_sound {cl : Call} {dst : Option Tmp} {type : TypeId} {pos : String} {after : Array Edge} {guard : Option (Nat × Bool)} (ho : opsOk n ⟨dst, .call cl, type, pos, after, guard⟩ = true)
    (h : callA P n c cl dst K) : XStep P n ⟨dst, .call cl, type, pos, after, guard⟩ c K := by
  obtain ⟨callee, args, argTypes⟩ := cl
  unfold callA at h
  split at h
  · rename_i f a1 a2 ht
    cases htup : (args.toList.all fun x => !(evA c x).isTup) with
    | false => simp only [htup] at h; exact h.elim
    | true =>
      simp only [htup, cond_true] at h
      cases hpf : pf1L (a1 ++ args.toList.map (evA c) ++ a2) with
      | true =>
        simp only [hpf, cond_true] at h
        rcases h with ⟨r, ow, h1, h2⟩ | h
        rotate_left
        · unfold callG at h
          obtain ⟨h0, R, h1, h2⟩ := h
          exact XStep.callAny ho ht htup h0 h1 h2
        · exact XStep.callPure ho ht htup (pfL_of1 hpf) h1 h2
      | false =>
        simp only [hpf, cond_false] at h
        unfold callG at h
        obtain ⟨h0, R, h1, h2⟩ := h
        exact XStep.callAny ho ht htup h0 h1 h2
  · exact h.elim

theorem buildSliceA_sound {ops : List Oper} {t : TypeId} {len : Nat} {parts : Array (Nat × Operand)} {dst : Option Tmp} {type : TypeId} {pos : String} {after : Array Edge} {guard : Option (Nat × Bool)} (ho : opsOk n ⟨dst, .buildSlice t len parts, type, pos, after, guard⟩ = true)
    (h : buildSliceA P ops c t len parts dst K) : XStep P n ⟨dst, .buildSlice t len parts, type, pos, after, guard⟩ c K := by
  unfold buildSliceA at h
  split at h
  · rename_i e d xs hu hp
    split at h
    · rename_i i hi
      split at h
      · rename_i z hz
        cases hc : (Nat.blt 0 i.size && Nat.beq len xs.length && Nat.ble (len * i.size) 16777216 && xs.all (fun x => leavesOk (evA c x) && !(evA c x).isTup && Nat.beq (evA c x).leaves.length i.size)) with
        | false => rw [hc] at h; exact h.elim
        | true =>
          rw [hc] at h
          simp only [cond_true] at h
          simp only [Bool.and_eq_true] at hc
          obtain ⟨⟨⟨c1, c2⟩, c3⟩, c4⟩ := hc
          have c4' : ∀ x ∈ xs, leavesOk (evA c x) = true ∧ (evA c x).isTup = false ∧ (evA c x).leaves.length = i.size := fun x hx => by
            have := List.all_eq_true.1 c4 x hx
            simp only [Bool.and_eq_true, Bool.not_eq_true'] at this
            exact ⟨this.1.1, this.1.2, Nat.eq_of_beq_eq_true this.2⟩
          have box := fun h => XStep.buildSliceB (K := K) ho hu hi hz rfl (by rw [← Nat.blt_eq]; exact c1) (Nat.eq_of_beq_eq_true c2) (sliceParts_eq _ _ _ hp) (Nat.le_of_ble_eq_true c3) c4' h
          cases hpf : (xs.all fun x => pf1 (evA c x)) with
          | false => rw [hpf] at h; exact box h
          | true =>
            rw [hpf] at h
            simp only [cond_true] at h
            have shut := fun h => XStep.buildSlice (K := K) ho hu hi hz rfl (by rw [← Nat.blt_eq]; exact c1) (Nat.eq_of_beq_eq_true c2) (sliceParts_eq _ _ _ hp) (Nat.le_of_ble_eq_true c3)
              (fun x hx => ⟨(c4' x hx).1, pf_of1 (List.all_eq_true.1 hpf x hx), (c4' x hx).2⟩) h
            cases h0 : (Nat.beq len 0 || callArg ops d) with
            | false => rw [h0] at h; exact shut h
            | true => rw [h0] at h; exact h.elim shut box
      · exact h.elim
    · exact h.elim
  · exact h.elim

theorem buildA_sound {t : TypeId} {parts : Array (Nat × Operand)} {dst : Option Tmp} {type : TypeId} {pos : String} {after : Array Edge} {guard : Option (Nat × Bool)} (ho : opsOk n ⟨dst, .build t parts, type, pos, after, guard⟩ = true)
    (h : buildA P n c t parts dst K) : XStep P n ⟨dst, .build t parts, type, pos, after, guard⟩ c K := by
  unfold buildA at h
  split at h
  · rename_i fs i hu hi
    split at h
    · rename_i z hz
      cases hc : ((fs.toList.all fun f => (P.underlying f.type).isSome) && okTmp n (.const z) && leavesOk (cst z)) with
      | false => rw [hc] at h; exact h.elim
      | true =>
        rw [hc] at h
        simp only [cond_true] at h
        simp only [Bool.and_eq_true] at hc
        exact XStep.build ho hu hc.1.1 hi hz hc.1.2 hc.2 h
    · exact h.elim
  · exact h.elim

theorem stepA_sound (h : stepA P n ops o c K) : XStep P n o c K := by
  unfold stepA at h
  cases ho : opsOk n o with
  | false => rw [ho] at h; exact h.elim
  | true =>
    rw [ho] at h
    simp only [cond_true] at h
    obtain ⟨dst, op, type, pos, after, guard⟩ := o
    split at h
    · rename_i s d hg
      cases hb : (Nat.blt s n && Nat.blt d n) with
      | false => rw [hb] at h; exact h.elim
      | true =>
        rw [hb] at h
        simp only [cond_true] at h
        simp only [Bool.and_eq_true] at hb
        unfold mayGive at hg
        split at hg
        · rename_i q d' e1 e2
          simp only at e1 e2
          subst e1 e2
          cases hq : c.os.any (Nat.beq q) with
          | false => rw [hq] at hg; cases hg
          | true =>
            rw [hq] at hg
            simp only [cond_true, Option.some.injEq, Prod.mk.injEq] at hg
            obtain ⟨rfl, rfl⟩ := hg
            exact XStep.give (.inl rfl) (mem_os hq) (by rw [← Nat.blt_eq]; exact hb.1) (by rw [← Nat.blt_eq]; exact hb.2) h
        · rename_i q d' e1 e2
          simp only at e1 e2
          subst e1 e2
          cases hq : (c.os.any (Nat.beq q) && appArg ops d') with
          | false => rw [hq] at hg; cases hg
          | true =>
            rw [hq] at hg
            simp only [cond_true, Option.some.injEq, Prod.mk.injEq] at hg
            obtain ⟨rfl, rfl⟩ := hg
            simp only [Bool.and_eq_true] at hq
            exact XStep.give (.inr rfl) (mem_os hq.1) (by rw [← Nat.blt_eq]; exact hb.1) (by rw [← Nat.blt_eq]; exact hb.2) h
        · cases hg
    · cases op
      case box el x hgv =>
        simp only at h
        cases dst with
        | none => exact h.elim
        | some d =>
          simp only at h
          cases hl : leavesOk (evA c x) with
          | false => rw [hl] at h; exact h.elim
          | true => rw [hl] at h; exact XStep.box ho hl h
      case alloc e hgv =>
        simp only at h
        split at h
        · rename_i d i hi
          split at h
          · rename_i z hz
            cases hc : (okTmp n (.const z) && leavesOk (cst z)) with
            | false => rw [hc] at h; exact h.elim
            | true =>
              rw [hc] at h
              simp only [cond_true] at h
              simp only [Bool.and_eq_true] at hc
              exact XStep.alloc (opsOk_dst ho d rfl) hi hz hc.1 hc.2 h
          · exact h.elim
        · exact h.elim
      case store => exact storeA_sound ho h
      case binOp op t x y yt hgv =>
        simp only at h
        split at h
        · rename_i hy; exact XStep.nilEq (.inl rfl) ho hy h
        · rename_i hy; exact XStep.nilEq (.inr rfl) ho hy h
        · exact XStep.pure ho h
      case makeMap => exact makeMapA_sound ho h
      case mapUpdate => exact mapUpdateA_sound ho h
      case load t p hgv =>
        simp only at h
        split at h
        · rename_i d k l' c' hc
          cases hb : (appArg ops d && (P.underlying t).isSome && !isAggT P t) with
          | false => rw [hb] at h; exact XStep.pure ho h
          | true =>
            rw [hb] at h
            simp only [cond_true] at h
            simp only [Bool.and_eq_true, Bool.not_eq_true'] at hb
            obtain ⟨off, l, os, hl, hos, hp⟩ := cellOwn_eq hc
            exact XStep.loadOwn ho hb.1.2 hb.2 hl hos c' hp h
        · exact XStep.pure ho h
      case buildSlice => exact buildSliceA_sound ho h
      case build => exact buildA_sound ho h
      case call cl hgv =>
        simp only at h
        split at h
        · rename_i hcl
          split at h <;> first | exact appendZ_sound hcl ho h | exact appendB_sound hcl ho h | exact appendA_sound hcl ho h
        · rename_i hcl; exact copyA_sound hcl ho h
        · rename_i hcl; exact clearA_sound hcl ho h
        · exact XStep.pure ho h
        · rename_i f hcl
          cases hx : isExt P f with
          | false => rw [hx] at h; exact callA_sound ho h
          | true =>
            rw [hx] at h
            obtain ⟨callee, args, argTypes⟩ := cl
            simp only at hcl
            subst hcl
            simp only [cond_true] at h
            cases htup : (args.toList.all fun x => !(evA c x).isTup) with
            | false => simp only [htup] at h; exact h.elim
            | true =>
              simp only [htup, cond_true] at h
              obtain ⟨v, h1, h2⟩ := h
              exact XStep.callExt ho htup h1 h2
        · exact callA_sound ho h
      all_goals exact XStep.pure ho h
end
end Go.Ev
end
section
/- Written by this session: a guarded operation as one path. Conditions: none beyond those in each statement. -/
namespace Go.Ev
open Go

def openV : AV → AV
  | .gv _ x => x
  | x => x
def openOk (b : Bool) : List AV → Prop
  | [] => True
  | .gv b' _ :: l => (b = true → b' = true) ∧ openOk b l
  | _ :: l => openOk b l

theorem openOk_mem {b : Bool} : ∀ {l : List AV}, openOk b l → b = true → ∀ x ∈ l, ∀ b' y, x = .gv b' y → b' = true
  | [], _, _, x, hx, _, _, _ => by cases hx
  | z :: l, h, hb, x, hx, b', y, e => by
    rcases List.mem_cons.1 hx with rfl | hx
    · subst e; simp only [openOk] at h; exact h.1 hb
    · refine openOk_mem (l := l) ?_ hb x hx b' y e
      cases z <;> simp only [openOk] at h <;> first | exact h.2 | exact h

theorem rep_open {w : World} {hw : Hw} {bs : List Nat} {base : Nat} {x : AV} {u : Value} (h : Rep w hw bs base x u) (ho : ∀ b y, x = .gv b y → b = true) : Rep w hw bs base (openV x) u := by
  cases x with
  | gv b y =>
    obtain rfl := ho b y rfl
    obtain ⟨h1, h2⟩ := rep_leaf rfl (by simp) (by simp) h
    simp only [RepV] at h1
    obtain ⟨v, e, _, r⟩ := h1
    simp only [List.cons.injEq, and_true] at e
    subst e
    obtain ⟨⟨q1, q2⟩, q3⟩ := r trivial
    refine rep_of (.inr ⟨?_, ?_⟩)
    · rw [cells_toList_of (visAgg_of q2)]; exact RepV.lift _ _ q3
    · rw [visAgg_of q2]; exact q1.symm
  | _ => exact h

section
variable {P : Program} {n : Nat} {c : Cfg} {K : Cfg → Prop} {W0 : World} {G0 : Gh} {a : Act} {w : World} {g : Gh} {o : Oper} {d : Nat}

/-- The operation is done: its value, seen under its guard. -/
theorem gv_step (hi : Inv n W0 G0 c a w g) (ho : opsOk n o = true) (hd : o.dst = some d) {b : Bool} {v : AV} (hb : b = true) {ρA : Operand → AV} (hop : ∀ x ∈ o.op.operands, Rep w g.hw g.bs c.base (ρA x) (a.eval x)) (hp : b = true → pureA P c.env c.own ρA o fun v' => v' = v) (hv : v.isLeaf = true) (hpf : v.pf = true) :
    ∃ u, (execOp a.eval o).run P w = .ok (.value u) w ∧ Inv n W0 G0 (c.put (some d) (.gv b v)) (a.put (some d) u) w g := by
  obtain ⟨v', rfl, hs⟩ := pureA_sound (hp hb)
  obtain ⟨u, hu, hr⟩ := hs a.eval w g hi.good fun x hx => hop x hx
  refine ⟨u, hu, hi.put (opsOk_dst ho d hd) ?_⟩
  obtain ⟨q1, q2, q3⟩ := rep_isLeaf hv hr
  refine rep_mk_leaf rfl (visAgg_of q3) ?_
  simp only [RepV]
  exact ⟨u, rfl, (fun h => by rw [hb] at h; cases h), fun _ => ⟨⟨q2, q3⟩, RepV.pfV _ _ hpf q1⟩⟩

/-- It is not done. -/
theorem gv_skip (hi : Inv n W0 G0 c a w g) (hd : d < n) {b : Bool} {v : AV} (hb : b = false) : Inv n W0 G0 (c.put (some d) (.gv b v)) (a.put (some d) undef) w g := by
  refine hi.put hd (rep_mk_leaf rfl rfl ?_)
  simp only [RepV]
  exact ⟨undef, rfl, (fun _ => rfl), (fun h => by rw [hb] at h; cases h)⟩
end
end Go.Ev
end
section
/- Written by this session: guards. Conditions: none beyond those in each statement. -/
namespace Go.Ev
open Go

def guardB (c : Cfg) (t : Nat) (want : Bool) : Option Bool :=
  match Fr.get c.fr t with
  | .v (.bool b) => match want with
    | true => some b
    | false => some (!b)
  | .gv b0 (.v (.bool b1)) => match want with
    | true => some (b0 && b1)
    | false => some (b0 && !b1)
  | _ => none

def opens (o : Oper) : Bool :=
  match o.op with
  | .pick _ _ _ => false
  | _ => true

def isFnCall (o : Oper) : Bool :=
  match o.op with
  | .call c => match c.callee with
    | .builtin _ => false
    | _ => true
  | .fieldAddr _ _ _ | .indexAddr _ _ _ | .index _ _ _ | .slice _ _ _ _ _ | .lookup _ _ _ _ => true
  | _ => false
def sameG (a b : Option (Nat × Bool)) : Bool :=
  match a, b with
  | some (i, x), some (j, y) => Nat.beq i j && (x == y)
  | _, _ => false
def chainHas (ops : List Oper) (g : Option (Nat × Bool)) : Nat → Option (Nat × Bool) → Bool
  | 0, _ => false
  | k + 1, cur => sameG cur g || (match cur with
    | some (j, _) => match ops[j]? with
      | some o => chainHas ops g k o.guard
      | none => false
    | none => false)
/-- Is there a call of a function under this guard? -/
def callIn (ops : List Oper) (g : Option (Nat × Bool)) : Bool := ops.any fun o => isFnCall o && chainHas ops g 9 o.guard

def guardV (P : Program) (n : Nat) (ops : List Oper) (c : Cfg) (o : Oper) (K : Cfg → Prop) : Prop :=
  match o.guard, o.dst with
  | some (j, want), some d => (match (ops[j]?).bind (·.dst) with
    | some t => bif Nat.blt t n && opsOk n o && !callIn ops o.guard then (match guardB c t want with
      | some b => ∃ v, openOk b (bif opens o then o.op.operands.toList.map (evA c) else []) ∧ (b = true → pureA P c.env c.own (fun x => bif opens o then openV (evA c x) else evA c x) o fun v' => v' = v) ∧ (v.isLeaf && v.pf) = true ∧ K (c.put (some d) (.gv b v))
      | none => False) else False
    | none => False)
  | _, _ => False

section
variable {P : Program} {n : Nat} {ops : Array Oper} {c : Cfg} {K : Cfg → Prop} {W0 : World} {G0 : Gh} {a : Act} {w : World} {g : Gh} {o : Oper}

theorem guardB_wanted (hi : Inv n W0 G0 c a w g) {j t : Nat} {want b : Bool} (hg : o.guard = some (j, want)) (ht : (ops.toList[j]?).bind (·.dst) = some t) (htn : t < n) (h : guardB c t want = some b) : Region.wanted o (yielded ops a.tmps) = b := by
  have hr := hi.fr t htn
  have hget : a.tmps[t]? = some (a.tmps.getD t undef) := by
    rw [Array.getD_eq_getD_getElem?, Array.getElem?_eq_getElem (by rw [hi.size]; exact htn)]; rfl
  have hy : yielded ops a.tmps j = (match a.tmps[t]? with
      | some (.bool b) => some b
      | _ => none) := by
    unfold yielded
    have : (ops[j]?).bind (·.dst) = some t := by simpa using ht
    rw [this]
    rfl
  unfold Region.wanted
  rw [hg]
  simp only
  rw [hy, hget]
  unfold guardB at h
  split at h
  · rename_i b' hx
    rw [hx] at hr
    obtain ⟨e, _⟩ := rep_v hr
    rw [e]
    cases want <;> (simp only [Option.some.injEq] at h; subst h; cases b' <;> rfl)
  · rename_i b0 b1 hx
    rw [hx] at hr
    obtain ⟨h1, _⟩ := rep_leaf rfl (by simp) (by simp) hr
    simp only [RepV] at h1
    obtain ⟨v, e, q, r⟩ := h1
    simp only [List.cons.injEq, and_true] at e
    cases b0 with
    | false =>
      rw [e, q rfl]
      cases want <;> (simp only [Option.some.injEq] at h; subst h; rfl)
    | true =>
      have := (r rfl).2
      simp only [List.cons.injEq, and_true] at this
      rw [e, this]
      cases want <;> (simp only [Option.some.injEq] at h; subst h; cases b1 <;> rfl)
  · cases h

theorem guardV_sound (hi : Inv n W0 G0 c a w g) (h : guardV P n ops.toList c o K) :
    ∃ c' u, K c' ∧ ((Region.wanted o (yielded ops a.tmps) = true ∧ (execOp a.eval o).run P w = .ok (.value u) w ∧ Inv n W0 G0 c' (a.put o.dst u) w g) ∨ (Region.wanted o (yielded ops a.tmps) = false ∧ Inv n W0 G0 c' (a.put o.dst undef) w g)) := by
  unfold guardV at h
  split at h
  · rename_i j want d hg hd
    split at h
    · rename_i t ht
      cases hb : (Nat.blt t n && opsOk n o && !callIn ops.toList o.guard) with
      | false => rw [hb] at h; exact h.elim
      | true =>
        rw [hb] at h
        simp only [cond_true] at h
        simp only [Bool.and_eq_true] at hb
        replace hb := hb.1
        have htn : t < n := by rw [← Nat.blt_eq]; exact hb.1
        split at h
        · rename_i b hgb
          obtain ⟨v, h1, h2, h3, h4⟩ := h
          simp only [Bool.and_eq_true] at h3
          have hw := guardB_wanted hi hg ht htn hgb
          cases b with
          | true =>
            obtain ⟨u, q1, q2⟩ := gv_step hi hb.2 hd rfl (fun x hx => by
              have hx0 := hi.eval (opsOk_mem hb.2 hx)
              cases hop : opens o with
              | false => simpa using hx0
              | true =>
                rw [hop] at h1
                simp only [cond_true] at h1 ⊢
                exact rep_open hx0 fun b' y e => openOk_mem h1 rfl _ (List.mem_map.2 ⟨x, by simpa using hx, rfl⟩) b' y e) h2 h3.1 h3.2
            exact ⟨_, u, h4, .inl ⟨hw, q1, by rw [hd]; exact q2⟩⟩
          | false => exact ⟨_, undef, h4, .inr ⟨hw, by rw [hd]; exact gv_skip hi (opsOk_dst hb.2 d hd) rfl⟩⟩
        · exact h.elim
    · exact h.elim
  · exact h.elim
end
end Go.Ev
end
