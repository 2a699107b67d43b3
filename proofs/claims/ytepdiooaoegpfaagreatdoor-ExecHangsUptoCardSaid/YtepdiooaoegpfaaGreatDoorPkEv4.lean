/- Written by programs of this session: laws and contracts that the law's proof stands on, merged into one text. Conditions: none beyond those in each statement. -/
import Derived.Test.YtepdiooaoegpfaaGreatDoorPkEv3
section
/- Written by this session: calls, over trees: what is handed in, and what comes back. Conditions: none beyond those in each statement. -/
namespace Go.Ev
open Go

mutual
def AV.up (base : Nat) : AV → AV
  | .bp i off => .xp (base + i) off
  | .mo i => .mx (base + i)
  | .bs i off k n c => .xs (base + i) off k n c
  | .agg l => .agg (upL base l)
  | .fn f a b => .fn f (upL base a) (upL base b)
  | .tup l => .tup (upL base l)
  | .top => .top
  | .v x => .v x
  | .sl k l => .sl k l
  | .xp i off => .xp i off
  | .mx i => .mx i
  | .xs i off k n c => .xs i off k n c
  | .ep l => .ep l
  | .ifc t x => .ifc t x
  | .gv b x => .gv b x
def upL (base : Nat) : List AV → List AV
  | [] => []
  | x :: xs => AV.up base x :: upL base xs
end

mutual
/-- No pointer to a box. -/
def AV.pf : AV → Bool
  | .bp _ _ | .mo _ | .xp _ _ | .mx _ | .bs .. | .xs .. => false
  | .agg l => pfL l
  | .fn _ a b => pfL a && pfL b
  | .tup l => pfL l
  | .top | .v _ | .sl _ _ | .ep _ | .ifc _ _ | .gv _ _ => true
def pfL : List AV → Bool
  | [] => true
  | x :: xs => AV.pf x && pfL xs
end

theorem up_isAgg (base : Nat) (x : AV) : (x.up base).isAgg = x.isAgg := by cases x <;> rfl
theorem upL_length (base : Nat) : ∀ l, (upL base l).length = l.length
  | [] => rfl
  | x :: l => by simp [upL, upL_length base l]
theorem upL_eq (base : Nat) : ∀ l, upL base l = l.map (AV.up base)
  | [] => rfl
  | x :: l => by simp [upL, upL_eq base l]

mutual
theorem RepV.upV {w : World} {hw : Hw} {bs : List Nat} {base base' : Nat} (h1 : bs.length ≤ base') (h2 : base ≤ base') : ∀ (a : AV) (vs : List Value), RepV w hw bs base a vs → RepV w hw bs base' (a.up base) vs
  | .top, _, h => by simpa only [AV.up, RepV] using h
  | .v x, _, h => by simpa only [AV.up, RepV] using h
  | .sl k l, _, h => by simpa only [AV.up, RepV] using h
  | .agg l, vs, h => by simp only [AV.up, RepV] at h ⊢; exact RepL.upL' h1 h2 l vs h
  | .tup _, _, h => by simp only [RepV] at h
  | .bp i off, _, h => by
    simp only [AV.up, RepV] at h ⊢
    obtain ⟨b, e, r⟩ := h
    have := (List.getElem?_eq_some_iff.1 e).1
    exact ⟨by omega, b, e, r⟩
  | .xp i off, _, h => by simp only [AV.up, RepV] at h ⊢; exact ⟨by omega, h.2⟩
  | .mo i, _, h => by
    simp only [AV.up, RepV] at h ⊢
    obtain ⟨b, e, r⟩ := h
    have := (List.getElem?_eq_some_iff.1 e).1
    exact ⟨by omega, b, e, r⟩
  | .mx i, _, h => by simp only [AV.up, RepV] at h ⊢; exact ⟨by omega, h.2⟩
  | .bs i _ _ _ _, _, h => by
    simp only [AV.up, RepV] at h ⊢
    obtain ⟨b, e, r⟩ := h
    have := (List.getElem?_eq_some_iff.1 e).1
    exact ⟨by omega, b, e, r⟩
  | .xs .., _, h => by simp only [AV.up, RepV] at h ⊢; exact ⟨by omega, h.2⟩
  | .ep l, _, h => by simpa only [AV.up, RepV] using h
  | .fn f first cap, _, h => by
    simp only [AV.up, RepV] at h ⊢
    obtain ⟨fs, cs, e, q1, q2⟩ := h
    exact ⟨fs, cs, e, RepL.upL' h1 h2 first _ q1, RepL.upL' h1 h2 cap _ q2⟩
  | .ifc t x, _, h => by simpa only [AV.up, RepV] using h
  | .gv .., _, h => by simpa only [AV.up, RepV] using h
theorem RepL.upL' {w : World} {hw : Hw} {bs : List Nat} {base base' : Nat} (h1 : bs.length ≤ base') (h2 : base ≤ base') : ∀ (l : List AV) (vs : List Value), RepL w hw bs base l vs → RepL w hw bs base' (upL base l) vs
  | [], _, h => by simpa only [upL, RepL] using h
  | x :: xs, _, h => by
    simp only [upL, RepL] at h ⊢
    obtain ⟨v, vs', e, q1, q2⟩ := h
    exact ⟨v, vs', e, ⟨RepV.upV h1 h2 x _ q1.1, by rw [up_isAgg]; exact q1.2.1, q1.2.2⟩, RepL.upL' h1 h2 xs _ q2⟩
end

mutual
theorem RepV.toCl {w : World} {hw : Hw} {bs : List Nat} {base : Nat} : ∀ (a : AV) (vs : List Value), RepV w hw bs base a vs → a.cl base (bs.length - base)
  | .top, _, _ => by simp only [AV.cl]
  | .v x, _, _ => by simp only [AV.cl]
  | .sl k l, _, _ => by simp only [AV.cl]
  | .agg l, vs, h => by simp only [AV.cl, RepV] at h ⊢; exact RepL.toCl l vs h
  | .tup _, _, h => by simp only [RepV] at h
  | .bp i off, _, h => by
    simp only [AV.cl, RepV] at h ⊢
    obtain ⟨b, e, r⟩ := h
    have := (List.getElem?_eq_some_iff.1 e).1
    omega
  | .xp i off, _, h => by simp only [AV.cl, RepV] at h ⊢; exact h.1
  | .mo i, _, h => by
    simp only [AV.cl, RepV] at h ⊢
    obtain ⟨b, e, r⟩ := h
    have := (List.getElem?_eq_some_iff.1 e).1
    omega
  | .mx i, _, h => by simp only [AV.cl, RepV] at h ⊢; exact h.1
  | .bs i _ _ _ _, _, h => by
    simp only [AV.cl, RepV] at h ⊢
    obtain ⟨b, e, r⟩ := h
    have := (List.getElem?_eq_some_iff.1 e).1
    omega
  | .xs .., _, h => by simp only [AV.cl, RepV] at h ⊢; exact h.1
  | .ep l, _, _ => by simp only [AV.cl]
  | .fn f first cap, _, h => by
    simp only [AV.cl, RepV] at h ⊢
    obtain ⟨fs, cs, e, q1, q2⟩ := h
    exact ⟨RepL.toCl first _ q1, RepL.toCl cap _ q2⟩
  | .ifc t x, _, _ => by simp only [AV.cl]
  | .gv .., _, _ => by simp only [AV.cl]
theorem RepL.toCl {w : World} {hw : Hw} {bs : List Nat} {base : Nat} : ∀ (l : List AV) (vs : List Value), RepL w hw bs base l vs → clL base (bs.length - base) l
  | [], _, _ => by simp only [clL]
  | x :: xs, _, h => by
    simp only [clL, RepL] at h ⊢
    obtain ⟨v, vs', e, q1, q2⟩ := h
    exact ⟨RepV.toCl x _ q1.1, RepL.toCl xs _ q2⟩
end

mutual
theorem RepV.downV {w : World} {hw : Hw} {bs : List Nat} {base base' m : Nat} : ∀ (a : AV) (vs : List Value), a.cl base m → RepV w hw bs base' (a.up base) vs → RepV w hw bs base a vs
  | .top, _, _, h => by simpa only [AV.up, RepV] using h
  | .v x, _, _, h => by simpa only [AV.up, RepV] using h
  | .sl k l, _, _, h => by simpa only [AV.up, RepV] using h
  | .agg l, vs, c, h => by simp only [AV.up, RepV, AV.cl] at h c ⊢; exact RepL.downL l vs c h
  | .tup _, _, _, h => by simp only [AV.up, RepV] at h
  | .bp i off, _, _, h => by simp only [AV.up, RepV] at h ⊢; exact h.2
  | .xp i off, _, c, h => by simp only [AV.up, RepV, AV.cl] at h c ⊢; exact ⟨c, h.2⟩
  | .mo i, _, _, h => by simp only [AV.up, RepV] at h ⊢; exact h.2
  | .mx i, _, c, h => by simp only [AV.up, RepV, AV.cl] at h c ⊢; exact ⟨c, h.2⟩
  | .bs .., _, _, h => by simp only [AV.up, RepV] at h ⊢; exact h.2
  | .xs .., _, c, h => by simp only [AV.up, RepV, AV.cl] at h c ⊢; exact ⟨c, h.2⟩
  | .ep l, _, _, h => by simpa only [AV.up, RepV] using h
  | .fn f first cap, _, c, h => by
    simp only [AV.up, RepV, AV.cl] at h c ⊢
    obtain ⟨fs, cs, e, q1, q2⟩ := h
    exact ⟨fs, cs, e, RepL.downL first _ c.1 q1, RepL.downL cap _ c.2 q2⟩
  | .ifc t x, _, _, h => by simpa only [AV.up, RepV] using h
  | .gv .., _, _, h => by simpa only [AV.up, RepV] using h
theorem RepL.downL {w : World} {hw : Hw} {bs : List Nat} {base base' m : Nat} : ∀ (l : List AV) (vs : List Value), clL base m l → RepL w hw bs base' (upL base l) vs → RepL w hw bs base l vs
  | [], _, _, h => by simpa only [upL, RepL] using h
  | x :: xs, _, c, h => by
    simp only [upL, RepL, clL] at h c ⊢
    obtain ⟨v, vs', e, q1, q2⟩ := h
    exact ⟨v, vs', e, ⟨RepV.downV x _ c.1 q1.1, by rw [← up_isAgg base]; exact q1.2.1, q1.2.2⟩, RepL.downL xs _ c.2 q2⟩
end

mutual
theorem RepV.takeV {w : World} {hw : Hw} {bs : List Nat} {base m : Nat} : ∀ (a : AV) (vs : List Value), a.cl base m → RepV w hw bs base a vs → RepV w hw (bs.take (base + m)) base a vs
  | .top, _, _, h => by simpa only [RepV] using h
  | .v x, _, _, h => by simpa only [RepV] using h
  | .sl k l, _, _, h => by simpa only [RepV] using h
  | .agg l, vs, c, h => by simp only [RepV, AV.cl] at h c ⊢; exact RepL.takeL l vs c h
  | .tup _, _, _, h => by simp only [RepV] at h
  | .bp i off, _, c, h => by simp only [RepV, AV.cl] at h c ⊢; obtain ⟨b, e, r⟩ := h; exact ⟨b, by rw [List.getElem?_take, if_pos (by omega)]; exact e, r⟩
  | .xp i off, _, c, h => by simp only [RepV, AV.cl] at h c ⊢; obtain ⟨h1, b, e, r⟩ := h; exact ⟨c, b, by rw [List.getElem?_take, if_pos (by omega)]; exact e, r⟩
  | .mo i, _, c, h => by simp only [RepV, AV.cl] at h c ⊢; obtain ⟨b, e, r⟩ := h; exact ⟨b, by rw [List.getElem?_take, if_pos (by omega)]; exact e, r⟩
  | .mx i, _, c, h => by simp only [RepV, AV.cl] at h c ⊢; obtain ⟨h1, b, e, r⟩ := h; exact ⟨c, b, by rw [List.getElem?_take, if_pos (by omega)]; exact e, r⟩
  | .bs .., _, c, h => by simp only [RepV, AV.cl] at h c ⊢; obtain ⟨b, e, r⟩ := h; exact ⟨b, by rw [List.getElem?_take, if_pos (by omega)]; exact e, r⟩
  | .xs .., _, c, h => by simp only [RepV, AV.cl] at h c ⊢; obtain ⟨h1, b, e, r⟩ := h; exact ⟨c, b, by rw [List.getElem?_take, if_pos (by omega)]; exact e, r⟩
  | .ep l, _, _, h => by simpa only [RepV] using h
  | .fn f first cap, _, c, h => by
    simp only [RepV, AV.cl] at h c ⊢
    obtain ⟨fs, cs, e, q1, q2⟩ := h
    exact ⟨fs, cs, e, RepL.takeL first _ c.1 q1, RepL.takeL cap _ c.2 q2⟩
  | .ifc t x, _, _, h => by simpa only [RepV] using h
  | .gv .., _, _, h => by simpa only [RepV] using h
theorem RepL.takeL {w : World} {hw : Hw} {bs : List Nat} {base m : Nat} : ∀ (l : List AV) (vs : List Value), clL base m l → RepL w hw bs base l vs → RepL w hw (bs.take (base + m)) base l vs
  | [], _, _, h => by simpa only [RepL] using h
  | x :: xs, _, c, h => by
    simp only [RepL, clL] at h c ⊢
    obtain ⟨v, vs', e, q1, q2⟩ := h
    exact ⟨v, vs', e, ⟨RepV.takeV x _ c.1 q1.1, q1.2⟩, RepL.takeL xs _ c.2 q2⟩
end

mutual
theorem RepV.pfV {w : World} {hw : Hw} {bs : List Nat} {base : Nat} : ∀ (a : AV) (vs : List Value), a.pf = true → RepV w hw bs base a vs → RepV w hw [] 0 a vs
  | .top, _, _, h => by simpa only [RepV] using h
  | .v x, _, _, h => by simpa only [RepV] using h
  | .sl k l, _, _, h => by simpa only [RepV] using h
  | .agg l, vs, c, h => by simp only [RepV, AV.pf] at h c ⊢; exact RepL.pfL' l vs c h
  | .tup _, _, _, h => by simp only [RepV] at h
  | .bp i off, _, c, h => by simp [AV.pf] at c
  | .xp i off, _, c, h => by simp [AV.pf] at c
  | .mo i, _, c, h => by simp [AV.pf] at c
  | .mx i, _, c, h => by simp [AV.pf] at c
  | .bs .., _, c, h => by simp [AV.pf] at c
  | .xs .., _, c, h => by simp [AV.pf] at c
  | .ep l, _, _, h => by simpa only [RepV] using h
  | .fn f first cap, _, c, h => by
    simp only [RepV, AV.pf, Bool.and_eq_true] at h c ⊢
    obtain ⟨fs, cs, e, q1, q2⟩ := h
    exact ⟨fs, cs, e, RepL.pfL' first _ c.1 q1, RepL.pfL' cap _ c.2 q2⟩
  | .ifc t x, _, _, h => by simpa only [RepV] using h
  | .gv .., _, _, h => by simpa only [RepV] using h
theorem RepL.pfL' {w : World} {hw : Hw} {bs : List Nat} {base : Nat} : ∀ (l : List AV) (vs : List Value), pfL l = true → RepL w hw bs base l vs → RepL w hw [] 0 l vs
  | [], _, _, h => by simpa only [RepL] using h
  | x :: xs, _, c, h => by
    simp only [RepL, pfL, Bool.and_eq_true] at h c ⊢
    obtain ⟨v, vs', e, q1, q2⟩ := h
    exact ⟨v, vs', e, ⟨RepV.pfV x _ c.1 q1.1, q1.2⟩, RepL.pfL' xs _ c.2 q2⟩
end

section
variable {w : World} {hw : Hw} {bs : List Nat} {base base' m : Nat}
theorem Rep1.up {a : AV} {y : Value} (h1 : bs.length ≤ base') (h2 : base ≤ base') (h : Rep1 w hw bs base a y) : Rep1 w hw bs base' (a.up base) y := by
  rcases h with rfl | ⟨h, e⟩
  · exact .inl rfl
  · exact .inr ⟨RepV.upV h1 h2 _ _ h, by rw [up_isAgg]; exact e⟩
theorem RepT.up (h1 : bs.length ≤ base') (h2 : base ≤ base') : ∀ (l : List AV) (vs : List Value), RepT w hw bs base l vs → RepT w hw bs base' (l.map (AV.up base)) vs
  | [], _, h => h
  | x :: l, _, h => by
    simp only [RepT, List.map_cons] at h ⊢
    obtain ⟨v, vs', e, q1, q2⟩ := h
    exact ⟨v, vs', e, q1.up h1 h2, RepT.up h1 h2 l _ q2⟩
theorem Rep.up {a : AV} {y : Value} (h1 : bs.length ≤ base') (h2 : base ≤ base') (h : Rep w hw bs base a y) : Rep w hw bs base' (a.up base) y := by
  cases a with
  | tup l => obtain ⟨vs, e, h⟩ := h; exact ⟨vs, e, by have := RepT.up h1 h2 l _ h; rwa [← upL_eq] at this⟩
  | _ => exact Rep1.up h1 h2 h
theorem Rep1.down {a : AV} {y : Value} (c : a.cl base m) (h : Rep1 w hw bs base' (a.up base) y) : Rep1 w hw bs base a y := by
  rcases h with h | ⟨h, e⟩
  · exact .inl (by cases a <;> simp [AV.up] at h ⊢)
  · exact .inr ⟨RepV.downV _ _ c h, by rw [← up_isAgg base]; exact e⟩
theorem RepT.down : ∀ (l : List AV) (vs : List Value), clL base m l → RepT w hw bs base' (upL base l) vs → RepT w hw bs base l vs
  | [], _, _, h => h
  | x :: l, _, c, h => by
    simp only [RepT, upL, clL] at h c ⊢
    obtain ⟨v, vs', e, q1, q2⟩ := h
    exact ⟨v, vs', e, q1.down c.1, RepT.down l _ c.2 q2⟩
theorem Rep.down {a : AV} {y : Value} (c : a.cl base m) (h : Rep w hw bs base' (a.up base) y) : Rep w hw bs base a y := by
  cases a with
  | tup l => obtain ⟨vs, e, h⟩ := h; exact ⟨vs, e, RepT.down l _ (by simpa only [AV.cl] using c) h⟩
  | _ => exact Rep1.down c h
theorem Rep1.pf {a : AV} {y : Value} (hp : a.pf = true) (h : Rep1 w hw bs base a y) : Rep1 w hw [] 0 a y := h.imp id fun ⟨h, e⟩ => ⟨RepV.pfV _ _ hp h, e⟩
theorem RepT.pf : ∀ (l : List AV) (vs : List Value), pfL l = true → RepT w hw bs base l vs → RepT w hw [] 0 l vs
  | [], _, _, h => h
  | x :: l, _, hp, h => by
    simp only [RepT, pfL, Bool.and_eq_true] at h hp ⊢
    obtain ⟨v, vs', e, q1, q2⟩ := h
    exact ⟨v, vs', e, q1.pf hp.1, RepT.pf l _ hp.2 q2⟩
theorem Rep.pf {a : AV} {y : Value} (hp : a.pf = true) (h : Rep w hw bs base a y) : Rep w hw [] 0 a y := by
  cases a with
  | tup l => obtain ⟨vs, e, h⟩ := h; exact ⟨vs, e, RepT.pf l _ (by simpa [AV.pf] using hp) h⟩
  | _ => exact Rep1.pf hp h
end

def Bx.up (base : Nat) : Bx → Bx
  | .cells l os => .cells (upL base l) os
  | .map l => .map l

mutual
theorem up_cl {base : Nat} : ∀ x : AV, x.cl base 0 → x.up base = x
  | .top, _ | .v _, _ | .sl _ _, _ | .ep _, _ | .ifc _ _, _ | .gv _ _, _ | .xp _ _, _ | .mx _, _ | .xs .., _ => rfl
  | .bp _ _, h => by simp only [AV.cl] at h; omega
  | .mo _, h => by simp only [AV.cl] at h; omega
  | .bs .., h => by simp only [AV.cl] at h; omega
  | .agg l, h => by simp only [AV.cl] at h; simp only [AV.up, upL_cl l h]
  | .tup l, h => by simp only [AV.cl] at h; simp only [AV.up, upL_cl l h]
  | .fn f a b, h => by simp only [AV.cl] at h; simp only [AV.up, upL_cl a h.1, upL_cl b h.2]
theorem upL_cl {base : Nat} : ∀ l : List AV, clL base 0 l → upL base l = l
  | [], _ => rfl
  | x :: l, h => by simp only [clL] at h; simp only [upL, up_cl x h.1, upL_cl l h.2]
end
theorem mapUp_cl {base : Nat} : ∀ {l : List Bx}, (∀ x ∈ l, Bx.cl base 0 x) → l.map (Bx.up base) = l
  | [], _ => rfl
  | x :: l, h => by
    rw [List.map_cons, mapUp_cl fun y hy => h y (by simp [hy])]
    have hx := h x (by simp)
    cases x with
    | cells l os => simp only [Bx.cl] at hx; simp only [Bx.up, upL_cl l hx]
    | map l => rfl

/-- No pointers to boxes (seen at once). -/
def pf0 (x : AV) : Bool :=
  match x with
  | .v _ | .sl _ _ | .ep _ | .ifc _ _ | .top => true
  | _ => false
def pf0L : List AV → Bool
  | [] => true
  | x :: xs => match pf0 x with
    | true => pf0L xs
    | false => false
def pfa (x : AV) : Bool :=
  match x with
  | .v _ | .sl _ _ | .ep _ | .ifc _ _ | .top | .gv _ _ => true
  | .agg l => pf0L l
  | .fn _ a b => pf0L a && pf0L b
  | _ => false
def pfaL : List AV → Bool
  | [] => true
  | x :: xs => match pfa x with
    | true => pfaL xs
    | false => false
def pf1 (x : AV) : Bool :=
  match x with
  | .tup l => pfaL l
  | x => pfa x
def pf1L : List AV → Bool
  | [] => true
  | x :: xs => match pf1 x with
    | true => pf1L xs
    | false => false
theorem pf_of0 {x : AV} (h : pf0 x = true) : x.pf = true := by cases x <;> simp_all [pf0, AV.pf]
theorem pfL_of0 : ∀ {l : List AV}, pf0L l = true → pfL l = true
  | [], _ => rfl
  | x :: xs, h => by
    simp only [pf0L] at h
    cases hx : pf0 x with
    | false => rw [hx] at h; cases h
    | true => rw [hx] at h; simp only [pfL, pf_of0 hx, pfL_of0 h, Bool.and_self]
theorem pf_ofa {x : AV} (h : pfa x = true) : x.pf = true := by
  cases x <;> simp only [pfa, AV.pf, Bool.and_eq_true] at * <;> first | exact pfL_of0 h | exact ⟨pfL_of0 h.1, pfL_of0 h.2⟩ | exact h | cases h
theorem pfL_ofa : ∀ {l : List AV}, pfaL l = true → pfL l = true
  | [], _ => rfl
  | x :: xs, h => by
    simp only [pfaL] at h
    cases hx : pfa x with
    | false => rw [hx] at h; cases h
    | true => rw [hx] at h; simp only [pfL, pf_ofa hx, pfL_ofa h, Bool.and_self]
theorem pf_of1 {x : AV} (h : pf1 x = true) : x.pf = true := by
  cases x
  case tup l => simp only [pf1, AV.pf] at *; exact pfL_ofa h
  all_goals exact pf_ofa h
theorem pfL_of1 : ∀ {l : List AV}, pf1L l = true → pfL l = true
  | [], _ => rfl
  | x :: xs, h => by
    simp only [pf1L] at h
    cases hx : pf1 x with
    | false => rw [hx] at h; cases h
    | true => rw [hx] at h; simp only [pfL, pf_of1 hx, pfL_of1 h, Bool.and_self]

def XCalls (P : Program) (f : FuncId) (args : List AV) (env : List Bx) (R : AV → Bool → List Bx → Prop) : Prop :=
  ∀ (w : World) (g : Gh) (vs : List Value), Good w g env env.length → (∀ b i, g.own b ≠ some (.slot i)) → RepT w g.hw g.bs env.length args vs →
    Calls P f vs.toArray w fun e w' => ∃ u g' r ow env', e = .returned u ∧ R r ow env' ∧ env.length ≤ env'.length ∧ Good w' g' env' env'.length ∧ Ext (· = .ext) w g w' g' ∧ Rep w' g'.hw g'.bs env'.length r u ∧
      (ow = true → ∃ k l, r = .sl k l ∧ OwnAt w' g' (.slot 0) k u)

theorem XCalls.mono {P : Program} {f : FuncId} {args : List AV} {env : List Bx} {R R' : AV → Bool → List Bx → Prop} (h : XCalls P f args env R) (hr : ∀ r ow e, R r ow e → R' r ow e) : XCalls P f args env R' :=
  fun w g vs G hs hv => (h w g vs G hs hv).mono fun _ _ ⟨u, g', r, ow, env', h1, h2, h3⟩ => ⟨u, g', r, ow, env', h1, hr _ _ _ h2, h3⟩

def ownOut : Option Loc → Option Loc
  | some (.slot _) => some .ext
  | x => x
def ownBack (d : Nat) (before : Option Loc) : Option Loc → Option Loc
  | some .ext => before
  | some (.slot _) => some (.slot d)
  | x => x

section
variable {n : Nat} {W0 : World} {G0 : Gh} {c : Cfg} {a : Act} {w : World} {g : Gh} {P : Program}

theorem Good.callIn (G : Good w g c.mem c.base) : Good w { g with own := fun b => ownOut (g.own b) } (c.mem.map (Bx.up c.base)) (c.mem.map (Bx.up c.base)).length := by
  have hlen : c.base ≤ c.mem.length := by simp [Cfg.base, Cfg.mem]
  have hbs : g.bs.length ≤ (c.mem.map (Bx.up c.base)).length := by simp [G.len]
  refine ⟨by simp [G.len], G.nd, G.nohw, fun i x b hx hb => ?_, G.hw, fun b L e => ?_, G.glob⟩
  · simp only [List.getElem?_map, Option.map_eq_some_iff] at hx
    obtain ⟨x, hx, rfl⟩ := hx
    have := G.box i x b hx hb
    cases x with
    | cells l os =>
      obtain ⟨cs, e, h1, h2, h3⟩ := this
      refine ⟨cs, e, h1, RepL.upL' hbs (by simpa using hlen) l _ h2, fun j hj => ?_⟩
      obtain ⟨k, l', y, e1, e2, e3⟩ := h3 j hj
      refine ⟨k, l', y, by rw [upL_eq, List.getElem?_map, e1]; rfl, e2, ?_⟩
      obtain ⟨a, n, c', e', hn, h⟩ := e3
      refine ⟨a, n, c', e', hn, h.imp id ?_⟩
      rintro ⟨b, o, h, cs, e, ea, h1, h2, h3, h4, h5⟩
      exact ⟨b, o, h, cs, e, ea, by simp [h1, ownOut], h2, h3, h4, h5⟩
    | map l => exact this
  · cases h : g.own b with
    | none => simp [h, ownOut] at e
    | some L' => exact G.own b L' h

theorem Good.call (G : Good w g c.mem c.base) {f : FuncId} {args : List AV} {vs : List Value} {R : AV → Bool → List Bx → Prop} (hv : RepT w g.hw g.bs c.base args vs)
    (h : XCalls P f (args.map (AV.up c.base)) (c.mem.map (Bx.up c.base)) R) (d : Nat) :
    Calls P f vs.toArray w fun e w' => ∃ u r ow env', e = .returned u ∧ R r ow env' ∧ ∀ r' mem', r = AV.up c.base r' → env' = mem'.map (Bx.up c.base) → r'.cl c.base (mem'.length - c.base) → (∀ x ∈ mem', Bx.cl c.base (mem'.length - c.base) x) →
      ∃ g', Good w' g' mem' c.base ∧ Ext KeepS w g w' g' ∧ Rep w' g'.hw g'.bs c.base r' u ∧ (ow = true → ∃ k l, r' = .sl k l ∧ OwnAt w' g' (.slot d) k u) := by
  have hlen : c.base ≤ c.mem.length := by simp [Cfg.base, Cfg.mem]
  have hbs : g.bs.length ≤ (c.mem.map (Bx.up c.base)).length := by simp [G.len]
  refine (h w _ vs G.callIn (fun b i => by cases h : g.own b with
    | none => simp [h, ownOut]
    | some L => cases L <;> simp [h, ownOut]) (RepT.up hbs (by simpa using hlen) args vs hv)).mono ?_
  rintro e w' ⟨u, g1, r, ow, env', he, hR, hle, G1, E1, hr, how⟩
  refine ⟨u, r, ow, env', he, hR, fun r' mem' hr' hm hrc hcl => ?_⟩
  subst hm hr'
  let g' : Gh := { g1 with own := fun b => ownBack d (g.own b) (g1.own b) }
  have hlen1 : g1.bs.length = mem'.length := by rw [G1.len]; simp
  -- what a place of the caller's owns
  have kept : ∀ b L, g.own b = some L → (∀ i j, L ≠ .cell i j) → g'.own b = some L ∧ g'.hw b = g.hw b ∧ w'.heap[b]? = w.heap[b]? := by
    intro b L hb hL
    have h1 : ownOut (g.own b) = some .ext := by
      rw [hb]
      cases L with
      | slot i => rfl
      | ext => rfl
      | cell i j => exact absurd rfl (hL i j)
    obtain ⟨q1, q2, q3⟩ := E1.ext b .ext h1 rfl
    exact ⟨by show ownBack d (g.own b) (g1.own b) = _; rw [q1]; exact hb, q2, q3⟩
  have cellKept : ∀ b i j, g1.own b = some (.cell i j) → g'.own b = some (.cell i j) := fun b i j h => by
    show ownBack d (g.own b) (g1.own b) = _
    rw [h]; rfl
  have hE : Ext KeepS w g w' g' := by
    refine ⟨E1.size, E1.tape, E1.os, E1.output, E1.hw, fun b L hb hL => kept b L hb hL, E1.bs, E1.bsnew, fun b hb L hL => ?_, fun b hb hnb ho => ?_⟩
    · have hL' : ownBack d (g.own b) (g1.own b) = some L := hL
      cases hg1 : g1.own b with
      | none => rw [hg1] at hL'; cases hL'
      | some L1 =>
        rw [hg1] at hL'
        obtain ⟨L2, q1, q2⟩ := E1.orig b hb L1 hg1
        replace q1 : ownOut (g.own b) = some L2 := q1
        have cellOr : L1 ≠ .ext → ∃ i j, g.own b = some (.cell i j) := fun hne => by
          cases hg : g.own b with
          | none => rw [hg] at q1; cases q1
          | some L3 =>
            rw [hg] at q1
            cases L3 with
            | cell i j => exact ⟨i, j, rfl⟩
            | slot i => simp only [ownOut, Option.some.injEq] at q1; exact absurd (q2 q1.symm ▸ q1.symm) (fun h => hne ((q2 q1.symm).trans q1.symm))
            | ext => simp only [ownOut, Option.some.injEq] at q1; exact absurd ((q2 q1.symm).trans q1.symm) hne
        cases L1 with
        | ext => exact ⟨L, hL', fun _ => rfl⟩
        | slot s =>
          obtain ⟨i, j, hg⟩ := cellOr (by simp)
          exact ⟨_, hg, fun hk => absurd rfl (hk i j)⟩
        | cell i' j' =>
          obtain ⟨i, j, hg⟩ := cellOr (by simp)
          exact ⟨_, hg, fun hk => absurd rfl (hk i j)⟩
    · refine E1.old b hb hnb fun L hL => ?_
      replace hL : ownOut (g.own b) = some L := hL
      cases hg : g.own b with
      | none => rw [hg] at hL; cases hL
      | some L3 =>
        have := ho L3 hg
        rw [hg] at hL
        cases L3 with
        | cell i j => exact absurd rfl (this i j)
        | slot i => simp only [ownOut, Option.some.injEq] at hL; exact hL.symm
        | ext => simp only [ownOut, Option.some.injEq] at hL; exact hL.symm
  have hG : Good w' g' mem' c.base := by
    refine ⟨hlen1, G1.nd, G1.nohw, fun i x b hx hb => ?_, G1.hw, fun b L hL => ?_, G1.glob⟩
    · have := G1.box i (x.up c.base) b (by rw [List.getElem?_map, hx]; rfl) hb
      have hx' := hcl x (List.mem_of_getElem? hx)
      cases x with
      | cells l os =>
        obtain ⟨cs, e, h1, h2, h3⟩ := this
        refine ⟨cs, e, h1, RepL.downL l _ hx' h2, fun j hj => ?_⟩
        obtain ⟨k, l', y, f1, f2, f3⟩ := h3 j hj
        refine ⟨k, l', y, ?_, f2, ?_⟩
        · rw [upL_eq, List.getElem?_map, Option.map_eq_some_iff] at f1
          obtain ⟨z, hz, hz'⟩ := f1
          rw [hz]
          cases z <;> simp [AV.up] at hz' <;> simp [hz']
        · exact f3.mono fun b hb => ⟨cellKept b _ _ hb, rfl, rfl⟩
      | map l => exact this
    · have hL' : ownBack d (g.own b) (g1.own b) = some L := hL
      cases hg1 : g1.own b with
      | none => rw [hg1] at hL'; cases hL'
      | some L1 => exact G1.own b L1 hg1
  refine ⟨g', hG, hE, hr.down hrc, fun how' => ?_⟩
  obtain ⟨k, l, e, ho⟩ := how how'
  refine ⟨k, l, by cases r' <;> simp [AV.up] at e; simp [e], ?_⟩
  obtain ⟨a, n, c', e', hn, h⟩ := ho
  refine ⟨a, n, c', e', hn, h.imp id ?_⟩
  rintro ⟨b, o, h, cs, e, ea, h1, h2, h3, h4, h5⟩
  exact ⟨b, o, h, cs, e, ea, by show ownBack d (g.own b) (g1.own b) = _; rw [h1]; rfl, h2, h3, h4, h5⟩

theorem Inv.call (hi : Inv n W0 G0 c a w g) {f : FuncId} {args : List AV} {vs : List Value} {R : AV → Bool → List Bx → Prop} (hv : RepT w g.hw g.bs c.base args vs)
    (h : XCalls P f (args.map (AV.up c.base)) (c.mem.map (Bx.up c.base)) R) (d : Nat) :
    Calls P f vs.toArray w fun e w' => ∃ u r ow env', e = .returned u ∧ R r ow env' ∧ ∀ r' mem', r = AV.up c.base r' → env' = mem'.map (Bx.up c.base) → r'.cl c.base (mem'.length - c.base) → (∀ x ∈ mem', Bx.cl c.base (mem'.length - c.base) x) →
      ∀ c', c'.fr = c.fr → c'.os = c.os → c'.mem = mem' → c'.base = c.base → (∀ x ∈ c'.env, Bx.cl c.base 0 x) →
      ∃ g', Inv n W0 G0 c' a w' g' ∧ Rep w' g'.hw g'.bs c.base r' u ∧ (ow = true → ∃ k l, r' = .sl k l ∧ OwnAt w' g' (.slot d) k u) := by
  refine (hi.good.call hv h d).mono ?_
  rintro e w' ⟨u, r, ow, env', he, hR, hcont⟩
  refine ⟨u, r, ow, env', he, hR, fun r' mem' hr' hm hrc hcl c' e1 e2 e3 e4 e5 => ?_⟩
  obtain ⟨g', hG, hE, hr, how⟩ := hcont r' mem' hr' hm hrc hcl
  refine ⟨g', ⟨hi.size, hi.defers, fun j hj => ?_, fun j hj => ?_, ?_, hi.ext.trans (hE.weaken (by rintro L rfl; intro i j; simp)), by rw [e4]; exact e5, by rw [e4]; exact hi.b0⟩, hr, how⟩
  · rw [e1, e4]; exact (hi.fr j hj).mono hE.hw hE.bs
  · rw [e2] at hj
    rw [e1]
    obtain ⟨k, l, h1, h2⟩ := hi.os j hj
    exact ⟨k, l, h1, h2.mono fun b hb => hE.ext b _ hb (by intro i j; simp)⟩
  · rw [e3, e4]; exact hG
end
end Go.Ev
end
section
/- Written by this session: a function's contract out of its body's. Conditions: none beyond those in each statement. -/
namespace Go.Ev
open Go

def frOf : Nat → List AV → Fr
  | _, [] => []
  | i, x :: xs => (i, x) :: frOf (i + 1) xs

theorem frOf_get : ∀ (l : List AV) (i j : Nat), Fr.get (frOf i l) j = if i ≤ j then (l[j - i]?).getD .top else .top
  | [], i, j => by simp [frOf, Fr.get]
  | x :: l, i, j => by
    simp only [frOf, Fr.get_cons]
    by_cases h : i = j
    · subst h; simp
    · rw [if_neg h, frOf_get l (i + 1) j]
      by_cases h' : i ≤ j
      · rw [if_pos h', if_pos (by omega), show j - i = (j - (i + 1)) + 1 from by omega]; simp
      · rw [if_neg h', if_neg (by omega)]

def AV.isTup : AV → Bool | .tup _ => true | _ => false
theorem rep1_of {w : World} {hw : Hw} {bs : List Nat} {base : Nat} {x : AV} {y : Value} (hx : x.isTup = false) (h : Rep w hw bs base x y) : Rep1 w hw bs base x y := by
  cases x <;> first | exact h | (cases hx; done)

def retL (P : Program) (n : Nat) (c : Cfg) : List ResultVar → (List AV → Prop) → Prop
  | [], K => K []
  | .tmp t :: r, K => bif Nat.blt t n && !(Fr.get c.fr t).isTup then retL P n c r (fun l => K (Fr.get c.fr t :: l)) else False
  | .cell a t :: r, K => bif Nat.blt a n then loadA P c.env c.own t (Fr.get c.fr a) (fun v => bif v.isTup then False else retL P n c r (fun l => K (v :: l))) else False

def retB (P : Program) (n : Nat) (rs : List ResultVar) (c : Cfg) (K : AV → Bool → Prop) : Prop :=
  match rs with
  | [.tmp t] => bif Nat.blt t n then K (Fr.get c.fr t) (c.os.any (Nat.beq t)) else False
  | [.cell a t] => bif Nat.blt a n then loadA P c.env c.own t (Fr.get c.fr a) (fun v => K v false) else False
  | rs => retL P n c rs fun l => K (.tup l) false

def retA (P : Program) (n : Nat) (rs : List ResultVar) (c : Cfg) (K : AV → Bool → Prop) : Prop := retB P n rs c fun r ow => r.pf = true ∧ K r ow

section
variable {P : Program} {n : Nat} {W0 : World} {G0 : Gh} {c : Cfg} {a : Act} {w : World} {g : Gh}

theorem load_run {t : TypeId} {x : AV} {y : Value} {K : AV → Prop} (hi : Inv n W0 G0 c a w g) (h : loadA P c.env c.own t x K) (hr : Rep w g.hw g.bs c.base x y) :
    ∃ v u, K v ∧ (do loadVar t (← asAddr y) : Sem Value).run P w = .ok u w ∧ Rep w g.hw g.bs c.base v u := by
  obtain ⟨v, hk, hv⟩ := load_sound (ρA := fun _ => x) (x := .func 0) (dst := none) (type := 0) (pos := "") (after := #[]) (guard := none) h
  obtain ⟨u, hu, hrep⟩ := hv (fun _ => y) w g hi.good (fun _ _ => hr)
  refine ⟨v, u, hk, ?_, hrep⟩
  simp only [execOp, Sem.run_bind, Instr.loadAt] at hu
  cases y <;> simp only [Instr.sureAddr, run_stuck, Result.andThen_halt] at hu <;> try (cases hu; done)
  rename_i ad
  cases ad with
  | none => simp at hu
  | some ad =>
    simp only [Sem.run_pure, Result.andThen_ok] at hu
    simp only [asAddr, Sem.run_bind, Sem.run_pure, Result.andThen_ok]
    cases hl : (loadVar t ad).run P w with
    | ok q w' => rw [hl] at hu; simp at hu; simp [hu.1, hu.2]
    | halt q w' => rw [hl] at hu; simp at hu

def resOf (tmps : Array Value) : ResultVar → Sem Value
  | .tmp t => pure (tmps.getD t undef)
  | .cell a t => do loadVar t (← asAddr (tmps.getD a undef))

theorem retL_run (hi : Inv n W0 G0 c a w g) : ∀ (rs : List ResultVar) (K : List AV → Prop), retL P n c rs K → ∃ l us, K l ∧ (rs.mapM (resOf a.tmps)).run P w = .ok us w ∧ us.length = rs.length ∧ RepT w g.hw g.bs c.base l us
  | [], K, h => ⟨[], [], h, by simp, rfl, rfl⟩
  | .tmp t :: rs, K, h => by
    simp only [retL] at h
    cases ht : Nat.blt t n with
    | false => simp [ht] at h
    | true =>
      cases hu : (Fr.get c.fr t).isTup with
      | true => simp [hu] at h
      | false =>
      simp only [ht, hu, Bool.not_false, Bool.and_true, cond_true] at h
      obtain ⟨l, us, h1, h2, hl, h3⟩ := retL_run hi rs _ h
      have hr := hi.fr t (by rw [← Nat.blt_eq]; exact ht)
      refine ⟨_, a.tmps.getD t undef :: us, h1, by simp [List.mapM_cons, resOf, h2], by simp [hl], ?_⟩
      simp only [RepT]
      exact ⟨_, _, rfl, rep1_of hu hr, h3⟩
  | .cell b t :: rs, K, h => by
    simp only [retL] at h
    cases ht : Nat.blt b n with
    | false => simp [ht] at h
    | true =>
      simp only [ht, cond_true] at h
      have hr := hi.fr b (by rw [← Nat.blt_eq]; exact ht)
      obtain ⟨v, u, hk, hu, hrep⟩ := load_run hi h hr
      cases hv : v.isTup with
      | true => simp [hv] at hk
      | false =>
      simp only [hv, cond_false] at hk
      obtain ⟨l, us, h1, h2, hl, h3⟩ := retL_run hi rs _ hk
      refine ⟨_, u :: us, h1, ?_, by simp [hl], ?_⟩
      · simp only [List.mapM_cons, resOf, Sem.run_bind, Sem.run_pure] at hu ⊢
        rw [hu]
        simp [h2]
      · simp only [RepT]
        exact ⟨_, _, rfl, rep1_of hv hrep, h3⟩

theorem results_eq (fn : Func) (tmps : Array Value) : results fn tmps = (do let vs ← fn.results.mapM (resOf tmps); pure (if h : vs.size = 1 then vs[0] else .tuple vs)) := by
  unfold results
  congr 1

def resVal : List Value → Value
  | [u] => u
  | us => .tuple us.toArray
theorem resVal_eq (us : List Value) : (if h : us.toArray.size = 1 then us.toArray[0] else Value.tuple us.toArray) = resVal us := by
  match us with
  | [] => rfl
  | [u] => rfl
  | u :: u' :: us => rw [dif_neg (by simp)]; rfl

theorem results_run {fn : Func} {us : List Value} (h : (fn.results.toList.mapM (resOf a.tmps)).run P w = .ok us w) :
    (results fn a.tmps).run P w = .ok (resVal us) w := by
  rw [results_eq]
  simp only [Array.mapM_eq_mapM_toList, Sem.run_bind, Sem.run_map, h, Result.andThen_ok, Sem.run_pure, resVal_eq]

/-- What comes back, at a function's end. -/
theorem retB_run (hi : Inv n W0 G0 c a w g) {fn : Func} {K : AV → Bool → Prop} (h : retB P n fn.results.toList c K) :
    ∃ r ow u, K r ow ∧ (results fn a.tmps).run P w = .ok u w ∧ Rep w g.hw g.bs c.base r u ∧ (ow = true → ∃ s k l, r = .sl k l ∧ OwnAt w g (.slot s) k u) := by
  unfold retB at h
  split at h
  · rename_i t hrs
    cases ht : Nat.blt t n with
    | false => simp [ht] at h
    | true =>
      simp only [ht, cond_true] at h
      have htn : t < n := by rw [← Nat.blt_eq]; exact ht
      refine ⟨_, _, a.tmps.getD t undef, h, ?_, hi.fr t htn, fun ho => ?_⟩
      · exact results_run (us := [a.tmps.getD t undef]) (by rw [hrs]; simp [resOf])
      · obtain ⟨x, hx, hxt⟩ := List.any_eq_true.1 ho
        have := Nat.eq_of_beq_eq_true hxt
        subst this
        obtain ⟨k, l, h1, h2⟩ := hi.os _ hx
        exact ⟨_, k, l, h1, h2⟩
  · rename_i b t hrs
    cases ht : Nat.blt b n with
    | false => simp [ht] at h
    | true =>
      simp only [ht, cond_true] at h
      obtain ⟨v, u, hk, hu, hrep⟩ := load_run hi h (hi.fr b (by rw [← Nat.blt_eq]; exact ht))
      refine ⟨v, false, u, hk, ?_, hrep, by simp⟩
      exact results_run (us := [u]) (by rw [hrs]; simp only [List.mapM_cons, resOf, Sem.run_bind, Sem.run_pure] at hu ⊢; rw [hu]; simp)
  · rename_i hn1 hn2
    obtain ⟨l, us, h2, h3, hl, h4⟩ := retL_run hi _ _ h
    refine ⟨.tup l, false, .tuple us.toArray, h2, ?_, ⟨us.toArray, rfl, by simpa using h4⟩, by simp⟩
    have := results_run (fn := fn) h3
    have hne : us.length ≠ 1 := by
      rw [hl]
      intro hone
      match hrs : fn.results.toList, hone with
      | [.tmp t], _ => exact hn1 t hrs
      | [.cell b t], _ => exact hn2 b t hrs
    match us, hne with
    | [], _ => exact this
    | _ :: _ :: _, _ => exact this

theorem retA_run (hi : Inv n W0 G0 c a w g) {fn : Func} {K : AV → Bool → Prop} (h : retA P n fn.results.toList c K) :
    ∃ r ow u, K r ow ∧ r.pf = true ∧ (results fn a.tmps).run P w = .ok u w ∧ Rep w g.hw g.bs c.base r u ∧ (ow = true → ∃ s k l, r = .sl k l ∧ OwnAt w g (.slot s) k u) := by
  obtain ⟨r, ow, u, ⟨h1, h2⟩, h3⟩ := retB_run hi h
  exact ⟨r, ow, u, h2, h1, h3⟩

def outOwn (s : Option Nat) : Option Loc → Option Loc
  | some (.slot i) => if some i = s then some (.slot 0) else none
  | x => x

theorem Good.outB (G : Good w g c.mem c.base) (s : Option Nat) :
    let g' : Gh := { g with own := fun b => outOwn s (g.own b) }
    Good w g' (c.mem.map (Bx.up c.base)) (c.mem.map (Bx.up c.base)).length ∧ (∀ W0 G0, Ext (· = .ext) W0 G0 w g → Ext (· = .ext) W0 G0 w g') ∧ (∀ i k y, s = some i → OwnAt w g (.slot i) k y → OwnAt w g' (.slot 0) k y) := by
  have hlen : c.base ≤ c.mem.length := by simp [Cfg.base, Cfg.mem]
  have hbs : g.bs.length ≤ (c.mem.map (Bx.up c.base)).length := by simp [G.len]
  refine ⟨⟨by simp [G.len], G.nd, G.nohw, fun i x b hx hb => ?_, G.hw, fun b L e => ?_, G.glob⟩, fun W0 G0 E => ?_, ?_⟩
  · simp only [List.getElem?_map, Option.map_eq_some_iff] at hx
    obtain ⟨x, hx, rfl⟩ := hx
    have := G.box i x b hx hb
    cases x with
    | cells l os =>
      obtain ⟨cs, e, h1, h2, h3⟩ := this
      refine ⟨cs, e, h1, RepL.upL' hbs (by simpa using hlen) l _ h2, fun j hj => ?_⟩
      obtain ⟨k, l', y, e1, e2, e3⟩ := h3 j hj
      refine ⟨k, l', y, by rw [upL_eq, List.getElem?_map, e1]; rfl, e2, ?_⟩
      exact e3.mono fun b hb => ⟨by simp [hb, outOwn], rfl, rfl⟩
    | map l => exact this
  · cases h : g.own b with
    | none => simp [h, outOwn] at e
    | some L' => exact G.own b L' h
  · refine ⟨E.size, E.tape, E.os, E.output, E.hw, fun b L e hL => ?_, E.bs, E.bsnew, fun b hb L e => ?_, E.old⟩
    · obtain ⟨q1, q2, q3⟩ := E.ext b L e hL
      subst hL
      exact ⟨by simp [q1, outOwn], q2, q3⟩
    · cases h : g.own b with
      | none => simp [h, outOwn] at e
      | some L' =>
        obtain ⟨L'', e', he⟩ := E.orig b hb L' h
        refine ⟨L'', e', fun hk => ?_⟩
        have := he hk
        subst this hk
        simp [h, outOwn] at e
        exact e.symm
  · intro i k y hs h
    obtain ⟨a, n, c, e, hn, h⟩ := h
    refine ⟨a, n, c, e, hn, h.imp id ?_⟩
    rintro ⟨b, o, h, cs, e, ea, h1, h2, h3, h4, h5⟩
    exact ⟨b, o, h, cs, e, ea, by simp [h1, hs, outOwn], h2, h3, h4, h5⟩

theorem Good.out (G : Good w g c.mem c.base) (hcl : ∀ x ∈ c.env, Bx.cl c.base 0 x) (s : Option Nat) :
    let g' : Gh := { bs := g.bs.take c.base, hw := g.hw, own := fun b => match g.own b with
      | some (.slot i) => if some i = s then some (.slot 0) else none
      | some (.cell i j) => if i < c.base then some (.cell i j) else none
      | x => x }
    Good w g' c.env c.base ∧ (∀ W0 G0, G0.bs.length = c.base → Ext (· = .ext) W0 G0 w g → Ext (· = .ext) W0 G0 w g') ∧ (∀ i k y, s = some i → OwnAt w g (.slot i) k y → OwnAt w g' (.slot 0) k y) := by
  have hlen : c.base ≤ g.bs.length := by rw [G.len]; simp [Cfg.base, Cfg.mem]
  have hget : ∀ i (b : Nat), (g.bs.take c.base)[i]? = some b → i < c.base ∧ g.bs[i]? = some b := fun i b h => by
    rw [List.getElem?_take] at h
    split at h
    · exact ⟨by assumption, h⟩
    · cases h
  refine ⟨⟨by simp [Cfg.base] at hlen ⊢; omega, G.nd.sublist (List.take_sublist _ _), fun b hb => G.nohw b (List.mem_of_mem_take hb), fun i x b hx hb => ?_, G.hw, fun b L e => ?_, G.glob⟩, fun W0 G0 hW E => ?_, ?_⟩
  · obtain ⟨hi, hb'⟩ := hget i b hb
    have := G.box i x b (by rw [Cfg.mem, List.getElem?_append_left (by exact hi)]; exact hx) hb'
    have hc := hcl x (List.mem_of_getElem? hx)
    cases x with
    | cells l os =>
      obtain ⟨cs, e, h1, h2, h3⟩ := this
      refine ⟨cs, e, h1, by have := RepL.takeL l _ hc h2; rwa [Nat.add_zero] at this, fun j hj => ?_⟩
      obtain ⟨k, l', y, f1, f2, f3⟩ := h3 j hj
      exact ⟨k, l', y, f1, f2, f3.mono fun b hb => ⟨by simp [hb, hi], rfl, rfl⟩⟩
    | map l => exact this
  · cases h : g.own b with
    | none => simp [h] at e
    | some L' => exact G.own b L' h
  · refine ⟨E.size, E.tape, E.os, E.output, E.hw, fun b L e hL => ?_, fun i b h => ?_, fun b hb => E.bsnew b (List.mem_of_mem_take hb), fun b hb L e => ?_, E.old⟩
    · obtain ⟨q1, q2, q3⟩ := E.ext b L e hL
      subst hL
      exact ⟨by simp [q1], q2, q3⟩
    · have := (List.getElem?_eq_some_iff.1 h).1
      rw [List.getElem?_take, if_pos (by omega)]
      exact E.bs i b h
    · cases h : g.own b with
      | none => simp [h] at e
      | some L' =>
        obtain ⟨L'', e', he⟩ := E.orig b hb L' h
        refine ⟨L'', e', fun hk => ?_⟩
        have := he hk
        subst this hk
        simp [h] at e
        exact e.symm
  · intro i k y hs h
    obtain ⟨a, n, c, e, hn, h⟩ := h
    refine ⟨a, n, c, e, hn, h.imp id ?_⟩
    rintro ⟨b, o, h, cs, e, ea, h1, h2, h3, h4, h5⟩
    exact ⟨b, o, h, cs, e, ea, by simp [h1, hs], h2, h3, h4, h5⟩
end

/-- The frame in which a function's body begins. -/
theorem Inv.start {nt : Nat} {args : List AV} {env : List Bx} {w : World} {g : Gh} {vs : List Value} (ha : args.length ≤ nt) (G : Good w g env env.length) (hv : RepT w g.hw g.bs env.length args vs) :
    Inv nt w g ⟨frOf 0 args, [], [], env⟩ { tmps := vs.toArray ++ Array.replicate (nt - vs.toArray.size) undef, defers := [] } w g := by
  have hlen : ∀ (l : List AV) (us : List Value), RepT w g.hw g.bs env.length l us → us.length = l.length ∧ ∀ (i : Nat) (x : AV), l[i]? = some x → ∃ u, us[i]? = some u ∧ Rep1 w g.hw g.bs env.length x u := by
    intro l
    induction l with
    | nil => intro us h; simp only [RepT] at h; subst h; exact ⟨rfl, fun i x h => by simp at h⟩
    | cons x l ih =>
      intro us h
      simp only [RepT] at h
      obtain ⟨v, vs', rfl, h1, h2⟩ := h
      obtain ⟨q1, q2⟩ := ih _ h2
      refine ⟨by simp [q1], fun i y hy => ?_⟩
      cases i with
      | zero => simp at hy; subst hy; exact ⟨v, rfl, h1⟩
      | succ i => simpa using q2 i y (by simpa using hy)
  obtain ⟨hl, hget⟩ := hlen _ _ hv
  have hcl0 : ∀ x ∈ env, Bx.cl env.length 0 x := by
    intro x hx
    obtain ⟨i, hi, rfl⟩ := List.mem_iff_getElem.1 hx
    have hib : i < g.bs.length := by rw [G.len]; exact hi
    have := G.box i env[i] g.bs[i] (List.getElem?_eq_getElem hi) (List.getElem?_eq_getElem hib)
    cases hx : env[i] with
    | map l => trivial
    | cells l os =>
      rw [hx] at this
      obtain ⟨cs, e, _, h2, _⟩ := this
      have := RepL.toCl _ _ h2
      rw [G.len, Nat.sub_self] at this
      exact this
  refine ⟨?_, rfl, fun i hi => ?_, (fun i hi => by cases hi), by simpa [Cfg.mem, Cfg.base] using G, Ext.refl _ _ _, hcl0, G.len⟩
  · simp; omega
  · rw [frOf_get]
    simp only [Nat.zero_le, if_true, Nat.sub_zero]
    cases hx : args[i]? with
    | none => exact .inl rfl
    | some x =>
      obtain ⟨u, hu, hr⟩ := hget i x hx
      have hi' : i < vs.length := by rw [hl]; exact (List.getElem?_eq_some_iff.1 hx).1
      have : (vs.toArray ++ Array.replicate (nt - vs.toArray.size) undef).getD i undef = u := by
        rw [Array.getD_eq_getD_getElem?, Array.getElem?_append_left (by simpa using hi')]
        simp [hu]
      simp only [Option.getD_some]
      rw [this]
      exact rep_of hr

/-- The contract of a function out of its body's. -/
theorem XCalls.intro {P : Program} {f : FuncId} {fn : Func} {cd : Code} {args : List AV} {env : List Bx} {R : AV → Bool → List Bx → Prop} (hf : P.funcs[f]? = some fn) (hb : fn.body = some cd) (ha : args.length ≤ fn.ntmps)
    (h : XW P fn.ntmps cd (fun e c' => (e = .normal ∨ e = .ret) ∧ c'.env.length = env.length ∧ retA P fn.ntmps fn.results.toList c' (fun r ow => R r ow c'.env)) ⟨frOf 0 args, [], [], env⟩) :
    XCalls P f args env R := by
  intro w g vs G hs hv
  refine calls_of_wp hf hb (wp_mono (h.run w g _ w g (Inv.start ha G hv)) ?_)
  · rintro e a' w' ⟨c', g', ⟨he, hle, hret⟩, hi⟩
    obtain ⟨r, ow, u, hR, hpf, hrun, hrep, how⟩ := retA_run hi hret
    have hcl' := hi.ecl
    have fin : ∃ u g'' r ow env', Ending.returned u = .returned u ∧ R r ow env' ∧ env.length ≤ env'.length ∧ Good w' g'' env' env'.length ∧ Ext (· = .ext) w g w' g'' ∧ Rep w' g''.hw g''.bs env'.length r u ∧
        (ow = true → ∃ k l, r = .sl k l ∧ OwnAt w' g'' (.slot 0) k u) ∧ (results fn a'.tmps).run P w' = .ok u w' := by
      cases ow with
      | false =>
        obtain ⟨G', E', _⟩ := hi.good.out hcl' none
        exact ⟨u, _, r, false, c'.env, rfl, hR, Nat.le_of_eq hle.symm, G', E' w g (by rw [G.len, Cfg.base, hle]) hi.ext, (hrep.pf hpf).lift, by simp, hrun⟩
      | true =>
        obtain ⟨s, k, l, e1, e2⟩ := how rfl
        obtain ⟨G', E', O'⟩ := hi.good.out hcl' (some s)
        exact ⟨u, _, r, true, c'.env, rfl, hR, Nat.le_of_eq hle.symm, G', E' w g (by rw [G.len, Cfg.base, hle]) hi.ext, (hrep.pf hpf).lift, fun _ => ⟨k, l, e1, O' s k u rfl e2⟩, hrun⟩
    obtain ⟨u', g'', r', ow', env', _, q2, q3, q4, q5, q6, q7, q8⟩ := fin
    rcases he with rfl | rfl
    · exact ⟨hi.defers, u', q8, u', g'', r', ow', env', rfl, q2, q3, q4, q5, q6, q7⟩
    · exact ⟨hi.defers, u', q8, u', g'', r', ow', env', rfl, q2, q3, q4, q5, q6, q7⟩

/-- The same, of a function that hands on its boxes. -/
theorem XCalls.introB {P : Program} {f : FuncId} {fn : Func} {cd : Code} {args : List AV} {env : List Bx} {R : AV → Bool → List Bx → Prop} (hf : P.funcs[f]? = some fn) (hb : fn.body = some cd) (ha : args.length ≤ fn.ntmps)
    (h : XW P fn.ntmps cd (fun e c' => (e = .normal ∨ e = .ret) ∧ c'.env.length = env.length ∧ retB P fn.ntmps fn.results.toList c' (fun r ow => R (r.up c'.base) ow (c'.env ++ c'.own.map (Bx.up c'.base)))) ⟨frOf 0 args, [], [], env⟩) :
    XCalls P f args env R := by
  intro w g vs G hs hv
  refine calls_of_wp hf hb (wp_mono (h.run w g _ w g (Inv.start ha G hv)) ?_)
  rintro e a' w' ⟨c', g', ⟨he, hle, hret⟩, hi⟩
  obtain ⟨r, ow, u, hR, hrun, hrep, how⟩ := retB_run hi hret
  have hmem : c'.env ++ c'.own.map (Bx.up c'.base) = c'.mem.map (Bx.up c'.base) := by simp only [Cfg.mem, List.map_append, mapUp_cl hi.ecl]
  rw [hmem] at hR
  have hlen : c'.base ≤ c'.mem.length := by simp [Cfg.base, Cfg.mem]
  have hbs : g'.bs.length ≤ (c'.mem.map (Bx.up c'.base)).length := by simp [hi.good.len]
  have hle' : env.length ≤ (c'.mem.map (Bx.up c'.base)).length := by simp [Cfg.mem, hle]
  have fin : ∃ g'', Good w' g'' (c'.mem.map (Bx.up c'.base)) (c'.mem.map (Bx.up c'.base)).length ∧ Ext (· = .ext) w g w' g'' ∧ Rep w' g''.hw g''.bs (c'.mem.map (Bx.up c'.base)).length (r.up c'.base) u ∧
      (ow = true → ∃ k l, r.up c'.base = .sl k l ∧ OwnAt w' g'' (.slot 0) k u) := by
    cases ow with
    | false =>
      obtain ⟨G', E', _⟩ := hi.good.outB none
      exact ⟨_, G', E' _ _ hi.ext, hrep.up hbs (by simpa using hlen), fun h => by cases h⟩
    | true =>
      obtain ⟨s, k, l, e1, e2⟩ := how rfl
      obtain ⟨G', E', O'⟩ := hi.good.outB (some s)
      exact ⟨_, G', E' _ _ hi.ext, hrep.up hbs (by simpa using hlen), fun _ => ⟨k, l, by rw [e1]; rfl, O' s k u rfl e2⟩⟩
  obtain ⟨g'', q1, q2, q3, q4⟩ := fin
  rcases he with rfl | rfl
  · exact ⟨hi.defers, u, hrun, u, g'', _, ow, _, rfl, hR, hle', q1, q2, q3, q4⟩
  · exact ⟨hi.defers, u, hrun, u, g'', _, ow, _, rfl, hR, hle', q1, q2, q3, q4⟩
end Go.Ev
end
section
/- Written by this session: what is built out of parts, over trees. Conditions: none beyond those in each statement. -/
namespace Go.Ev
open Go

theorem fold_wr : ∀ (vs : List Value) (off j : Nat) (cs : Array Value), off + j + vs.length ≤ cs.size →
    ((vs.zipIdx j).foldl (fun (cs : Array Value) (p : Value × Nat) => cs.setIfInBounds (off + p.2) p.1) cs).toList = wrL cs.toList (off + j) vs
  | [], off, j, cs, h => by simp [wrL]
  | v :: vs, off, j, cs, h => by
    simp only [List.length_cons] at h
    simp only [List.zipIdx_cons, List.foldl_cons]
    rw [show off + j = off + j from rfl, fold_wr vs off (j + 1) (cs.setIfInBounds (off + j) v) (by simp; omega)]
    simp only [wrL, Array.toList_setIfInBounds]
    apply List.ext_getElem?
    intro i
    have hl : (cs.toList).length = cs.size := by simp
    simp only [List.append_assoc, List.cons_append]
    rcases Nat.lt_trichotomy i (off + j) with hi | hi | hi
    · rw [List.getElem?_append_left (by simp; omega), List.getElem?_append_left (by simp; omega)]
      rw [List.getElem?_take, List.getElem?_take, if_pos (by omega), if_pos hi, List.getElem?_set_ne (by omega)]
    · subst hi
      rw [List.getElem?_append_left (by simp; omega), List.getElem?_take, if_pos (by omega), List.getElem?_set_self (by omega)]
      rw [List.getElem?_append_right (by simp; omega)]
      simp [show min (off + j) cs.size = off + j from by omega]
    · have h1 : (List.take (off + (j + 1)) (cs.toList.set (off + j) v)).length = off + (j + 1) := by simp; omega
      have h2 : (List.take (off + j) cs.toList).length = off + j := by simp; omega
      rw [List.getElem?_append_right (l₁ := List.take (off + (j + 1)) (cs.toList.set (off + j) v)) (by rw [h1]; omega), h1, List.getElem?_append_right (l₁ := List.take (off + j) cs.toList) (by rw [h2]; omega), h2]
      obtain ⟨q, rfl⟩ : ∃ q, i = off + j + 1 + q := ⟨i - (off + j + 1), by omega⟩
      rw [show off + j + 1 + q - (off + (j + 1)) = q from by omega, show off + j + 1 + q - (off + j) = q + 1 from by omega, List.getElem?_cons_succ]
      rcases Nat.lt_or_ge q vs.length with hq | hq
      · rw [List.getElem?_append_left hq, List.getElem?_append_left hq]
      · rw [List.getElem?_append_right hq, List.getElem?_append_right hq, List.getElem?_drop, List.getElem?_drop, List.getElem?_set_ne (by simp; omega)]
        congr 1
        simp only [List.length_cons]
        omega

theorem fill_one {place : Nat → Option (Nat × Nat)} {cells : Array Value} {i off size : Nat} {v : Value} {rest : List (Nat × Value)} (hp : place i = some (off, size)) (hs : v.cells.size = size) (hf : off + v.cells.size ≤ cells.size) :
    ∃ cells' : Array Value, cells'.toList = wrL cells.toList off v.cells.toList ∧ Instr.fill place cells ((i, v) :: rest) = Instr.fill place cells' rest := by
  refine ⟨(v.cells.zipIdx.foldl (fun cs (c, j) => cs.setIfInBounds (off + j) c) cells), ?_, ?_⟩
  · rw [← Array.foldl_toList]
    have := fold_wr v.cells.toList off 0 cells (by simpa using hf)
    simp only [Nat.add_zero] at this
    rw [← this]
    simp [Array.toList_zipIdx]
  · simp only [Instr.fill, hp]
    rw [if_neg]
    simp; omega

/-- Parts laid one behind the other. -/
theorem fill_row {k : Nat} (hk : 0 < k) : ∀ (vs : List Value) (i : Nat) (cells : Array Value) (pre : List Value), (∀ v ∈ vs, v.cells.size = k) → cells.toList.take (i * k) = pre → cells.size = (i + vs.length) * k →
    ∃ cells' : Array Value, Instr.fill (fun i => some (i * k, k)) cells ((vs.zipIdx i).map fun (v, j) => (j, v)) = some cells' ∧ cells'.toList = pre ++ vs.flatMap fun v => v.cells.toList
  | [], i, cells, pre, _, hpre, hsz => ⟨cells, by simp [Instr.fill], by
      simp only [List.length_nil, Nat.add_zero] at hsz
      rw [← hpre, List.take_of_length_le (by simp; omega)]; simp⟩
  | v :: vs, i, cells, pre, hv, hpre, hsz => by
    have hv0 := hv v (by simp)
    have hmul : (i + (vs.length + 1)) * k = i * k + k + vs.length * k := by rw [Nat.add_mul, Nat.add_mul]; omega
    simp only [List.length_cons] at hsz
    rw [hmul] at hsz
    obtain ⟨c1, h1, h2⟩ := fill_one (place := fun i => some (i * k, k)) (cells := cells) (i := i) (rest := (vs.zipIdx (i + 1)).map fun (v, j) => (j, v)) rfl hv0 (by omega)
    have hvl : v.cells.toList.length = k := by simpa using hv0
    have htl : (cells.toList.take (i * k)).length = i * k := by simp; omega
    obtain ⟨c2, h3, h4⟩ := fill_row hk vs (i + 1) c1 (pre ++ v.cells.toList) (fun x hx => hv x (by simp [hx])) (by
      rw [h1, ← hpre]
      simp only [wrL]
      rw [List.take_append_of_le_length (by rw [List.length_append, htl, hvl, Nat.succ_mul]; omega)]
      rw [List.take_of_length_le (by rw [List.length_append, htl, hvl, Nat.succ_mul]; omega)]) (by
      have : c1.size = cells.size := by
        have := congrArg List.length h1
        simp only [wrL, List.length_append, htl, hvl, List.length_drop, Array.length_toList] at this
        omega
      rw [this, hsz, show i + 1 + vs.length = i + (vs.length + 1) from by omega, hmul])
    refine ⟨c2, ?_, ?_⟩
    · simp only [List.zipIdx_cons, List.map_cons]
      rw [h2]; exact h3
    · rw [h4]; simp
end Go.Ev
end
section
/- Written by this session: the steps of a region, over trees. Conditions: none beyond those in each statement. -/
namespace Go.Ev
open Go

def dstOk (n : Nat) : Option Tmp → Bool
  | some d => Nat.blt d n
  | none => true

def XStep (P : Program) (n : Nat) (o : Oper) (c : Cfg) (K : Cfg → Prop) : Prop :=
  ∀ W0 G0 a w g, Inv n W0 G0 c a w g → ∀ (next : Act → World → Prop) (Q : Exit → Act → World → Prop), (∀ c' a' w' g', K c' → Inv n W0 G0 c' a' w' g' → next a' w') → o.wp P a w next Q

def opsOk (n : Nat) (o : Oper) : Bool := o.op.operands.toList.all (okTmp n) && dstOk n o.dst

theorem opsOk_dst {n : Nat} {o : Oper} (h : opsOk n o = true) : ∀ x, o.dst = some x → x < n := fun x e => by
  simp only [opsOk, Bool.and_eq_true, e, dstOk] at h
  rw [← Nat.blt_eq]; exact h.2
theorem opsOk_mem {n : Nat} {o : Oper} (h : opsOk n o = true) {x : Operand} (hx : x ∈ o.op.operands) : okTmp n x = true := by
  simp only [opsOk, Bool.and_eq_true, List.all_eq_true] at h
  exact h.1 x (by simpa using hx)

section
variable {P : Program} {n : Nat} {o : Oper} {c : Cfg} {K : Cfg → Prop}

theorem XStep.pure (ho : opsOk n o = true) (h : pureA P c.env c.own (evA c) o fun v => K (c.put o.dst v)) : XStep P n o c K := by
  intro W0 G0 a w g hi next Q hn
  obtain ⟨v, hk, hv⟩ := pureA_sound h
  obtain ⟨u, hu, hr⟩ := hv a.eval w g hi.good fun x hx => hi.eval (opsOk_mem ho hx)
  unfold Oper.wp
  rw [hu]
  exact hn _ _ _ g hk (hi.putO (opsOk_dst ho) hr)

/-- An assignment that hands on the right to append. -/
theorem XStep.give {s d : Nat} {type : TypeId} {pos : String} {after : Array Edge} {guard : Option (Nat × Bool)} {op : Op} (hop : op = .assign (.tmp s) ∨ op = .move (.tmp s)) (hs : s ∈ c.os) (hsn : s < n) (hd : d < n) (h : K (c.give s d)) :
    XStep P n ⟨some d, op, type, pos, after, guard⟩ c K := by
  intro W0 G0 a w g hi next Q hn
  have hrun : (execOp a.eval ⟨some d, op, type, pos, after, guard⟩).run P w = .ok (.value (a.tmps.getD s undef)) w := by
    rcases hop with rfl | rfl <;> simp [execOp, Act.eval]
  unfold Oper.wp
  rw [hrun]
  obtain ⟨g', hi'⟩ := hi.give hs hd hsn
  exact hn _ _ _ g' h hi'

def leavesOk (x : AV) : Bool := x.isAgg || x.isLeaf
theorem leavesOk_or {x : AV} (h : leavesOk x = true) : x.isAgg = true ∨ x.isLeaf = true := by simpa [leavesOk] using h

theorem XStep.box {e : TypeId} {x : Operand} {d : Nat} {type : TypeId} {pos : String} {after : Array Edge} {guard : Option (Nat × Bool)} (ho : opsOk n ⟨some d, .box e x, type, pos, after, guard⟩ = true) (hx : leavesOk (evA c x) = true)
    (h : K (({ c with own := c.own ++ [.cells (evA c x).leaves []] } : Cfg).put (some d) (.bp c.own.length 0))) : XStep P n ⟨some d, .box e x, type, pos, after, guard⟩ c K := by
  intro W0 G0 a w g hi next Q hn
  obtain ⟨hc, _⟩ := rep_cells (leavesOk_or hx) (hi.eval (opsOk_mem ho (by simp [Op.operands] : x ∈ _)))
  obtain ⟨g', hi', hb⟩ := hi.newBox (e := e) hc
  unfold Oper.wp
  have hrun : (execOp a.eval ⟨some d, .box e x, type, pos, after, guard⟩).run P w = .ok (.value (.pointer (some ⟨w.heap.size, 0, none⟩))) (push w (.cells (a.eval x).cells e)) := by
    simp [execOp, Instr.box, newVar, newRow, push]
  rw [hrun]
  exact hn _ _ _ g' h (hi'.put (opsOk_dst ho d rfl) (rep_bp_mk hb))

theorem XStep.alloc {e : TypeId} {d : Nat} {i : TypeInfo} {z : Value} {type : TypeId} {pos : String} {after : Array Edge} {guard : Option (Nat × Bool)} (hd : d < n) (hi0 : P.info? e = some i) (hz : i.zero = some z) (hok : okTmp n (.const z) = true) (hx : leavesOk (cst z) = true)
    (h : K (({ c with own := c.own ++ [.cells (cst z).leaves []] } : Cfg).put (some d) (.bp c.own.length 0))) : XStep P n ⟨some d, .alloc e, type, pos, after, guard⟩ c K := by
  intro W0 G0 a w g hi next Q hn
  obtain ⟨hc, _⟩ := rep_cells (leavesOk_or hx) (cst_rep (hw := g.hw) (bs := g.bs) (base := c.base) (w := w) z hok)
  obtain ⟨g', hi', hb⟩ := hi.newBox (e := e) hc
  unfold Oper.wp
  have hrun : (execOp a.eval ⟨some d, .alloc e, type, pos, after, guard⟩).run P w = .ok (.value (.pointer (some ⟨w.heap.size, 0, none⟩))) (push w (.cells z.cells e)) := by
    simp [execOp, Instr.alloc, zeroValue, typeInfo, hi0, hz, newVar, newRow, push]
  rw [hrun]
  exact hn _ _ _ g' h (hi'.put hd (rep_bp_mk hb))

theorem XStep.store {t : TypeId} {p x : Operand} {i off : Nat} {l : List AV} {os : List Nat} {dst : Option Tmp} {type : TypeId} {pos : String} {after : Array Edge} {guard : Option (Nat × Bool)} (ho : opsOk n ⟨dst, .store t p x, type, pos, after, guard⟩ = true)
    (hp : evA c p = .bp i off) (hbox : c.own[i]? = some (.cells l os)) (ht : (P.underlying t).isSome = true) (hx : leavesOk (evA c x) = true) (hsz : (evA c x).leaves.length = P.cellsOf t) (hfit : off + (evA c x).leaves.length ≤ l.length)
    (h : K (({ c with own := c.own.set i (.cells (wrL l off (evA c x).leaves) (os.filter fun j => decide (j < off ∨ off + (evA c x).leaves.length ≤ j))) } : Cfg).put dst (.v undef))) : XStep P n ⟨dst, .store t p x, type, pos, after, guard⟩ c K := by
  intro W0 G0 a w g hi next Q hn
  have hm1 : p ∈ (Op.store t p x).operands := by simp [Op.operands]
  have hm2 : x ∈ (Op.store t p x).operands := by simp [Op.operands]
  obtain ⟨b, hb, ep⟩ := rep_bp (hp ▸ hi.eval (opsOk_mem ho hm1))
  obtain ⟨w', hrun, hi', _⟩ := hi.store ht (leavesOk_or hx) hb hbox (hi.eval (opsOk_mem ho hm2)) hsz hfit
  unfold Oper.wp
  have hrun' : (execOp a.eval ⟨dst, .store t p x, type, pos, after, guard⟩).run P w = .ok .skip w' := by
    simp [execOp, Instr.storeAt, ep, Instr.sureAddr, hrun]
  rw [hrun']
  exact hn _ _ _ g h (hi'.putO (opsOk_dst ho) (rep_v_mk rfl))

/-- A store that hands on the right to append. -/
theorem XStep.storeOwn {t : TypeId} {p : Operand} {s i off k : Nat} {l l' : List AV} {os : List Nat} {dst : Option Tmp} {type : TypeId} {pos : String} {after : Array Edge} {guard : Option (Nat × Bool)} (ho : opsOk n ⟨dst, .store t p (.tmp s), type, pos, after, guard⟩ = true)
    (hp : evA c p = .bp i off) (hbox : c.own[i]? = some (.cells l os)) (ht : (P.underlying t).isSome = true) (hs : s ∈ c.os) (hx : Fr.get c.fr s = .sl k l') (hsz : 1 = P.cellsOf t) (hfit : off + 1 ≤ l.length)
    (h : K (({ c with os := c.os.filter (fun i => !Nat.beq i s), own := c.own.set i (.cells (wrL l off [.sl k l']) (off :: os.filter fun j => decide (j < off ∨ off + 1 ≤ j))) } : Cfg).put dst (.v undef))) : XStep P n ⟨dst, .store t p (.tmp s), type, pos, after, guard⟩ c K := by
  intro W0 G0 a w g hi next Q hn
  have hm1 : p ∈ (Op.store t p (.tmp s)).operands := by simp [Op.operands]
  have hm2 : (Operand.tmp s) ∈ (Op.store t p (.tmp s)).operands := by simp [Op.operands]
  have hev : evA c (.tmp s) = .sl k l' := hx
  obtain ⟨b, hb, ep⟩ := rep_bp (hp ▸ hi.eval (opsOk_mem ho hm1))
  obtain ⟨G', E', O1, O2⟩ := hi.good.relabel (s := s) (d := .cell (c.base + i) off)
  have hi1 : Inv n W0 G0 { c with os := c.os.filter (fun i => !Nat.beq i s) } a w { g with own := fun b => (g.own b).map (moved (.slot s) (.cell (c.base + i) off)) } :=
    ⟨hi.size, hi.defers, hi.fr, fun j hj => by
      have hj' := List.mem_filter.1 hj
      have hne : j ≠ s := by rintro rfl; simp at hj'
      obtain ⟨k, l, h1, h2⟩ := hi.os j hj'.1
      exact ⟨k, l, h1, O1 _ k _ (by simp [hne]) h2⟩, G', E' _ _ hi.ext, hi.ecl, hi.b0⟩
  obtain ⟨k', l'', e1, e2⟩ := hi.os s hs
  rw [hx] at e1
  cases e1
  have hrs := hi.eval (opsOk_mem ho hm2)
  rw [hev] at hrs
  obtain ⟨w', hrun, _, hi'⟩ := hi1.store (x := .sl k l') (y := a.eval (.tmp s)) ht (.inr rfl) hb hbox hrs hsz hfit
  unfold Oper.wp
  have hrun' : (execOp a.eval ⟨dst, .store t p (.tmp s), type, pos, after, guard⟩).run P w = .ok .skip w' := by
    simp [execOp, Instr.storeAt, ep, Instr.sureAddr, hrun]
  rw [hrun']
  exact hn _ _ _ _ h ((hi' k (O2 k _ e2) ⟨l', rfl⟩).putO (opsOk_dst ho) (rep_v_mk rfl))

def Cfg.putOwn (c : Cfg) (d : Nat) (v : AV) : Cfg := { c with fr := (d, v) :: c.fr, os := d :: c.os.filter fun i => !Nat.beq i d }
theorem Inv.putOwn {W0 : World} {G0 : Gh} {a : Act} {w : World} {g : Gh} (hi : Inv n W0 G0 c a w g) {d : Nat} (hd : d < n) {k : Nat} {l : List AV} {u : Value} (hr : Rep w g.hw g.bs c.base (.sl k l) u) (ho : OwnAt w g (.slot d) k u) :
    Inv n W0 G0 (c.putOwn d (.sl k l)) (a.put (some d) u) w g := by
  have h1 := hi.put hd hr
  refine ⟨h1.size, h1.defers, h1.fr, fun i hm => ?_, h1.good, h1.ext, h1.ecl, h1.b0⟩
  rcases List.mem_cons.1 hm with rfl | hm
  · refine ⟨k, l, by simp [Cfg.putOwn, Fr.get_cons], ?_⟩
    rw [getD_put (by rw [hi.size]; exact hd), if_pos rfl]
    exact ho
  · exact h1.os i hm

/-- A slice that may be nil. -/
def asSl (k : Nat) : AV → Option (List AV)
  | .sl k' l => bif Nat.beq k k' then some l else none
  | .v (.slice none 0 0) => some []
  | _ => none
theorem asSl_rep {w : World} {hw : Hw} {bs : List Nat} {base k : Nat} {x : AV} {l : List AV} {y : Value} (hk : 0 < k) (h : asSl k x = some l) (hr : Rep w hw bs base x y) : Rep w hw bs base (.sl k l) y := by
  unfold asSl at h
  split at h
  · rename_i k' l'
    cases hb : Nat.beq k k' with
    | false => rw [hb] at h; cases h
    | true =>
      have := Nat.eq_of_beq_eq_true hb
      subst this
      simp at h
      subst h
      exact hr
  · simp at h; subst h
    obtain ⟨rfl, _⟩ := rep_v hr
    exact rep_sl_mk rfl (Nat.le_refl _) ⟨hk, by simp⟩ (.inl rfl)
  · cases h

theorem XStep.append {t t' e e' : TypeId} {i : TypeInfo} {z : Value} {x0 x1 : Operand} {d k : Nat} {l0 l1 : List AV} {type : TypeId} {pos : String} {after : Array Edge} {guard : Option (Nat × Bool)}
    (ho : opsOk n ⟨some d, .call ⟨.builtin .append, #[x0, x1], #[t, t']⟩, type, pos, after, guard⟩ = true)
    (ht : P.underlying t = some (.slice e)) (ht' : P.underlying t' = some (.slice e')) (hin : P.info? e = some i) (hz : i.zero = some z) (hk : i.size = k) (hk0 : 0 < k) (hzk : z.cells.size = k)
    (h0 : asSl k (evA c x0) = some l0) (h1 : asSl k (evA c x1) = some l1) (s : Nat) (hown : (x0 = .tmp s ∧ s ∈ c.os) ∨ evA c x0 = .v (.slice none 0 0))
    (hb : (l0.length + l1.length) * i.bytes ≤ 140737488355328) (h63 : l0.length + l1.length ≤ 140737488355328)
    (h : K (({ c with os := c.os.filter fun i => !Nat.beq i s } : Cfg).putOwn d (.sl k (l0 ++ l1)))) :
    XStep P n ⟨some d, .call ⟨.builtin .append, #[x0, x1], #[t, t']⟩, type, pos, after, guard⟩ c K := by
  intro W0 G0 a w g hi next Q hn
  have hm0 : x0 ∈ (Op.call ⟨.builtin .append, #[x0, x1], #[t, t']⟩).operands := by simp [Op.operands, Call.operands]
  have hm1 : x1 ∈ (Op.call ⟨.builtin .append, #[x0, x1], #[t, t']⟩).operands := by simp [Op.operands, Call.operands]
  have hr0 := hi.eval (opsOk_mem ho hm0)
  have hr1 := asSl_rep hk0 h1 (hi.eval (opsOk_mem ho hm1))
  have hO : OwnAt w g (.slot s) k (a.eval x0) := by
    rcases hown with ⟨rfl, hs⟩ | hnil
    · obtain ⟨k', l', e1, e2⟩ := hi.os s hs
      have : evA c (.tmp s) = .sl k' l' := e1
      rw [this] at h0
      simp only [asSl] at h0
      cases hb : Nat.beq k k' with
      | false => simp [hb] at h0
      | true =>
        have := Nat.eq_of_beq_eq_true hb
        subst this
        exact e2
    · rw [hnil] at hr0
      obtain ⟨e, _⟩ := rep_v hr0
      rw [e]
      exact ⟨_, _, _, rfl, Nat.le_refl _, .inl rfl⟩
  obtain ⟨v', w', g', hrun, hi', hR, hO'⟩ := hi.append (ty := type) (d := d) ht ht' hin hz hk hzk (asSl_rep hk0 h0 hr0) hO hr1 hb h63
  unfold Oper.wp
  have hrun' : (execOp a.eval ⟨some d, .call ⟨.builtin .append, #[x0, x1], #[t, t']⟩, type, pos, after, guard⟩).run P w = .ok (.value v') w' := by
    simp [execOp, resolve, invoke, builtin, hrun]
  rw [hrun']
  exact hn _ _ _ g' h (hi'.putOwn (opsOk_dst ho d rfl) hR hO')
end
end Go.Ev
end
