/- Written by programs of this session: laws and contracts that the law's proof stands on, merged into one text. Conditions: none beyond those in each statement. -/
import Derived.Test.YtepdiooaoegpfaaGreatDoorPkEv22
import Derived.ChangeArms
import Derived.SizedLaws
import Derived.WideShapes
section
/- Written by this session: what is read of an argument is a tree. Conditions: none beyond those in each statement. -/
namespace Go.Ev
open Go

/-- Fields that lie one behind the other from an offset on, to an end. -/
def tiles (P : Program) (off : Nat) : List Field → Option Nat
  | [] => some off
  | f :: fs => bif Nat.beq f.offset off then tiles P (off + P.cellsOf f.type) fs else none

/-- A type of numbers, texts, truth, and slices and structs of these. -/
def plainT (P : Program) : Nat → TypeId → Bool
  | 0, _ => false
  | d + 1, t => match P.underlying t with
    | some .bool | some (.int _) | some .string => Nat.beq (P.cellsOf t) 1
    | some (.slice e) => plainT P d e && Nat.blt 0 (P.cellsOf e) && Nat.beq (P.cellsOf t) 1 && Nat.blt 0 (P.bytesOf e)
    | some (.struct fs) => (match tiles P 0 fs.toList with
      | some n => Nat.beq n (P.cellsOf t)
      | none => false) && fs.toList.all fun f => plainT P d f.type
    | _ => false

def Shape (R : Nat) (P : Program) : Nat → TypeId → List AV → Prop
  | 0, _, _ => False
  | d + 1, t, ls => match P.underlying t with
    | some .bool => ∃ b, ls = [.v (.bool b)]
    | some (.int k) => ∃ n, ls = [.v (.int k n)] ∧ (Lit.int k n).wf = true
    | some .string => ∃ s : ByteArray, ls = [.v (.string s)] ∧ s.size ≤ R
    | some (.slice e) => ∃ l : List AV, ls = [.sl (P.cellsOf e) l] ∧ l.length ≤ R ∧ ∀ x ∈ l, x.isAgg = isAggT P e ∧ x.isTup = false ∧ Shape R P d e x.leaves
    | some (.struct fs) => ls.length = P.cellsOf t ∧ ∀ f ∈ fs.toList, Shape R P d f.type ((ls.drop f.offset).take (P.cellsOf f.type))
    | _ => False

theorem cellsOf_len {R : Nat} {P : Program} {d : Nat} {t : TypeId} {ls : List AV} (hp : plainT P d t = true) (h : Shape R P d t ls) : ls.length = P.cellsOf t := by
  cases d with
  | zero => exact h.elim
  | succ d =>
    unfold plainT at hp
    unfold Shape at h
    split at h
    · rename_i hu; rw [hu] at hp; obtain ⟨b, rfl⟩ := h; exact (Nat.eq_of_beq_eq_true hp).symm
    · rename_i hu; rw [hu] at hp; obtain ⟨n, rfl, _⟩ := h; exact (Nat.eq_of_beq_eq_true hp).symm
    · rename_i hu; rw [hu] at hp; obtain ⟨s, rfl, _⟩ := h; exact (Nat.eq_of_beq_eq_true hp).symm
    · rename_i hu
      rw [hu] at hp
      obtain ⟨l, rfl, _⟩ := h
      simp only [Bool.and_eq_true] at hp
      exact (Nat.eq_of_beq_eq_true hp.1.2).symm
    · exact h.1
    · exact h.elim

section
variable {R : Nat} {H : Type} {enc : TypeId × Value → H} {P : Program} {w : World}

theorem trod_fields {d : Nat} {cs : List Value} (ih : ∀ (t : TypeId) (cs : List Value), plainT P d t = true → (∃ n y, DataW.trod enc P w 0 (fun _ => true) true n t cs = some y ∧ (DataW.weights P t y.1).all (· ≤ R) = true) → ∃ ls, RepL w (blockHw w) [] 0 ls cs ∧ Shape R P d t ls) :
    ∀ (fs : List Field) (off m : Nat), tiles P off fs = some m → m = cs.length → off ≤ cs.length → (fs.all fun f => plainT P d f.type) = true →
      (∀ f ∈ fs, ∃ n y, DataW.trod enc P w 0 (fun _ => true) true n f.type ((cs.drop f.offset).take (P.cellsOf f.type)) = some y ∧ (DataW.weights P f.type y.1).all (· ≤ R) = true) →
      ∃ ls, RepL w (blockHw w) [] 0 ls (cs.drop off) ∧ ∀ f ∈ fs, off ≤ f.offset ∧ Shape R P d f.type ((ls.drop (f.offset - off)).take (P.cellsOf f.type))
  | [], off, m, ht, hm, _, _, _ => by
    simp only [tiles, Option.some.injEq] at ht
    subst ht hm
    exact ⟨[], by simp [RepL], by simp⟩
  | f :: fs, off, m, ht, hm, hoff, hp, hf => by
    simp only [tiles] at ht
    cases hb : Nat.beq f.offset off with
    | false => rw [hb] at ht; cases ht
    | true =>
      rw [hb] at ht
      simp only [cond_true] at ht
      have e := Nat.eq_of_beq_eq_true hb
      simp only [List.all_cons, Bool.and_eq_true] at hp
      obtain ⟨l1, r1, s1⟩ := ih f.type _ hp.1 (hf f (by simp))
      have hl1 := cellsOf_len hp.1 s1
      have hr1 := RepL.length r1
      rw [hl1, List.length_take, List.length_drop, e] at hr1
      obtain ⟨l2, r2, s2⟩ := trod_fields ih fs (off + P.cellsOf f.type) m ht hm (by omega) hp.2 fun g hg => hf g (by simp [hg])
      refine ⟨l1 ++ l2, ?_, fun g hg => ?_⟩
      · have := r1.append r2
        rw [e] at this
        rwa [show cs.drop (off + P.cellsOf f.type) = (cs.drop off).drop (P.cellsOf f.type) from by rw [List.drop_drop], List.take_append_drop] at this
      · rcases List.mem_cons.1 hg with rfl | hg
        · refine ⟨by omega, ?_⟩
          rw [e, Nat.sub_self, List.drop_zero, ← hl1, List.take_left' rfl]
          exact s1
        · obtain ⟨q1, q2⟩ := s2 g hg
          refine ⟨by omega, ?_⟩
          rw [show g.offset - off = l1.length + (g.offset - (off + P.cellsOf f.type)) from by omega, List.drop_append, List.drop_of_length_le (by omega), List.nil_append]
          rw [show l1.length + (g.offset - (off + P.cellsOf f.type)) - l1.length = g.offset - (off + P.cellsOf f.type) from by omega]
          exact q2

theorem add_add2 (a : Addr) (x y : Nat) : (a.add x).add y = a.add (x + y) := by
  unfold Addr.add
  by_cases hx : x = 0
  · subst hx; simp
  · by_cases hy : y = 0
    · subst hy; simp
    · rw [if_neg hy, if_neg hx, if_neg (by omega)]; simp [Nat.add_assoc]
theorem RepE.append {hw : Hw} {k : Nat} : ∀ (l0 l1 : List AV) (o1 o2 : List Value), RepE w hw k l0 o1 → RepE w hw k l1 o2 → RepE w hw k (l0 ++ l1) (o1 ++ o2)
  | [], l1, o1, o2, h1, h2 => by simp only [RepE] at h1; subst h1; simpa using h2
  | x :: l0, l1, o1, o2, h1, h2 => by
    simp only [RepE] at h1
    obtain ⟨q1, q2, q3⟩ := h1
    simp only [List.cons_append, RepE]
    refine ⟨by simp; omega, ?_, ?_⟩
    · rw [List.take_append_of_le_length q1]; exact q2
    · rw [List.drop_append_of_le_length q1]; exact RepE.append l0 l1 _ _ q3 h2

/-- One element, as a tree. -/
theorem Shape.elem {d : Nat} {t : TypeId} {ls : List AV} {cs : List Value} (h : Shape R P d t ls) (hr : RepL w (blockHw w) [] 0 ls cs) :
    ∃ x : AV, x.leaves = ls ∧ x.isAgg = isAggT P t ∧ x.isTup = false ∧ RepV w (blockHw w) [] 0 x cs ∧ (x.isAgg = false → ∀ v ∈ cs, v.oneCell' = true) := by
  cases d with
  | zero => exact h.elim
  | succ d =>
    unfold Shape at h
    have one : ∀ x : AV, ls = [x] → x.isAgg = false → x.isTup = false → isAggT P t = false → x.leaves = [x] → ∃ x : AV, x.leaves = ls ∧ x.isAgg = isAggT P t ∧ x.isTup = false ∧ RepV w (blockHw w) [] 0 x cs ∧ (x.isAgg = false → ∀ v ∈ cs, v.oneCell' = true) := by
      intro x e h1 h2 h3 h4
      subst e
      refine ⟨x, h4, by rw [h1, h3], h2, ?_, fun _ => RepL.one hr⟩
      simp only [RepL] at hr
      obtain ⟨v, vs', rfl, ⟨q, _⟩, rfl⟩ := hr
      exact q
    split at h
    · rename_i hu; obtain ⟨b, rfl⟩ := h; exact one _ rfl rfl rfl (by simp [isAggT, hu]) rfl
    · rename_i hu; obtain ⟨n, rfl, _⟩ := h; exact one _ rfl rfl rfl (by simp [isAggT, hu]) rfl
    · rename_i hu; obtain ⟨s, rfl, _⟩ := h; exact one _ rfl rfl rfl (by simp [isAggT, hu]) rfl
    · rename_i hu; obtain ⟨l, rfl, _⟩ := h; exact one _ rfl rfl rfl (by simp [isAggT, hu]) rfl
    · rename_i hu
      exact ⟨.agg ls, rfl, by simp [isAggT, hu, AV.isAgg], rfl, by simp only [RepV]; exact hr, fun h => by cases h⟩
    · exact h.elim

theorem weightsAll_mem {e : TypeId} : ∀ {ds : List (DataW H)}, ((DataW.weightsAll P e ds).all (· ≤ R)) = true → ∀ x ∈ ds, ((DataW.weights P e x).all (· ≤ R)) = true
  | [], _, x, hx => by cases hx
  | d :: r, h, x, hx => by
    simp only [DataW.weightsAll, List.all_append, Bool.and_eq_true] at h
    rcases List.mem_cons.1 hx with rfl | hx
    · exact h.1
    · exact weightsAll_mem h.2 x hx

theorem weightsEach_get : ∀ {ts : List TypeId} {ds : List (DataW H)}, ((DataW.weightsEach P ts ds).all (· ≤ R)) = true → ∀ (i : Nat) (t : TypeId) (x : DataW H), ts[i]? = some t → ds[i]? = some x → ((DataW.weights P t x).all (· ≤ R)) = true
  | [], _, _, i, t, x, ht, _ => by simp at ht
  | _ :: _, [], _, i, t, x, _, hx => by simp at hx
  | t0 :: ts, d :: r, h, i, t, x, ht, hx => by
    simp only [DataW.weightsEach, List.all_append, Bool.and_eq_true] at h
    cases i with
    | zero => simp at ht hx; subst ht hx; exact h.1
    | succ i => exact weightsEach_get h.2 i t x (by simpa using ht) (by simpa using hx)

/-- What is read of cells is a tree of its type's shape. -/
theorem trod_av (hR : R ≤ 140737488351232) : ∀ (d : Nat) (t : TypeId) (cs : List Value), plainT P d t = true → (∃ n y, DataW.trod enc P w 0 (fun _ => true) true n t cs = some y ∧ (DataW.weights P t y.1).all (· ≤ R) = true) →
    ∃ ls, RepL w (blockHw w) [] 0 ls cs ∧ Shape R P d t ls
  | 0, _, _, hp, _ => by cases hp
  | d + 1, t, cs, hp, ⟨n, y, hy, hwt⟩ => by
    have one : ∀ (x : AV) (v : Value), cs = [v] → RepV w (blockHw w) [] 0 x [v] → x.isAgg = false → v.oneCell' = true → RepL w (blockHw w) [] 0 [x] cs := by
      intro x v e h1 h2 h3
      subst e
      simp only [RepL]
      exact ⟨v, [], rfl, ⟨h1, h2, h3⟩, rfl⟩
    unfold plainT at hp
    split at hp
    · rename_i hu
      obtain ⟨b, rfl, rfl⟩ := DataW.trod_bool hu hy
      exact ⟨[.v (.bool b)], one _ _ rfl (by simp only [RepV]) rfl rfl, by unfold Shape; rw [hu]; exact ⟨b, rfl⟩⟩
    · rename_i k hu
      obtain ⟨m, rfl, rfl, hwf⟩ := DataW.trod_int hu hy
      exact ⟨[.v (.int k m)], one _ _ rfl (by simp only [RepV]) rfl rfl, by unfold Shape; rw [hu]; exact ⟨m, rfl, hwf⟩⟩
    · rename_i hu
      obtain ⟨s, rfl, rfl, _⟩ := DataW.trod_string hu hy
      refine ⟨[.v (.string s)], one _ _ rfl (by simp only [RepV]) rfl rfl, ?_⟩
      unfold Shape
      rw [hu]
      simp only [DataW.weights, List.all_cons, List.all_nil, Bool.and_true, decide_eq_true_eq] at hwt
      exact ⟨s, rfl, by simpa using hwt⟩
    · rename_i e hu
      simp only [Bool.and_eq_true] at hp
      obtain ⟨⟨⟨hpe, hk⟩, h1⟩, hbe⟩ := hp
      have hk0 : 0 < P.cellsOf e := by rw [← Nat.blt_eq]; exact hk
      have hb0 : 0 < P.bytesOf e := by rw [← Nat.blt_eq]; exact hbe
      rcases DataW.trod_slice hu hy with ⟨rfl, rfl⟩ | ⟨a, len, cap, elems, rest, n', rfl, rfl, rfl, _, hlc, _, hel, hget, _⟩
      · refine ⟨[.sl (P.cellsOf e) []], one _ _ rfl ?_ rfl rfl, ?_⟩
        · simp only [RepV]; exact ⟨none, 0, rfl, Nat.le_refl _, ⟨hk0, by simp⟩, .inl trivial⟩
        · unfold Shape; rw [hu]; exact ⟨[], rfl, Nat.zero_le _, by simp⟩
      · simp only [DataW.weights, hu, List.all_cons, List.all_append, Bool.and_eq_true, List.length_map] at hwt
        have hwl := of_decide_eq_true hwt.1
        have hwe := weightsAll_mem hwt.2.1
        have build : ∀ m, m ≤ len → ∃ l cs', l.length = m ∧ RepE w (blockHw w) (P.cellsOf e) l cs' ∧ (∀ j v, cs'[j]? = some v → w.cell? (a.add j) = some v) ∧ ∀ x ∈ l, x.isAgg = isAggT P e ∧ x.isTup = false ∧ Shape R P d e x.leaves := by
          intro m
          induction m with
          | zero => intro _; exact ⟨[], [], rfl, by simp [RepE], by simp, by simp⟩
          | succ m ih =>
            intro hm
            obtain ⟨l, cs', q1, q2, q3, q4⟩ := ih (by omega)
            have hg := hget m (by omega)
            have hme : m < elems.length := by omega
            rw [List.getElem?_eq_getElem hme] at hg
            obtain ⟨cm, hc, ht⟩ := Option.bind_eq_some_iff.1 hg
            obtain ⟨ls, r1, r2⟩ := trod_av hR d e cm hpe ⟨_, _, ht, hwe _ (List.mem_map.2 ⟨elems[m], List.getElem_mem hme, rfl⟩)⟩
            obtain ⟨x, x1, x2, x3, x4, x5⟩ := r2.elem r1
            obtain ⟨_, c1, c2⟩ := World.cells?_some hc
            have hl := RepE.len q2
            refine ⟨l ++ [x], cs' ++ cm, by simp [q1], RepE.append _ _ _ _ q2 (by simp only [RepE]; exact ⟨by omega, ⟨by rw [List.take_of_length_le (by omega)]; exact x4, by rw [List.take_of_length_le (by omega)]; exact x5⟩, by rw [List.drop_of_length_le (by omega)]⟩), fun j v hj => ?_, fun z hz => ?_⟩
            · rcases Nat.lt_or_ge j cs'.length with h | h
              · rw [List.getElem?_append_left h] at hj; exact q3 j v hj
              · rw [List.getElem?_append_right h] at hj
                have hjl : j - cs'.length < P.cellsOf e := by
                  have := (List.getElem?_eq_some_iff.1 hj).1; omega
                have := c2 (j - cs'.length) hjl
                rw [hj] at this
                rw [q1] at hl
                have hadd : (a.add (m * P.cellsOf e)).add (j - cs'.length) = a.add j := by
                  rw [add_add2]; congr 1; omega
                rw [← hadd]
                exact this
            · rcases List.mem_append.1 hz with hz | hz
              · exact q4 z hz
              · simp at hz; subst hz; exact ⟨x2, x3, by rw [x1]; exact r2⟩
        obtain ⟨l, cs', q1, q2, q3, q4⟩ := build len (Nat.le_refl _)
        have hll : len ≤ R := by
          have : elems.length * 1 ≤ (elems.length + rest.length) * P.bytesOf e := Nat.mul_le_mul (by omega) hb0
          omega
        have hre : R ≤ 140737488351232 := hR
        refine ⟨[.sl (P.cellsOf e) l], one _ _ rfl ?_ rfl rfl, ?_⟩
        · simp only [RepV]
          refine ⟨some a, cap, by rw [q1], by omega, ⟨hk0, by omega⟩, ?_⟩
          by_cases h0 : l = []
          · exact .inl h0
          · right
            have hpos : 0 < cs'.length := by
              rw [RepE.len q2]; exact Nat.mul_pos (List.length_pos_iff.2 h0) hk0
            have hspot : a.spot = none := by
              have := q3 0 _ (List.getElem?_eq_getElem hpos)
              unfold World.cell? at this
              split at this
              · split at this
                · cases this
                · rename_i hs; simpa [Addr.add] using hs
              · cases this
            obtain ⟨ab, ao, asp⟩ := a
            simp only at hspot
            subst hspot
            exact ⟨ab, ao, cs', rfl, Cells.of_there (List.ne_nil_of_length_pos hpos) (fun j v hj => by have := q3 j v hj; rwa [addr_add] at this), q2⟩
        · unfold Shape
          rw [hu]
          exact ⟨l, rfl, by omega, q4⟩
    · rename_i fs hu
      simp only [Bool.and_eq_true] at hp
      obtain ⟨xs, n', rfl, rfl, hl, hlen, hf⟩ := DataW.trod_struct hu hy
      cases ht : tiles P 0 fs.toList with
      | none => rw [ht] at hp; simp at hp
      | some m =>
        rw [ht] at hp
        have hm : m = cs.length := by rw [hl]; exact Nat.eq_of_beq_eq_true hp.1
        simp only [DataW.weights, hu] at hwt
        obtain ⟨ls, r1, r2⟩ := trod_fields (d := d) (cs := cs) (fun t cs h1 h2 => trod_av hR d t cs h1 h2) fs.toList 0 m ht hm (Nat.zero_le _) hp.2 (fun f hfm => by
          obtain ⟨i, hi, rfl⟩ := List.mem_iff_getElem.1 hfm
          have hfi : fs[i]? = some fs.toList[i] := by simp
          have := hf i _ hfi
          have hix : i < xs.length := by simp at hi; omega
          rw [List.getElem?_eq_getElem hix] at this
          exact ⟨n', _, this, weightsEach_get hwt i _ _ (by rw [List.getElem?_map, List.getElem?_eq_getElem hi]; rfl) (by rw [List.getElem?_map, List.getElem?_eq_getElem hix]; rfl)⟩)
        rw [List.drop_zero] at r1
        refine ⟨ls, r1, ?_⟩
        unfold Shape
        rw [hu]
        refine ⟨by rw [← RepL.length r1]; exact hl, fun f hf => ?_⟩
        have := (r2 f hf).2
        rwa [Nat.sub_zero] at this
    · cases hp

theorem visAgg_wide {r : Reach} {base d : Nat} {t : TypeId} {v : Value} (hp : plainT P d t = true) (h : Value.okWide P w r base t v) : VisAgg v = isAggT P t := by
  cases d with
  | zero => cases hp
  | succ d =>
    unfold plainT at hp
    split at hp
    · rename_i hu; obtain ⟨b, rfl⟩ := WideShapes.okWide_bool hu h; simp [VisAgg, isAggT, hu]
    · rename_i hu; obtain ⟨b, rfl⟩ := WideShapes.okWide_int hu h; simp [VisAgg, isAggT, hu]
    · rename_i hu; obtain ⟨b, rfl⟩ := WideShapes.okWide_string hu h; simp [VisAgg, isAggT, hu]
    · rename_i hu; obtain ⟨a, l, c, rfl⟩ := WideShapes.okWide_slice hu h; simp [VisAgg, isAggT, hu]
    · rename_i hu; obtain ⟨cs, rfl, _⟩ := WideShapes.okWide_struct hu h; simp [VisAgg, isAggT, hu]
    · cases hp

def ShapeAll (R : Nat) (P : Program) (d : Nat) : List TypeId → List AV → Prop
  | [], [] => True
  | t :: ts, x :: xs => (x.isAgg = isAggT P t ∧ Shape R P d t x.leaves) ∧ ShapeAll R P d ts xs
  | _, _ => False

/-- The arguments of a call, as trees of their types' shapes. -/
theorem args_av (hR : R ≤ 140737488351232) {r : Reach} {base d : Nat} : ∀ (ts : List TypeId) (vs : List Value) (ds : List (DataW H)) (ps : List MemPlace), DataW.TrodAll enc P w 0 (fun _ => true) true ts vs ds ps →
    (∀ (j : Nat) t v, ts[j]? = some t → vs[j]? = some v → Value.okWide P w r base t v) → (ts.all (plainT P d)) = true → ((DataW.weightsEach P ts ds).all (· ≤ R)) = true →
    ∃ args, RepT w (blockHw w) [] 0 args vs ∧ ShapeAll R P d ts args
  | [], [], [], _, _, _, _, _ => ⟨[], rfl, trivial⟩
  | t :: ts, v :: vs, x :: ds, _, h, hw, hp, hs => by
    simp only [DataW.TrodAll] at h
    obtain ⟨p, q, ⟨n, h1⟩, h2, rfl⟩ := h
    simp only [List.all_cons, Bool.and_eq_true] at hp
    simp only [DataW.weightsEach, List.all_append, Bool.and_eq_true] at hs
    obtain ⟨ls, r1, r2⟩ := trod_av hR d t _ hp.1 ⟨n, _, h1, hs.1⟩
    obtain ⟨a, a1, a2, _, a4, _⟩ := r2.elem r1
    obtain ⟨args, s1, s2⟩ := args_av hR ts vs ds q h2 (fun j t v h h' => hw (j + 1) t v (by simpa using h) (by simpa using h')) hp.2 hs.2
    refine ⟨a :: args, ?_, ⟨a2, by rw [a1]; exact r2⟩, s2⟩
    simp only [RepT]
    exact ⟨v, vs, rfl, .inr ⟨a4, by rw [a2]; exact visAgg_wide hp.1 (hw 0 t v rfl rfl)⟩, s1⟩
  | [], _ :: _, _, _, h, _, _, _ => by simp [DataW.TrodAll] at h
  | [], [], _ :: _, _, h, _, _, _ => by simp [DataW.TrodAll] at h
  | _ :: _, [], _, _, h, _, _, _ => by simp [DataW.TrodAll] at h
  | _ :: _, _ :: _, [], _, h, _, _, _ => by simp [DataW.TrodAll] at h
end
end Go.Ev
end
