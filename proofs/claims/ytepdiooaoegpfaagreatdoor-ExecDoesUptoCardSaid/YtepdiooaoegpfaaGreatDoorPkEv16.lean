/- Written by programs of this session: laws and contracts that the law's proof stands on, merged into one text. Conditions: none beyond those in each statement. -/
import Derived.Test.YtepdiooaoegpfaaGreatDoorPkEv15
import Derived.Test.YtepdiooaoegpfaaGreatDoorPkEv14
section
/- Written by this session: a region that draws its order, whole. Conditions: none beyond those in each statement. -/
namespace Go.Ev
open Go

section
variable {P : Program} {n : Nat} {W0 : World} {G0 : Gh} {ops : Array Oper} {Q : Exit → Act → World → Prop}

def upTo (N k : Nat) : Array Bool := ((List.range N).map fun i => decide (i < k)).toArray
theorem upTo_size (N k : Nat) : (upTo N k).size = N := by simp [upTo]
theorem upTo_get {N k i : Nat} (h : i < N) (d : Bool) : (upTo N k).getD i d = decide (i < k) := by
  rw [Array.getD_eq_getD_getElem?]; simp [upTo, h]
theorem upTo_succ {N k : Nat} : (upTo N k).setIfInBounds k true = upTo N (k + 1) := by
  apply Array.ext
  · simp [upTo]
  · intro i h1 h2
    have hi : i < N := by simpa [upTo] using h2
    rw [Array.getElem_setIfInBounds (by simpa [upTo] using hi)]
    simp only [upTo, List.getElem_toArray, List.getElem_map, List.getElem_range]
    by_cases e : k = i
    · subst e; simp
    · simp only [if_neg e]
      exact decide_eq_decide.2 (by omega)

/-- Behind the part that may go in any order, each operation waits for all ahead of it. -/
theorem any_of_ops {m : Nat} (hB : drawB ops.toList m = true) : ∀ (r k : Nat) (a : Act) (w : World), m ≤ k → k + r = ops.size → wpOps P ops Q (List.range' k r) a w → wpAny P .any ops Q r (upTo ops.size k) a w
  | 0, k, a, w, hm, hk, h => by
    simp only [wpAny, wpOps, List.range'_zero] at h ⊢
    refine ⟨?_, h⟩
    apply List.eq_nil_iff_forall_not_mem.2
    intro i hi
    obtain ⟨h1, o, ho, _⟩ := mem_ready.1 hi
    have := (Array.getElem?_eq_some_iff.1 ho).1
    rw [upTo_get this] at h1
    simp at h1; omega
  | r + 1, k, a, w, hm, hk, h => by
    have hkl : k < ops.size := by omega
    have hko : ops[k]? = some ops[k] := Array.getElem?_eq_getElem hkl
    have hclosed : Closed ops (upTo ops.size k) := by
      intro j hj hl f
      rw [upTo_get hj] at hl
      have hjk : j < k := by simpa using hl
      have : ∀ f j, j < k → ∀ q, q ∈ befN ops.toList f j → q < k := by
        intro f
        induction f with
        | zero => intro j _ q hq; cases hq
        | succ f ih =>
          intro j hj q hq
          have hjl : j < ops.size := by omega
          have hjo : ops.toList[j]? = some ops[j] := by simp
          simp only [befN, hjo, List.mem_eraseDups, List.mem_flatMap, List.mem_filter] at hq
          obtain ⟨e, ⟨he, hb⟩, hq⟩ := hq
          have := (drawB_spec hB (Array.getElem?_eq_getElem hjl)).1 e (by simpa using he) hb
          rcases List.mem_cons.1 hq with rfl | hq
          · omega
          · exact ih e.on (by omega) q hq
      intro q hq
      have := this f j hjk q hq
      rw [upTo_get (by omega)]; simpa using this
    have hready : k ∈ Region.ready .any ops (upTo ops.size k) := by
      refine mem_ready.2 ⟨by rw [upTo_get hkl]; simp, _, hko, fun e he hb => ?_⟩
      have := (drawB_spec hB hko).1 e he hb
      rw [upTo_get (by omega)]; simpa using this
    have honly : ∀ i ∈ Region.ready .any ops (upTo ops.size k), i = k := by
      intro i hi
      obtain ⟨h1, o, ho, _⟩ := mem_ready.1 hi
      have hil := (Array.getElem?_eq_some_iff.1 ho).1
      rw [upTo_get hil] at h1
      simp at h1
      rcases Nat.lt_or_ge k i with hlt | hge
      · have hbr := bef_ready hclosed (upTo_size _ _) hi (fun o ho e he hb => Nat.lt_trans ((drawB_spec hB ho).1 e he hb) (Array.getElem?_eq_some_iff.1 ho).1)
        rcases (drawB_spec hB ho).2 k hlt with h | ⟨h, _⟩
        · have := hbr _ _ h
          rw [upTo_get hkl] at this
          simp at this
        · omega
      · omega
    refine ⟨(fun h0 => by rw [h0] at hready; cases hready), fun i hi => ?_⟩
    have := honly i hi
    subst this
    rw [upTo_succ]
    rw [List.range'_succ, wpOps_cons] at h
    exact wpOp_mono (fun a w => any_of_ops hB r (i + 1) a w (by omega) (by omega)) h

theorem filter_out {p : Nat → Bool} {l r1 r2 : List Nat} {j : Nat} (hnd : l.Nodup) (h : l.filter p = r1 ++ j :: r2) : l.filter (fun i => p i && decide (i ≠ j)) = r1 ++ r2 := by
  have h1 : l.filter (fun i => p i && decide (i ≠ j)) = (l.filter p).filter fun i => decide (i ≠ j) := by
    rw [List.filter_filter]
    congr 1
    funext i
    rw [Bool.and_comm]
  have hnd' : (r1 ++ j :: r2).Nodup := h ▸ hnd.sublist List.filter_sublist
  rw [h1, h, List.filter_append, List.filter_cons]
  rw [List.nodup_append] at hnd'
  obtain ⟨q1, q2, q3⟩ := hnd'
  rw [List.nodup_cons] at q2
  simp only [ne_eq, not_true_eq_false, decide_false, Bool.false_eq_true, if_false]
  rw [List.filter_eq_self.2, List.filter_eq_self.2]
  · intro a ha; simp; rintro rfl; exact q2.1 ha
  · intro a ha; simp; rintro rfl; exact q3 a ha a (by simp) rfl

theorem any_of_seq {m : Nat} (hB : drawB ops.toList m = true) (hm : m ≤ ops.size) {os : List Nat} {own env : List Bx} {K : FS → Prop} (hdst : ∀ j o, j < m → ops[j]? = some o → ∀ t, o.dst = some t → t ∉ os)
    (hsuf : ∀ F a w g, K F → InvF n W0 G0 F os own env a w g → wpOps P ops Q (List.range' m (ops.size - m)) a w) :
    ∀ (N : Nat) (R : List Nat) (listed : Array Bool) (F : FS) (a : Act) (w : World) (g : Gh), R.length = N → listed.size = ops.size → Closed ops listed → (List.range m).filter (fun i => !listed.getD i true) = R →
      (∀ j, m ≤ j → j < ops.size → listed.getD j true = false) → Seq P n env own ops.toList R F K → InvF n W0 G0 F os own env a w g → wpAny P .any ops Q (N + (ops.size - m)) listed a w
  | 0, R, listed, F, a, w, g, hN, hsz, hc, hR, hs, hseq, hi => by
    have hRn : R = [] := List.eq_nil_of_length_eq_zero hN
    subst hRn
    simp only [Seq] at hseq
    have : listed = upTo ops.size m := by
      apply Array.ext
      · rw [hsz, upTo_size]
      · intro i h1 h2
        have hi' : i < ops.size := by rw [← hsz]; exact h1
        have e1 : listed.getD i true = listed[i] := by rw [Array.getD_eq_getD_getElem?, Array.getElem?_eq_getElem h1]; rfl
        have e2 : (upTo ops.size m).getD i true = (upTo ops.size m)[i] := by rw [Array.getD_eq_getD_getElem?, Array.getElem?_eq_getElem h2]; rfl
        rw [← e1, ← e2, upTo_get hi']
        rcases Nat.lt_or_ge i m with h | h
        · have hn : i ∉ (List.range m).filter fun i => !listed.getD i true := by rw [hR]; simp
          simp only [List.mem_filter, List.mem_range, h, true_and, Bool.not_eq_true'] at hn
          simp [h]; simpa using hn
        · rw [hs i h hi']; simp; omega
    subst this
    rw [Nat.zero_add]
    exact any_of_ops hB _ m a w (Nat.le_refl _) (by omega) (hsuf F a w g hseq hi)
  | N + 1, R, listed, F, a, w, g, hN, hsz, hc, hR, hs, hseq, hi => by
    have hsort : R.Pairwise (· < ·) := by rw [← hR]; exact List.pairwise_lt_range.sublist List.filter_sublist
    have hmemR : ∀ i, i ∈ R ↔ i < m ∧ listed.getD i true = false := fun i => by rw [← hR]; simp
    have edge : ∀ (o : Oper) (j : Nat), ops[j]? = some o → ∀ e ∈ o.after, Region.binds .any e = true → e.on < ops.size := fun o j ho e he hb => Nat.lt_trans ((drawB_spec hB ho).1 e he hb) (Array.getElem?_eq_some_iff.1 ho).1
    rw [show N + 1 + (ops.size - m) = (N + (ops.size - m)) + 1 from by omega]
    -- the least of them is ready
    cases hRc : R with
    | nil => rw [hRc] at hN; cases hN
    | cons i0 R0 =>
      have hi0 : i0 < m ∧ listed.getD i0 true = false := (hmemR i0).1 (by rw [hRc]; simp)
      have hi0l : i0 < ops.size := by omega
      have hleast : ∀ i, i < i0 → listed.getD i false = true := by
        intro i hii
        have hin : i ∉ R := by
          intro h
          rw [hRc] at h hsort
          rcases List.mem_cons.1 h with rfl | h
          · omega
          · have := (List.pairwise_cons.1 hsort).1 i h; omega
        rw [hmemR] at hin
        have : listed.getD i true = true := by
          cases h : listed.getD i true with
          | true => rfl
          | false => exact absurd ⟨by omega, h⟩ hin
        have hil : i < listed.size := by omega
        rw [Array.getD_eq_getD_getElem?, Array.getElem?_eq_getElem hil] at this ⊢
        exact this
      have hready0 : i0 ∈ Region.ready .any ops listed := mem_ready.2 ⟨hi0.2, _, Array.getElem?_eq_getElem hi0l, fun e he hb => hleast _ ((drawB_spec hB (Array.getElem?_eq_getElem hi0l)).1 e he hb)⟩
      refine ⟨(fun h0 => by rw [h0] at hready0; cases hready0), fun j hj => ?_⟩
      obtain ⟨hjun, o, ho, hall⟩ := mem_ready.1 hj
      have hjl := (Array.getElem?_eq_some_iff.1 ho).1
      have hbr := bef_ready hc hsz hj (fun o ho => edge o j ho)
      have hjm : j < m := by
        rcases Nat.lt_or_ge j m with h | h
        · exact h
        · rcases (drawB_spec hB ho).2 i0 (by omega) with h' | ⟨h', _⟩
          · have := hbr _ _ h'
            have hil : i0 < listed.size := by omega
            have e := hi0.2
            rw [Array.getD_eq_getD_getElem?, Array.getElem?_eq_getElem hil] at this e
            simp at this e; rw [this] at e; cases e
          · omega
      have hjR : j ∈ R := (hmemR j).2 ⟨hjm, hjun⟩
      obtain ⟨r1, r2, hsplit⟩ := List.append_of_mem hjR
      have hap : ∀ i ∈ r1, ∀ oi, ops[i]? = some oi → oi.apart ops o = true := by
        intro i hi1 oi hoi
        have hiR : i ∈ R := by rw [hsplit]; simp [hi1]
        have hlt : i < j := by
          rw [hsplit, List.pairwise_append] at hsort
          exact hsort.2.2 i hi1 j (by simp)
        rcases (drawB_spec hB ho).2 i hlt with h | ⟨_, h⟩
        · have := hbr _ _ h
          have e := ((hmemR i).1 hiR).2
          have hil : i < listed.size := by omega
          rw [Array.getD_eq_getD_getElem?, Array.getElem?_eq_getElem hil] at this e
          simp at this e; rw [this] at e; cases e
        · exact h oi hoi
      have hseq' := hseq
      rw [hsplit] at hseq'
      obtain ⟨v, k1, k2, k3⟩ := Seq.first ho r1 r2 F K hap hseq'
      refine hi.op ho k1 (fun t ht => hdst j o hjm ho t ht) k2 fun a' w' g' hi' => ?_
      refine any_of_seq hB hm hdst hsuf N (r1 ++ r2) (listed.setIfInBounds j true) _ a' w' g' ?_ (by simpa using hsz) (closed_set hB hc hsz hj) ?_ (fun q hq hql => ?_) k3 hi'
      · rw [hsplit] at hN; simp at hN ⊢; omega
      · rw [← filter_out List.nodup_range (hR.trans hsplit)]
        apply List.filter_congr
        intro i hi1
        have him : i < m := by simpa using hi1
        by_cases hij : i = j
        · subst hij
          have hil : i < listed.size := by omega
          rw [Array.getD_eq_getD_getElem?]
          simp [hil]
        · rw [getD_set_ne true (Ne.symm hij)]
          simp [hij]
      · rw [getD_set_ne true (by omega)]; exact hs q hq hql

/-- Where the first m operations may go in any order. -/
def drawA (P : Program) (n : Nat) (ops : List Oper) (m : Nat) (c : Cfg) (K : Cfg → Prop) : Prop :=
  preA P n ops (ops.take m) { c with os := [] } fun c' =>
    opsA P n ops (ops.drop m) { c' with os := c.os.filter fun i => (ops.take m).all fun o => match o.dst with
      | some d => !Nat.beq i d
      | none => true } K

theorem XW.draw {id m : Nat} {c : Cfg} {Q : Exit → Cfg → Prop} (hmix : P.follows .mixedOrders = true) (hB : drawB ops.toList m = true) (hm : Nat.ble m ops.toList.length = true) (h : drawA P n ops.toList m c fun c' => Q .normal c') : XW P n (.region id ops true) Q c := ⟨fun W0 G0 a w g hi => by
  have hml : m ≤ ops.size := by simpa using Nat.le_of_ble_eq_true hm
  refine wp_region_any hmix ?_
  have hi1 := hi.drew
  let os' := c.os.filter fun i => (ops.toList.take m).all fun o => match o.dst with
      | some d => !Nat.beq i d
      | none => true
  have hF : InvF n W0 G0 (Fr.get c.fr) os' c.own c.env a w.drew g := ⟨hi1.size, hi1.defers, hi1.fr, fun i hm => hi1.os i (List.mem_filter.1 hm).1, hi1.good, hi1.ext, hi1.ecl, hi1.b0⟩
  have hseq := preA_seq (P := P) (n := n) (ops := ops.toList) (ops.toList.take m) 0 { c with os := [] } (fun j hj => by
    rw [List.getElem?_take, if_pos (by simp at hj; omega), Nat.zero_add]) h
  have hlen : (ops.toList.take m).length = m := by simp; omega
  rw [hlen, ← List.range_eq_range'] at hseq
  have := any_of_seq (P := P) (n := n) (W0 := W0) (G0 := G0) (ops := ops) (os := os') (own := c.own) (env := c.env) (Q := fun e a' w' => ∃ c' g', Q e c' ∧ Inv n W0 G0 c' a' w' g') hB hml ?_ ?_ m (List.range m) (upTo ops.size 0) (Fr.get c.fr) a w.drew g (by simp) (upTo_size _ _) ?_ ?_ ?_ hseq hF
  · rw [show m + (ops.size - m) = ops.size from by omega] at this
    have e : upTo ops.size 0 = Array.replicate ops.size false := by
      apply Array.ext
      · simp [upTo]
      · intro i h1 h2; simp [upTo]
    rw [e] at this
    exact this
  · intro j o hj ho t ht hmem
    have := (List.mem_filter.1 hmem).2
    have hjo : o ∈ ops.toList.take m := by
      have hjl := (Array.getElem?_eq_some_iff.1 ho).1
      refine List.mem_of_getElem? (i := j) ?_
      rw [List.getElem?_take, if_pos hj]; simpa using ho
    have := List.all_eq_true.1 this o hjo
    rw [ht] at this
    simp at this
  · rintro F a' w' g' ⟨c', rfl, e1, e2, hk⟩ hf
    have hI : Inv n W0 G0 { c' with os := os' } a' w' g' := by
      have e1' : c'.own = c.own := e1
      have e2' : c'.env = c.env := e2
      refine ⟨hf.size, hf.defers, ?_, hf.os, ?_, hf.ext, ?_, ?_⟩
      · simpa only [Cfg.base, e2'] using hf.fr
      · simpa only [Cfg.mem, Cfg.base, e1', e2'] using hf.good
      · simpa only [Cfg.base, e2'] using hf.ecl
      · simpa only [Cfg.base, e2'] using hf.b0
    have hd := opsA_sound (P := P) (n := n) (ops := ops) (W0 := W0) (G0 := G0) (Q := fun e a' w' => ∃ c' g', Q e c' ∧ Inv n W0 G0 c' a' w' g') (fun c' a' w' g' hk hi' => ⟨c', g', hk, hi'⟩) (ops.toList.drop m) m _ a' w' g' (fun j => by rw [List.getElem?_drop]; simp) hk hI
    rwa [List.length_drop, Array.length_toList] at hd
  · intro j hj hl
    rw [upTo_get hj] at hl; simp at hl
  · rw [List.filter_eq_self.2]
    intro i hi'
    rw [upTo_get (by simp at hi'; omega)]; simp
  · intro j hj hjl
    rw [upTo_get hjl]; simp⟩
end
end Go.Ev
end
section
/- Written by this session: a box that came back from a call is shut: its slice is one that never changes. Conditions: none beyond those in each statement. -/
namespace Go.Ev
open Go

mutual
theorem RepV.rebase {w : World} {hw : Hw} {bs : List Nat} {base b0 : Nat} : ∀ (a : AV) (vs : List Value), a.cl b0 0 → RepV w hw bs base a vs → RepV w hw (bs.take b0) b0 a vs
  | .top, _, _, h => by simpa only [RepV] using h
  | .v x, _, _, h => by simpa only [RepV] using h
  | .sl k l, _, _, h => by simpa only [RepV] using h
  | .agg l, vs, c, h => by simp only [RepV, AV.cl] at h c ⊢; exact RepL.rebase l vs c h
  | .tup _, _, _, h => by simp only [RepV] at h
  | .bp i off, _, c, h => by simp only [AV.cl] at c; omega
  | .mo i, _, c, h => by simp only [AV.cl] at c; omega
  | .bs .., _, c, h => by simp only [AV.cl] at c; omega
  | .xp i off, _, c, h => by simp only [RepV, AV.cl] at h c ⊢; obtain ⟨h1, b, e, r⟩ := h; exact ⟨c, b, by rw [List.getElem?_take, if_pos c]; exact e, r⟩
  | .mx i, _, c, h => by simp only [RepV, AV.cl] at h c ⊢; obtain ⟨h1, b, e, r⟩ := h; exact ⟨c, b, by rw [List.getElem?_take, if_pos c]; exact e, r⟩
  | .xs .., _, c, h => by simp only [RepV, AV.cl] at h c ⊢; obtain ⟨h1, b, e, r⟩ := h; exact ⟨c, b, by rw [List.getElem?_take, if_pos c]; exact e, r⟩
  | .ep l, _, _, h => by simpa only [RepV] using h
  | .fn f first cap, _, c, h => by
    simp only [RepV, AV.cl] at h c ⊢
    obtain ⟨fs, cs, e, q1, q2⟩ := h
    exact ⟨fs, cs, e, RepL.rebase first _ c.1 q1, RepL.rebase cap _ c.2 q2⟩
  | .ifc t x, _, _, h => by simpa only [RepV] using h
  | .gv .., _, _, h => by simpa only [RepV] using h
theorem RepL.rebase {w : World} {hw : Hw} {bs : List Nat} {base b0 : Nat} : ∀ (l : List AV) (vs : List Value), clL b0 0 l → RepL w hw bs base l vs → RepL w hw (bs.take b0) b0 l vs
  | [], _, _, h => by simpa only [RepL] using h
  | x :: xs, _, c, h => by
    simp only [RepL, clL] at h c ⊢
    obtain ⟨v, vs', e, q1, q2⟩ := h
    exact ⟨v, vs', e, ⟨RepV.rebase x _ c.1 q1.1, q1.2⟩, RepL.rebase xs _ c.2 q2⟩
end

theorem RepL.cut2 {w : World} {hw : Hw} {bs : List Nat} {base : Nat} : ∀ (l1 l2 : List AV) (vs : List Value), RepL w hw bs base (l1 ++ l2) vs → RepL w hw bs base l1 (vs.take l1.length) ∧ RepL w hw bs base l2 (vs.drop l1.length)
  | [], _, _, h => by simpa [RepL] using h
  | x :: l1, l2, _, h => by
    simp only [List.cons_append, RepL] at h
    obtain ⟨v, vs', rfl, h1, h2⟩ := h
    obtain ⟨q1, q2⟩ := RepL.cut2 l1 l2 vs' h2
    simp only [List.length_cons, List.take_succ_cons, List.drop_succ_cons, RepL]
    exact ⟨⟨v, _, rfl, h1, q1⟩, q2⟩

/-- Elements out of a row of leaves. -/
theorem repE_of_flat {w : World} {hw : Hw} {bs : List Nat} {base k : Nat} : ∀ (els : List AV) (vs : List Value), RepL w hw bs base (els.flatMap AV.leaves) vs → (∀ x ∈ els, x.leaves.length = k ∧ pfL x.leaves = true) → RepE w hw k els vs
  | [], _, h, _ => by simpa [RepL, RepE] using h
  | x :: els, vs, h, hx => by
    simp only [List.flatMap_cons] at h
    obtain ⟨h1, h2⟩ := RepL.cut2 _ _ _ h
    obtain ⟨q1, q2⟩ := hx x (by simp)
    rw [q1] at h1 h2
    have hl := RepL.length h1
    simp only [RepE]
    refine ⟨by rw [q1] at hl; rw [List.length_take] at hl; omega, ⟨?_, fun _ => RepL.one h1⟩, repE_of_flat els _ h2 fun y hy => hx y (by simp [hy])⟩
    have h1' := RepL.pfL' _ _ q2 h1
    cases x with
    | agg l => simpa only [RepV, AV.leaves] using h1'
    | _ =>
      simp only [AV.leaves, RepL] at h1'
      obtain ⟨v, vs', e, ⟨r1, _⟩, rfl⟩ := h1'
      rw [e]; exact r1

mutual
/-- x, its boxes from m on shut, is y. -/
def Shut (mem : List Bx) (m : Nat) : AV → AV → Prop
  | .xs i off k n _, y => m ≤ i ∧ ∃ l os els, mem[i]? = some (.cells l os) ∧ y = .sl k els ∧ els.length = n ∧ off + n * k ≤ l.length ∧ n ≤ 140737488355328 ∧ (l.drop off).take (n * k) = els.flatMap AV.leaves ∧ ∀ x ∈ els, x.leaves.length = k ∧ pfL x.leaves = true
  | .v x, y => y = .v x ∨ ∃ k c, 0 < k ∧ x = .slice none 0 c ∧ y = .sl k []
  | .agg l, y => ∃ l', y = .agg l' ∧ ShutL mem m l l'
  | .tup l, y => ∃ l', y = .tup l' ∧ ShutL mem m l l'
  | x, y => y = x ∧ x.pf = true
def ShutL (mem : List Bx) (m : Nat) : List AV → List AV → Prop
  | [], l => l = []
  | x :: xs, l => ∃ y ys, l = y :: ys ∧ Shut mem m x y ∧ ShutL mem m xs ys
end

/-- What is known of array cells when the boxes from m on are shut. -/
def shutHw (w : World) (g : Gh) (m : Nat) : Hw := fun b => if b ∈ g.bs.drop m then (match w.heap[b]? with
  | some (.cells cs _ _) => some cs.size
  | _ => none) else g.hw b

section
variable {w : World} {g : Gh} {mem : List Bx}

theorem shutHw_le (G : Good w g mem mem.length) (m : Nat) : HwLe w g.hw w (shutHw w g m) := fun b h e => by
  refine ⟨h, ?_, Nat.le_refl _, fun _ _ => rfl⟩
  unfold shutHw
  rw [if_neg]
  · exact e
  · intro hb
    have := G.nohw b (List.mem_of_mem_drop hb)
    rw [this] at e; cases e

theorem Shut.isAgg {m : Nat} {x y : AV} (h : Shut mem m x y) : y.isAgg = x.isAgg := by
  cases x <;> simp only [Shut] at h
  case xs => obtain ⟨_, l, os, els, _, rfl, _⟩ := h; rfl
  case v => rcases h with rfl | ⟨k, c, _, _, rfl⟩ <;> rfl
  case agg => obtain ⟨l', rfl, _⟩ := h; rfl
  case tup => obtain ⟨l', rfl, _⟩ := h; rfl
  all_goals obtain ⟨rfl, _⟩ := h; rfl

mutual
theorem Shut.rep (G : Good w g mem mem.length) {m : Nat} (hm : m ≤ mem.length) : ∀ (x y : AV) (vs : List Value), Shut mem m x y → RepV w g.hw g.bs mem.length x vs → RepV w (shutHw w g m) [] 0 y vs
  | .xs i off k n cp, y, vs, h, hr => by
    simp only [Shut] at h
    obtain ⟨hmi, l, os, els, hbox, rfl, hn, hfit, h47, hflat, hels⟩ := h
    simp only [RepV] at hr ⊢
    obtain ⟨_, b, hb, hk0, hnc, hcp, rfl⟩ := hr
    obtain ⟨cs, e, hheap, hrl, _⟩ := G.box i _ b hbox hb
    have hlen := RepL.length hrl
    simp only [Array.length_toList] at hlen
    subst hn
    have hrow := (hrl.drop off).take (els.length * k)
    rw [hflat] at hrow
    have hE := repE_of_flat els _ hrow hels
    refine ⟨_, cp, rfl, hnc, ⟨hk0, h47⟩, .inr ⟨b, off, (cs.toList.drop off).take (els.length * k), rfl, ⟨cs.size, ?_, ?_, ?_⟩, RepE.mono (shutHw_le G m) _ _ hE⟩⟩
    · unfold shutHw
      rw [if_pos]
      · rw [hheap]
      · have : (g.bs.drop m)[i - m]? = some b := by rw [List.getElem?_drop, show m + (i - m) = i from by omega]; exact hb
        exact List.mem_of_getElem? this
    · simp only [List.length_take, List.length_drop, Array.length_toList, hlen]; omega
    · have := (cells_of_block hheap).sub off (els.length * k)
      simpa [CellsAt] using this
  | .agg l, y, vs, h, hr => by
    simp only [Shut] at h
    obtain ⟨l', rfl, h⟩ := h
    simp only [RepV] at hr ⊢
    exact ShutL.rep G hm l l' vs h hr
  | .tup l, _, _, _, hr => by simp only [RepV] at hr
  | .top, _, _, h, hr => by simp only [Shut] at h; obtain ⟨rfl, hp⟩ := h; exact RepV.mono (shutHw_le G m) (fun _ _ h => h) _ _ (RepV.pfV _ _ hp hr)
  | .v _, _, _, h, hr => by
    simp only [Shut] at h
    rcases h with rfl | ⟨k, c, hk, rfl, rfl⟩
    · exact RepV.mono (shutHw_le G m) (fun _ _ h => h) _ _ (RepV.pfV _ _ rfl hr)
    · simp only [RepV] at hr ⊢
      exact ⟨none, c, hr, Nat.zero_le _, ⟨hk, by simp⟩, .inl trivial⟩
  | .sl _ _, _, _, h, hr => by simp only [Shut] at h; obtain ⟨rfl, hp⟩ := h; exact RepV.mono (shutHw_le G m) (fun _ _ h => h) _ _ (RepV.pfV _ _ hp hr)
  | .bp _ _, _, _, h, _ => by simp only [Shut] at h; simp [AV.pf] at h
  | .xp _ _, _, _, h, _ => by simp only [Shut] at h; simp [AV.pf] at h
  | .mo _, _, _, h, _ => by simp only [Shut] at h; simp [AV.pf] at h
  | .mx _, _, _, h, _ => by simp only [Shut] at h; simp [AV.pf] at h
  | .bs .., _, _, h, _ => by simp only [Shut] at h; simp [AV.pf] at h
  | .ep _, _, _, h, hr => by simp only [Shut] at h; obtain ⟨rfl, hp⟩ := h; exact RepV.mono (shutHw_le G m) (fun _ _ h => h) _ _ (RepV.pfV _ _ hp hr)
  | .fn _ _ _, _, _, h, hr => by simp only [Shut] at h; obtain ⟨rfl, hp⟩ := h; exact RepV.mono (shutHw_le G m) (fun _ _ h => h) _ _ (RepV.pfV _ _ hp hr)
  | .gv _ _, _, _, h, hr => by simp only [Shut] at h; obtain ⟨rfl, hp⟩ := h; exact RepV.mono (shutHw_le G m) (fun _ _ h => h) _ _ (RepV.pfV _ _ hp hr)
  | .ifc _ _, _, _, h, hr => by simp only [Shut] at h; obtain ⟨rfl, hp⟩ := h; exact RepV.mono (shutHw_le G m) (fun _ _ h => h) _ _ (RepV.pfV _ _ hp hr)
theorem ShutL.rep (G : Good w g mem mem.length) {m : Nat} (hm : m ≤ mem.length) : ∀ (x y : List AV) (vs : List Value), ShutL mem m x y → RepL w g.hw g.bs mem.length x vs → RepL w (shutHw w g m) [] 0 y vs
  | [], _, _, h, hr => by simp only [ShutL] at h; subst h; simpa only [RepL] using hr
  | x :: xs, _, _, h, hr => by
    simp only [ShutL] at h
    obtain ⟨y, ys, rfl, h1, h2⟩ := h
    simp only [RepL] at hr ⊢
    obtain ⟨v, vs', rfl, q1, q2⟩ := hr
    exact ⟨v, vs', rfl, ⟨Shut.rep G hm x y _ h1 q1.1, by rw [h1.isAgg]; exact q1.2.1, q1.2.2⟩, ShutL.rep G hm xs ys _ h2 q2⟩
end

theorem Shut.rep1 (G : Good w g mem mem.length) {m : Nat} (hm : m ≤ mem.length) {x y : AV} {u : Value} (h : Shut mem m x y) (hr : Rep1 w g.hw g.bs mem.length x u) : Rep1 w (shutHw w g m) [] 0 y u := by
  rcases hr with rfl | ⟨h1, h2⟩
  · simp only [Shut] at h; exact .inl h.1
  · exact .inr ⟨Shut.rep G hm x y _ h h1, by rw [h.isAgg]; exact h2⟩
theorem ShutL.repT (G : Good w g mem mem.length) {m : Nat} (hm : m ≤ mem.length) : ∀ (x y : List AV) (vs : List Value), ShutL mem m x y → RepT w g.hw g.bs mem.length x vs → RepT w (shutHw w g m) [] 0 y vs
  | [], _, _, h, hr => by simp only [ShutL] at h; subst h; exact hr
  | x :: xs, _, _, h, hr => by
    simp only [ShutL] at h
    obtain ⟨y, ys, rfl, h1, h2⟩ := h
    simp only [RepT] at hr ⊢
    obtain ⟨v, vs', rfl, q1, q2⟩ := hr
    exact ⟨v, vs', rfl, h1.rep1 G hm q1, ShutL.repT G hm xs ys _ h2 q2⟩
theorem Shut.repA (G : Good w g mem mem.length) {m : Nat} (hm : m ≤ mem.length) {x y : AV} {u : Value} (h : Shut mem m x y) (hr : Rep w g.hw g.bs mem.length x u) : Rep w (shutHw w g m) [] 0 y u := by
  cases x with
  | tup l =>
    obtain ⟨vs, e, hr⟩ := hr
    simp only [Shut] at h
    obtain ⟨l', rfl, h⟩ := h
    exact ⟨vs, e, ShutL.repT G hm _ _ _ h hr⟩
  | _ => exact rep_of (h.rep1 G hm hr)
end

theorem env_cl {w : World} {g : Gh} {env : List Bx} (G : Good w g env env.length) : ∀ x ∈ env, Bx.cl env.length 0 x := by
  intro x hx
  obtain ⟨i, hi, rfl⟩ := List.mem_iff_getElem.1 hx
  have hib : i < g.bs.length := by rw [G.len]; exact hi
  have := G.box i env[i] g.bs[i] (List.getElem?_eq_getElem hi) (List.getElem?_eq_getElem hib)
  cases hx : env[i] with
  | map l => trivial
  | cells l os =>
    rw [hx] at this
    obtain ⟨cs, e, _, h2, _⟩ := this
    have := RepL.toCl _ _ h2
    rw [G.len, Nat.sub_self] at this
    exact this

/-- Boxes that came back are shut. -/
theorem XCalls.shut {P : Program} {f : FuncId} {args : List AV} {env : List Bx} {R R' : AV → Bool → List Bx → Prop} (h : XCalls P f args env R)
    (hs : ∀ r ow env', R r ow env' → ∃ r' new, R' r' false env ∧ env' = env ++ new ∧ Shut env' env.length r r') : XCalls P f args env R' := by
  intro w g vs G hs0 hv
  refine (h w g vs G hs0 hv).mono ?_
  rintro e w' ⟨u, g', r, ow, env', rfl, hR, _, G', E, hr, _⟩
  obtain ⟨r', new, hR', rfl, hsh⟩ := hs r ow env' hR
  have hm : env.length ≤ (env ++ new).length := by simp
  have hbl : g'.bs.length = (env ++ new).length := G'.len
  let own' : Nat → Option Loc := fun b => match g'.own b with
    | some (.cell i j) => if i < env.length then some (.cell i j) else none
    | some (.slot _) => none
    | x => x
  let g'' : Gh := { bs := g'.bs.take env.length, hw := shutHw w' g' env.length, own := own' }
  have ownEq : ∀ b L, own' b = some L → g'.own b = some L := fun b L e => by
    simp only [own'] at e
    cases hb : g'.own b with
    | none => rw [hb] at e; cases e
    | some L' =>
      rw [hb] at e
      cases L' with
      | slot i => cases e
      | ext => exact e
      | cell i j =>
        simp only at e
        split at e
        · exact e
        · cases e
  have hwEq : ∀ b L, g'.own b = some L → shutHw w' g' env.length b = g'.hw b := fun b L e => by
    obtain ⟨h, eh⟩ := G'.own b L e
    unfold shutHw
    rw [if_neg]
    intro hb
    have := G'.nohw b (List.mem_of_mem_drop hb)
    rw [this] at eh; cases eh
  have hH := shutHw_le G' env.length
  have hG : Good w' g'' env env.length := by
    refine ⟨by simp [g'', hbl], G'.nd.sublist (List.take_sublist _ _), fun b hb => ?_, fun i x b hx hb => ?_, fun b h e => ?_, fun b L e => ?_, G'.glob.mono hH⟩
    · show shutHw w' g' env.length b = none
      unfold shutHw
      rw [if_neg]
      · exact G'.nohw b (List.mem_of_mem_take hb)
      · intro hd
        have nd := G'.nd
        rw [← List.take_append_drop env.length g'.bs] at nd
        exact (List.nodup_append.1 nd).2.2 b hb b hd rfl
    · have hil : i < env.length := (List.getElem?_eq_some_iff.1 hx).1
      have hb' : g'.bs[i]? = some b := by
        have hb : (g'.bs.take env.length)[i]? = some b := hb
        rw [List.getElem?_take, if_pos hil] at hb; exact hb
      have := G'.box i x b (by rw [List.getElem?_append_left hil]; exact hx) hb'
      have hcl := env_cl G x (List.mem_of_getElem? hx)
      cases x with
      | cells l os =>
        obtain ⟨cs, e, h1, h2, h3⟩ := this
        refine ⟨cs, e, h1, RepL.mono hH (fun _ _ h => h) _ _ (RepL.rebase l _ hcl h2), fun j hj => ?_⟩
        obtain ⟨k, l', y, f1, f2, f3⟩ := h3 j hj
        exact ⟨k, l', y, f1, f2, f3.mono fun b hb => ⟨by simp [g'', own', hb, hil], hwEq b _ hb, rfl⟩⟩
      | map l =>
        obtain ⟨es, n, h1, h2⟩ := this
        exact ⟨es, n, h1, RepM.mono hH _ _ h2⟩
    · have e' : shutHw w' g' env.length b = some h := e
      unfold shutHw at e'
      split at e'
      · split at e'
        · rename_i cs et f hheap
          cases e'
          exact ⟨cs, et, f, hheap, Nat.le_refl _⟩
        · cases e'
      · exact G'.hw b h e'
    · have := ownEq b L e
      show ∃ h, shutHw w' g' env.length b = some h
      rw [hwEq b L this]
      exact G'.own b L this
  have hE : Ext (· = .ext) w g w' g'' := by
    refine ⟨E.size, E.tape, E.os, E.output, E.hw.trans hH, fun b L hb hL => ?_, fun i b hb => ?_, fun b hb => E.bsnew b (List.mem_of_mem_take hb), fun b hb L e => E.orig b hb L (ownEq b L e), E.old⟩
    · obtain ⟨q1, q2, q3⟩ := E.ext b L hb hL
      subst hL
      exact ⟨by simp [g'', own', q1], (hwEq b _ q1).trans q2, q3⟩
    · have := (List.getElem?_eq_some_iff.1 hb).1
      show (g'.bs.take env.length)[i]? = some b
      rw [List.getElem?_take, if_pos (by rw [← G.len]; exact this)]
      exact E.bs i b hb
  exact ⟨u, g'', r', false, env, rfl, hR', Nat.le_refl _, hG, hE, (hsh.repA G' hm hr).lift, fun h => by cases h⟩

/-- A function that hands on a new box is one that changes nothing, when the box is shut. -/
theorem XPure.shut {P : Program} {f : FuncId} {args : List AV} {r' : AV} {R : List Bx → AV → Bool → List Bx → Prop} (hc : Callable P f) (hp : r'.pf = true) (h : ∀ env, XCalls P f args env (R env))
    (hs : ∀ env r ow env', R env r ow env' → ∃ new, env' = env ++ new ∧ Shut env' env.length r r') : XPure P f args r' false :=
  ⟨hc, hp, fun env => (h env).shut fun r ow env' hR => by
    obtain ⟨new, h1, h2⟩ := hs env r ow env' hR
    exact ⟨r', new, ⟨rfl, rfl, rfl⟩, h1, h2⟩⟩
end Go.Ev
end
