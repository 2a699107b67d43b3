/- Written by programs of this session: laws and contracts that the law's proof stands on, merged into one text. Conditions: none beyond those in each statement. -/
import Derived.Test.YtepdiooaoegpfaaGreatDoorPkEv19
import Derived.Test.YtepdiooaoegpfaaGreatDoorPkEv17
section
/- Written by this session: a call by a function that knows rows that never change, with rows in boxes; its new row lies in one new box. Conditions: none beyond those in each statement. -/
namespace Go.Ev
open Go

/-- All plain values. -/
def vL : List AV → Bool
  | [] => true
  | .v _ :: r => vL r
  | _ :: _ => false
theorem vL_iff : ∀ {l : List AV}, vL l = true → ∃ vs : List Value, l = vs.map .v
  | [], _ => ⟨[], rfl⟩
  | .v x :: r, h => by
    obtain ⟨vs, e⟩ := vL_iff (l := r) h
    exact ⟨x :: vs, by rw [e]; rfl⟩
  | .top :: _, h => by cases h
  | .sl .. :: _, h => by cases h
  | .agg _ :: _, h => by cases h
  | .tup _ :: _, h => by cases h
  | .bp .. :: _, h => by cases h
  | .xp .. :: _, h => by cases h
  | .mo _ :: _, h => by cases h
  | .mx _ :: _, h => by cases h
  | .bs .. :: _, h => by cases h
  | .xs .. :: _, h => by cases h
  | .gv .. :: _, h => by cases h
  | .ep _ :: _, h => by cases h
  | .fn .. :: _, h => by cases h
  | .ifc .. :: _, h => by cases h
theorem vL_map (vs : List Value) : vL (vs.map .v) = true := by
  induction vs with
  | nil => rfl
  | cons x r ih => exact ih
theorem vL_pf (vs : List Value) : pfL (vs.map .v) = true := by
  induction vs with
  | nil => rfl
  | cons x r ih => simp only [List.map_cons, pfL, AV.pf, ih, Bool.and_self]
theorem repL_v {w : World} {hw : Hw} {bs : List Nat} {base : Nat} : ∀ {vs us : List Value}, RepL w hw bs base (vs.map .v) us → us = vs
  | [], _, h => by simpa only [List.map_nil, RepL] using h
  | x :: r, us, h => by
    simp only [List.map_cons, RepL, RepV] at h
    obtain ⟨v, vs', rfl, ⟨e, _⟩, h2⟩ := h
    rw [repL_v h2, List.cons.inj e |>.1]
theorem repL_mkv {w : World} {hw : Hw} {bs : List Nat} {base : Nat} : ∀ {us : List Value}, (∀ u ∈ us, u.oneCell' = true) → RepL w hw bs base (us.map .v) us
  | [], _ => by simp only [List.map_nil, RepL]
  | x :: r, h => by
    simp only [List.map_cons, RepL, RepV]
    exact ⟨x, r, rfl, ⟨rfl, rfl, h x (by simp)⟩, repL_mkv fun u hu => h u (by simp [hu])⟩

/-- A tree of plain values. -/
def flatV : AV → Bool
  | .v _ => true
  | .agg l => vL l
  | _ => false
def flatT : AV → Bool
  | .tup l => l.all flatV
  | x => flatV x
theorem flat_rep1 {w w' : World} {hw hw' : Hw} {bs bs' : List Nat} {base base' : Nat} {x : AV} {u : Value} (hf : flatV x = true) (h : Rep1 w hw bs base x u) : Rep1 w' hw' bs' base' x u := by
  rcases h with rfl | ⟨h1, h2⟩
  · cases hf
  · refine .inr ⟨?_, h2⟩
    cases x with
    | v y => simpa only [RepV] using h1
    | agg l =>
      obtain ⟨vs, rfl⟩ := vL_iff hf
      simp only [RepV] at h1 ⊢
      have e := repL_v h1
      rw [e]
      exact repL_mkv fun q hq => RepL.one h1 q (by rw [e]; exact hq)
    | _ => cases hf
theorem flat_repT {w w' : World} {hw hw' : Hw} {bs bs' : List Nat} {base base' : Nat} : ∀ {l : List AV} {us : List Value}, l.all flatV = true → RepT w hw bs base l us → RepT w' hw' bs' base' l us
  | [], _, _, h => h
  | x :: r, us, hf, h => by
    simp only [List.all_cons, Bool.and_eq_true] at hf
    simp only [RepT] at h ⊢
    obtain ⟨v, vs', e, h1, h2⟩ := h
    exact ⟨v, vs', e, flat_rep1 hf.1 h1, flat_repT hf.2 h2⟩
theorem flat_rep {w w' : World} {hw hw' : Hw} {bs bs' : List Nat} {base base' : Nat} {x : AV} {u : Value} (hf : flatT x = true) (h : Rep w hw bs base x u) : Rep w' hw' bs' base' x u := by
  cases x with
  | tup l => obtain ⟨vs, e, h⟩ := h; exact ⟨vs, e, flat_repT hf h⟩
  | v y => exact rep_of (flat_rep1 (x := .v y) hf h)
  | agg l => exact rep_of (flat_rep1 (x := .agg l) hf h)
  | _ => cases hf
/-- A result that holds one row. -/
def DT (a : Value) (as es : List Value) (x : AV) : AV := .tup (.agg (.v a :: x :: as.map .v) :: es.map .v)
theorem dt_rep {w : World} {hw : Hw} {bs : List Nat} {base : Nat} {a : Value} {as es : List Value} {x y : AV} {u : Value} (hx : x.isAgg = y.isAgg)
    (hr : Rep w hw bs base (DT a as es x) u) : ∃ q : Value, RepV w hw bs base x [q] ∧ ∀ (w' : World) (hw' : Hw) (bs' : List Nat) (base' : Nat), RepV w' hw' bs' base' y [q] → Rep w' hw' bs' base' (DT a as es y) u := by
  obtain ⟨vs, rfl, h⟩ := hr
  simp only [RepT] at h
  obtain ⟨v, vs', e, h1, h2⟩ := h
  rcases h1 with h1 | ⟨h1, h3⟩
  · cases h1
  simp only [RepV, RepL] at h1
  obtain ⟨v1, r1, e1, ⟨p1, p2, p3⟩, v2, r2, e2, ⟨q1, q2, q3⟩, r3⟩ := h1
  refine ⟨v2, q1, fun w' hw' bs' base' hy => ⟨vs, rfl, ?_⟩⟩
  simp only [RepT]
  have hes : RepT w' hw' bs' base' (es.map .v) vs' := flat_repT (by simp [List.all_map, flatV]) h2
  refine ⟨v, vs', e, .inr ⟨?_, h3⟩, hes⟩
  simp only [RepV, RepL]
  refine ⟨v1, r1, e1, ⟨p1, p2, p3⟩, v2, r2, e2, ⟨hy, by rw [← hx]; exact q2, q3⟩, ?_⟩
  have e4 := repL_v r3
  rw [e4]
  exact repL_mkv fun q hq => RepL.one r3 q (by rw [e4]; exact hq)

/-- The row of a result lies in a new box, or is none. -/
def FreshD (mem : List Bx) (a : Value) (as es : List Value) (k : Nat) (l : List AV) (r : AV) : Prop :=
  (∃ c0, r = DT a as es (.v (.slice none 0 c0)) ∧ l = []) ∨ ∃ i off cp lb os, r = DT a as es (.xs i off k l.length cp) ∧ mem[i]? = some (.cells lb os) ∧ off + l.length * k ≤ lb.length ∧ (lb.drop off).take (l.length * k) = l.flatMap AV.leaves

theorem XCalls.borrow {P : Program} {f : FuncId} {args args2 : List AV} {env : List Bx} {R R2 : AV → Bool → List Bx → Prop} (hX : XCalls P f args [] R) (hs : ShutL env 0 args2 args)
    (hR : ∀ r ow env', R r ow env' → (flatT r = true ∧ R2 r false env) ∨ ∃ a as es i off k n cp lb os, r = DT a as es (.xs i off k n cp) ∧ env'[i]? = some (.cells lb os) ∧
      ∀ us : List Value, us.length = lb.length → (∀ (off m : Nat) (vs : List Value), (lb.drop off).take m = vs.map .v → (us.drop off).take m = vs) → R2 (DT a as es (.xs env.length off k n cp)) false (env ++ [.cells (us.map .v) []])) : XCalls P f args2 env R2 := by
  intro w g vs G hs0 hv
  have hm : 0 ≤ env.length := Nat.zero_le _
  have hv' := ShutL.repT G hm _ _ _ hs hv
  have hHw := shutHw_le G 0
  have ownHw : ∀ b L, g.own b = some L → ∃ h, g.hw b = some h := G.own
  have notBs : ∀ b L, g.own b = some L → b ∉ g.bs := fun b L e hb => by
    obtain ⟨h, eh⟩ := G.own b L e
    rw [G.nohw b hb] at eh; cases eh
  have shutSame : ∀ b, b ∉ g.bs → shutHw w g 0 b = g.hw b := fun b hb => by
    unfold shutHw; rw [if_neg (by simpa using hb)]
  have bsIn : ∀ b ∈ g.bs, b < w.heap.size := fun b hb => by
    obtain ⟨i, hi, rfl⟩ := List.mem_iff_getElem.1 hb
    have hie : i < env.length := by rw [← G.len]; exact hi
    have := G.box i env[i] g.bs[i] (List.getElem?_eq_getElem hie) (List.getElem?_eq_getElem hi)
    cases hx : env[i] with
    | cells l os => rw [hx] at this; obtain ⟨cs, e, h1, _⟩ := this; exact (Array.getElem?_eq_some_iff.1 h1).1
    | map l => rw [hx] at this; obtain ⟨es, n, h1, _⟩ := this; exact (Array.getElem?_eq_some_iff.1 h1).1
  let gF : Gh := { bs := [], hw := shutHw w g 0, own := fun b => (g.own b).map fun _ => .ext }
  have GF : Good w gF [] ([] : List Bx).length := by
    refine ⟨rfl, List.nodup_nil, fun b hb => absurd hb List.not_mem_nil, fun i x b hx _ => by simp at hx, fun b h e => ?_, fun b L e => ?_, G.glob.mono hHw⟩
    · have e' : shutHw w g 0 b = some h := e
      by_cases hb : b ∈ g.bs
      · unfold shutHw at e'
        rw [if_pos (by simpa using hb)] at e'
        split at e'
        · rename_i cs et fl hheap
          cases e'
          exact ⟨cs, et, fl, hheap, Nat.le_refl _⟩
        · cases e'
      · rw [shutSame b hb] at e'; exact G.hw b h e'
    · cases ho : g.own b with
      | none => simp [gF, ho] at e
      | some L' =>
        show ∃ h, shutHw w g 0 b = some h
        rw [shutSame b (notBs b L' ho)]; exact G.own b L' ho
  refine (hX w gF vs GF (fun b i e => by
    simp only [gF] at e
    cases ho : g.own b with
    | none => rw [ho] at e; cases e
    | some L => rw [ho] at e; cases e) hv').mono ?_
  rintro e w' ⟨u, g', r, ow, env', rfl, hRr, _, G', E, hr, _⟩
  have keepB : ∀ b, b ∈ g.bs → w'.heap[b]? = w.heap[b]? := fun b hb => E.old b (bsIn b hb) List.not_mem_nil fun L e => by
    simp only [gF] at e
    cases ho : g.own b with
    | none => rw [ho] at e; cases e
    | some L' => exact absurd hb (notBs b L' ho)
  have ownExt : ∀ b L, g.own b = some L → g'.own b = some .ext ∧ g'.hw b = g.hw b ∧ w'.heap[b]? = w.heap[b]? := fun b L e => by
    obtain ⟨q1, q2, q3⟩ := E.ext b .ext (by simp [gF, e]) rfl
    exact ⟨q1, q2.trans (shutSame b (notBs b L e)), q3⟩
  -- the ghost behind the call: bn are the new boxes that are kept
  have fin : ∀ (bn : List Nat) (nb : List Bx), bn.length = nb.length → bn.Nodup → (∀ b ∈ bn, b ∈ g'.bs) → (∀ (j : Nat) x b, nb[j]? = some x → bn[j]? = some b → ∃ cs e, x = Bx.cells (cs.toList.map .v) [] ∧ w'.heap[b]? = some (.cells cs e (0, 0)) ∧ ∀ u ∈ cs.toList, u.oneCell' = true) →
      ∃ g'' : Gh, g''.bs = g.bs ++ bn ∧ Good w' g'' (env ++ nb) (env ++ nb).length ∧ Ext (· = .ext) w g w' g'' := fun bn nb hlen hnd hin hbox => by
    have newB : ∀ b ∈ bn, w.heap.size ≤ b := fun b hb => (E.bsnew b (hin b hb)).elim (fun h => absurd h List.not_mem_nil) id
    let g'' : Gh := { bs := g.bs ++ bn, hw := fun b => if b ∈ g.bs ++ bn then none else g'.hw b, own := g.own }
    have hwEq : ∀ b, b ∉ g.bs → b ∉ bn → g''.hw b = g'.hw b := fun b h1 h2 => by
      show (if b ∈ g.bs ++ bn then none else g'.hw b) = _
      rw [if_neg (by simp [h1, h2])]
    have someHw : ∀ b h, g.hw b = some h → b ∉ g.bs ∧ b ∉ bn := fun b h e => by
      refine ⟨fun hb => by (rw [G.nohw b hb] at e; cases e), fun hb => ?_⟩
      obtain ⟨cs, et, fl, hh, _⟩ := G.hw b h e
      have := (Array.getElem?_eq_some_iff.1 hh).1
      have := newB b hb
      omega
    have H : HwLe w g.hw w' g''.hw := fun b h e => by
      obtain ⟨h1, h2⟩ := someHw b h e
      obtain ⟨h', e', q1, q2⟩ := E.hw b h (by show shutHw w g 0 b = some h; rw [shutSame b h1]; exact e)
      exact ⟨h', by rw [hwEq b h1 h2]; exact e', q1, q2⟩
    have ownK : ∀ b L, g.own b = some L → g''.own b = some L ∧ g''.hw b = g.hw b ∧ w'.heap[b]? = w.heap[b]? := fun b L e => by
      obtain ⟨h, eh⟩ := G.own b L e
      obtain ⟨h1, h2⟩ := someHw b h eh
      obtain ⟨q1, q2, q3⟩ := ownExt b L e
      exact ⟨e, (hwEq b h1 h2).trans q2, q3⟩
    refine ⟨g'', rfl, ?_, ?_⟩
    · refine ⟨by simp [g'', G.len, hlen], ?_, fun b hb => if_pos hb, fun i x b hx hb => ?_, fun b h e => ?_, fun b L e => ?_, G.glob.mono H⟩
      · show (g.bs ++ bn).Nodup
        rw [List.nodup_append]
        refine ⟨G.nd, hnd, fun a ha b hb => ?_⟩
        rintro rfl
        have := bsIn a ha
        have := newB a hb
        omega
      · rcases Nat.lt_or_ge i env.length with hi | hi
        · have hb' : g.bs[i]? = some b := by
            have hb : (g.bs ++ bn)[i]? = some b := hb
            rwa [List.getElem?_append_left (by rw [G.len]; exact hi)] at hb
          have hx' : env[i]? = some x := by rwa [List.getElem?_append_left hi] at hx
          have hbx := G.box i x b hx' hb'
          have hcl := env_cl G x (List.mem_of_getElem? hx')
          have hk := keepB b (List.mem_of_getElem? hb')
          cases x with
          | cells l os =>
            obtain ⟨cs, et, h1, h2, h3⟩ := hbx
            refine ⟨cs, et, hk.trans h1, ?_, fun j hj => ?_⟩
            · have q1 := RepL.rebase (b0 := env.length) l _ hcl h2
              have q2 := RepL.upL' (base' := (env ++ nb).length) (by simp [G.len]) (by simp) l _ q1
              rw [upL_cl l hcl] at q2
              exact RepL.mono H (fun j b hj => by
                have hj' : (g.bs.take env.length)[j]? = some b := hj
                rw [List.getElem?_take] at hj'
                split at hj'
                · show (g.bs ++ bn)[j]? = some b
                  rw [List.getElem?_append_left (by rw [G.len]; assumption)]; exact hj'
                · cases hj') _ _ q2
            · obtain ⟨k, l', y, f1, f2, f3⟩ := h3 j hj
              exact ⟨k, l', y, f1, f2, f3.mono fun b hb => ownK b _ hb⟩
          | map l =>
            obtain ⟨es, n, h1, h2⟩ := hbx
            exact ⟨es, n, hk.trans h1, RepM.mono H _ _ h2⟩
        · have hx' : nb[i - env.length]? = some x := by rwa [List.getElem?_append_right hi] at hx
          have hb' : bn[i - env.length]? = some b := by
            have hb : (g.bs ++ bn)[i]? = some b := hb
            rwa [List.getElem?_append_right (by rw [G.len]; exact hi), G.len] at hb
          obtain ⟨cs, et, rfl, h1, h2⟩ := hbox _ x b hx' hb'
          exact ⟨cs, et, h1, repL_mkv h2, fun j hj => by cases hj⟩
      · have e' : (if b ∈ g.bs ++ bn then none else g'.hw b) = some h := e
        split at e'
        · cases e'
        · exact G'.hw b h e'
      · obtain ⟨h, eh⟩ := G.own b L e
        exact ⟨h, ((ownK b L e).2.1).trans eh⟩
    · refine ⟨E.size, E.tape, E.os, E.output, H, fun b L e _ => ownK b L e, fun i b e => ?_, fun b hb => ?_, fun b _ L e => ⟨L, e, fun _ => rfl⟩, fun b hb hn ho => ?_⟩
      · show (g.bs ++ bn)[i]? = some b
        rw [List.getElem?_append_left (List.getElem?_eq_some_iff.1 e).1]; exact e
      · rcases List.mem_append.1 hb with hb | hb
        · exact .inl hb
        · exact .inr (newB b hb)
      · exact E.old b hb List.not_mem_nil fun L e => by
          simp only [gF] at e
          cases ho : g.own b with
          | none => rw [ho] at e; cases e
          | some L' => rw [ho] at e; cases e; rfl
  rcases hR r ow env' hRr with ⟨hf, h2⟩ | ⟨a, as, es, i, off, k, n, cp, lb, os, rfl, hi, h2⟩
  · obtain ⟨g'', e1, e2, e3⟩ := fin [] [] rfl List.nodup_nil (fun b hb => absurd hb List.not_mem_nil) (fun j x b hx _ => by simp at hx)
    rw [List.append_nil] at e2
    exact ⟨u, g'', r, false, env, rfl, h2, Nat.le_refl _, e2, e3, flat_rep hf hr, fun h => by cases h⟩
  · obtain ⟨q, hq, back⟩ := dt_rep (x := .xs i off k n cp) (y := .xs env.length off k n cp) rfl hr
    simp only [RepV] at hq
    obtain ⟨_, b, hb, hk0, hnc, hcp, eq⟩ := hq
    obtain ⟨cs, et, hheap, hrl, _⟩ := G'.box i _ b hi hb
    have hlen := RepL.length hrl
    obtain ⟨g'', e1, e2, e3⟩ := fin [b] [.cells (cs.toList.map .v) []] rfl (by simp) (fun b' hb' => by
      rw [List.mem_singleton] at hb'; subst hb'; exact List.mem_of_getElem? hb) (fun j x b' hx hb' => by
      cases j with
      | zero => simp at hx hb'; subst hx hb'; exact ⟨cs, et, rfl, hheap, RepL.one hrl⟩
      | succ j => simp at hx)
    refine ⟨u, g'', _, false, _, rfl, h2 cs.toList hlen (fun off m vs hvs => ?_), by simp, e2, e3, back _ _ _ _ ?_, fun h => by cases h⟩
    · have := (hrl.drop off).take m
      rw [hvs] at this
      exact repL_v this
    · simp only [RepV]
      refine ⟨by simp, b, ?_, hk0, hnc, hcp, eq⟩
      rw [e1, List.getElem?_append_right (by rw [G.len]; exact Nat.le_refl _), G.len, Nat.sub_self]; rfl
/-- A function whose result holds one row, which lies in new memory. -/
def XDisk (P : Program) (f : FuncId) (args : List AV) (a : Value) (as es : List Value) (k : Nat) (l : List AV) : Prop := Callable P f ∧ XCalls P f args [] fun r _ env' => FreshD env' a as es k l r
def BoxD (env : List Bx) (a : Value) (as es : List Value) (k : Nat) (l : List AV) (r : AV) (ow : Bool) (env' : List Bx) : Prop :=
  ow = false ∧ ((∃ c0, r = DT a as es (.v (.slice none 0 c0)) ∧ l = [] ∧ env' = env) ∨ ∃ B off cp, env' = env ++ [.cells B []] ∧ pfL B = true ∧ r = DT a as es (.xs env.length off k l.length cp) ∧ off + l.length * k ≤ B.length ∧ (B.drop off).take (l.length * k) = l.flatMap AV.leaves)
theorem flat_dt {a : Value} {as es : List Value} {y : Value} : flatT (DT a as es (.v y)) = true := by
  simp only [DT, flatT, List.all_cons, flatV, vL, vL_map, Bool.true_and]
  simp [List.all_map, flatV]
theorem XDisk.box {P : Program} {f : FuncId} {args args2 : List AV} {env : List Bx} {a : Value} {as es : List Value} {k : Nat} {l : List AV} (h : XDisk P f args a as es k l) (hl : vL (l.flatMap AV.leaves) = true) (hs : ShutL env 0 args2 args) : XCalls P f args2 env (BoxD env a as es k l) := by
  obtain ⟨vs, hvs⟩ := vL_iff hl
  refine h.2.borrow hs fun r ow env' hR => ?_
  rcases hR with ⟨c0, rfl, h0⟩ | ⟨i, off, cp, lb, os, rfl, h1, h2, h3⟩
  · exact .inl ⟨flat_dt, rfl, .inl ⟨c0, rfl, h0, rfl⟩⟩
  · refine .inr ⟨a, as, es, i, off, k, _, cp, lb, os, rfl, h1, fun us q1 q2 => ⟨rfl, .inr ⟨us.map .v, off, cp, rfl, vL_pf us, rfl, by rw [List.length_map, q1]; exact h2, ?_⟩⟩⟩
    rw [← List.map_drop, ← List.map_take, q2 off _ vs (h3.trans hvs), hvs]
theorem dt_up {base : Nat} {a : Value} {as es : List Value} {x : AV} : AV.up base (DT a as es x) = DT a as es (AV.up base x) := by
  simp only [DT, AV.up, upL, upL_pf _ _ (vL_pf as), upL_pf _ _ (vL_pf es)]
theorem dt_cl {base m : Nat} {a : Value} {as es : List Value} {x : AV} (h : x.cl base m) : (DT a as es x).cl base m := by
  have gen : ∀ l : List AV, pfL l = true → clL base m l := by
    intro l
    induction l with
    | nil => intro _; trivial
    | cons x l ih => intro h; simp only [pfL, Bool.and_eq_true] at h; simp only [clL]; exact ⟨cl_pf x h.1, ih h.2⟩
  simp only [DT, AV.cl, clL]
  exact ⟨⟨trivial, h, gen _ (vL_pf as)⟩, gen _ (vL_pf es)⟩
theorem callG_disk {P : Program} {c : Cfg} {args args2 : List AV} {f : FuncId} {dst : Option Tmp} {K : Cfg → Prop} {a : Value} {as es : List Value} {k : Nat} {l : List AV} (h : XDisk P f args a as es k l) (hl : vL (l.flatMap AV.leaves) = true)
    (hs : ShutL (c.env ++ c.own.map (Bx.up c.base)) 0 (args2.map (AV.up c.base)) args) (h0 : l = [] → ∀ c0, K (c.after dst (DT a as es (.v (.slice none 0 c0))) false))
    (h1 : ∀ B off cp, pfL B = true → off + l.length * k ≤ B.length → (B.drop off).take (l.length * k) = l.flatMap AV.leaves → K (({ c with own := c.own ++ [.cells B []] } : Cfg).after dst (DT a as es (.bs c.own.length off k l.length cp)) false)) : callG P c args2 f dst K := by
  unfold callG
  refine ⟨h.1, _, h.box hl hs, fun hE hA r ow env' hR => ?_⟩
  obtain ⟨rfl, ⟨c0, rfl, e, rfl⟩ | ⟨B, off, cp, rfl, hpf, rfl, q1, q2⟩⟩ := hR
  · exact ⟨DT a as es (.v (.slice none 0 c0)), c.env, c.own, by rw [dt_up]; rfl, rfl, rfl, dt_cl (x := .v (.slice none 0 c0)) trivial, hE, hA, h0 e c0⟩
  · obtain ⟨m1, m2⟩ := mapUp_self (base := c.base) (m := (c.own ++ [Bx.cells B []]).length) hpf rfl
    refine ⟨DT a as es (.bs c.own.length off k l.length cp), c.env, c.own ++ [.cells B []], ?_, ?_, rfl, ?_, hE, clAll_app hE hA (fun x hx => ?_), h1 B off cp hpf q1 q2⟩
    · rw [dt_up]; simp [AV.up, Cfg.base, Nat.add_comm]
    · simp only [List.map_append, List.map_cons, List.map_nil, m1, List.append_assoc]
    · refine dt_cl ?_; simp only [AV.cl]; simp
    · rw [List.mem_singleton] at hx; subst hx; exact m2
theorem flat_pf {r : AV} (h : flatT r = true) : r.pf = true := by
  have hv : ∀ x, flatV x = true → x.pf = true := fun x hx => by
    cases x with
    | v y => rfl
    | agg l => obtain ⟨vs, rfl⟩ := vL_iff hx; simp only [AV.pf]; exact vL_pf vs
    | _ => cases hx
  cases r with
  | tup l =>
    simp only [AV.pf]
    have h' : l.all flatV = true := h
    induction l with
    | nil => rfl
    | cons x l ih => simp only [List.all_cons, Bool.and_eq_true] at h'; simp only [pfL, Bool.and_eq_true]; exact ⟨hv x h'.1, ih h'.2 h'.2⟩
  | _ => exact hv _ h
/-- A call by a function whose result holds no row, with rows in boxes. -/
theorem callG_flat {P : Program} {c : Cfg} {args args2 : List AV} {f : FuncId} {dst : Option Tmp} {K : Cfg → Prop} {r : AV} (h : XPure P f args r false) (hf : flatT r = true)
    (hs : ShutL (c.env ++ c.own.map (Bx.up c.base)) 0 (args2.map (AV.up c.base)) args) (hk : K (c.after dst r false)) : callG P c args2 f dst K :=
  callG_same h.1 (flat_pf hf) ((h.2.2 []).borrow (R2 := fun r' ow env' => r' = r ∧ ow = false ∧ env' = c.env ++ c.own.map (Bx.up c.base)) hs fun r' ow env' ⟨e1, _, _⟩ => .inl ⟨by rw [e1]; exact hf, e1, rfl, rfl⟩) hk
mutual
theorem shut_pf (env : List Bx) (m : Nat) : ∀ x : AV, x.pf = true → Shut env m x x
  | .v x, _ => by simp only [Shut]; exact .inl trivial
  | .agg l, h => by simp only [AV.pf] at h; simp only [Shut]; exact ⟨l, rfl, shutL_pf env m l h⟩
  | .tup l, h => by simp only [AV.pf] at h; simp only [Shut]; exact ⟨l, rfl, shutL_pf env m l h⟩
  | .top, h => by simp only [Shut]; exact ⟨trivial, h⟩
  | .sl _ _, h => by simp only [Shut]; exact ⟨trivial, h⟩
  | .bp _ _, h => by simp [AV.pf] at h
  | .xp _ _, h => by simp [AV.pf] at h
  | .mo _, h => by simp [AV.pf] at h
  | .mx _, h => by simp [AV.pf] at h
  | .bs .., h => by simp [AV.pf] at h
  | .xs .., h => by simp [AV.pf] at h
  | .gv _ _, h => by simp only [Shut]; exact ⟨trivial, h⟩
  | .ep _, h => by simp only [Shut]; exact ⟨trivial, h⟩
  | .fn _ _ _, h => by simp only [Shut]; exact ⟨trivial, h⟩
  | .ifc _ _, h => by simp only [Shut]; exact ⟨trivial, h⟩
theorem shutL_pf (env : List Bx) (m : Nat) : ∀ l : List AV, pfL l = true → ShutL env m l l
  | [], _ => by simp only [ShutL]
  | x :: l, h => by
    simp only [pfL, Bool.and_eq_true] at h
    simp only [ShutL]
    exact ⟨x, l, rfl, shut_pf env m x h.1, shutL_pf env m l h.2⟩
end
theorem XDisk.pure {P : Program} {f : FuncId} {args : List AV} {a : Value} {as es : List Value} {k : Nat} {l : List AV} (h : XDisk P f args a as es k l) (ha : pfL args = true) (hl : vL (l.flatMap AV.leaves) = true) (hk : 0 < k) (he : Els k l) (h47 : l.length ≤ 140737488355328) : XPure P f args (DT a as es (.sl k l)) false := by
  refine XPure.shut (R := fun env => BoxD env a as es k l) h.1 ?_ (fun env => h.box hl (shutL_pf env 0 args ha)) fun env r ow env' hR => ?_
  · simp only [DT, AV.pf, pfL, vL_pf, Bool.and_self]
  · obtain ⟨_, ⟨c0, rfl, rfl, rfl⟩ | ⟨B, off, cp, rfl, _, rfl, q1, q2⟩⟩ := hR
    · refine ⟨[], by simp, ?_⟩
      simp only [DT, Shut, ShutL]
      exact ⟨_, rfl, _, _, rfl, ⟨_, rfl, _, _, rfl, .inl rfl, _, _, rfl, .inr ⟨k, c0, hk, rfl, rfl⟩, shutL_pf _ _ _ (vL_pf as)⟩, shutL_pf _ _ _ (vL_pf es)⟩
    · refine ⟨_, rfl, ?_⟩
      simp only [DT, Shut, ShutL]
      exact ⟨_, rfl, _, _, rfl, ⟨_, rfl, _, _, rfl, .inl rfl, _, _, rfl, ⟨Nat.le_refl _, B, [], l, by simp, rfl, rfl, q1, h47, q2, he⟩, shutL_pf _ _ _ (vL_pf as)⟩, shutL_pf _ _ _ (vL_pf es)⟩
/-- At the end of such a function. -/
@[irreducible] def FreshI (own : List Bx) (a : Value) (as es : List Value) (k : Nat) (l : List AV) (r : AV) : Prop :=
  (∃ c0, r = DT a as es (.v (.slice none 0 c0)) ∧ l = []) ∨ ∃ i off cp lb os, r = DT a as es (.bs i off k l.length cp) ∧ own[i]? = some (.cells lb os) ∧ off + l.length * k ≤ lb.length ∧ (lb.drop off).take (l.length * k) = l.flatMap AV.leaves
def OutD (P : Program) (n : Nat) (rs : List ResultVar) (a : Value) (as es : List Value) (k : Nat) (l : List AV) (e : Exit) (c : Cfg) : Prop :=
  (e = .normal ∨ e = .ret) ∧ c.env = [] ∧ retB P n rs c fun r _ => forceD 3 r fun r => forceO c.own fun own => FreshI own a as es k l r
theorem XDisk.body {P : Program} {f : FuncId} {fn : Func} {cd : Code} {args : List AV} {a : Value} {as es : List Value} {k : Nat} {l : List AV} (hc : Callable P f) (hf : P.funcs[f]? = some fn) (hb : fn.body = some cd) (ha : args.length ≤ fn.ntmps) (hl : pfL (l.flatMap AV.leaves) = true)
    (h : codeA P fn.ntmps cd (OutD P fn.ntmps fn.results.toList a as es k l) ⟨frOf 0 args, [], [], []⟩) : XDisk P f args a as es k l := by
  refine ⟨hc, XCalls.introB hf hb ha ((codeA_sound _ _ _ h).mono fun e c' q => ?_)⟩
  obtain ⟨q1, q2, q3⟩ := q
  refine ⟨q1, by rw [q2], retB_mono (fun r ow hr => ?_) q3⟩
  rw [forceD_iff, forceO_iff] at hr
  unfold FreshI at hr
  rcases hr with ⟨c0, rfl, e⟩ | ⟨i, off, cp, lb, os, rfl, p1, p2, p3⟩
  · exact .inl ⟨c0, by rw [dt_up]; rfl, e⟩
  · refine .inr ⟨i, off, cp, upL c'.base lb, os, ?_, ?_, by rw [upL_length]; exact p2, ?_⟩
    · rw [dt_up]; simp [AV.up, Cfg.base, q2]
    · rw [q2]; simp only [List.nil_append, List.getElem?_map, p1]; rfl
    · rw [← upL_drop, ← upL_take, p3, upL_pf _ _ hl]
end Go.Ev
end
section
/- Written by this session: contracts over memory of functions whose arguments are trees, and back. Conditions: none beyond those in each statement. -/
namespace Go.Ev
open Go Go.RowKit

/-- Of a memory, that alone that is read. -/
def Gh.bare (g : Gh) : Gh := { bs := [], hw := g.hw, own := fun _ => none }
theorem Good.bare {w : World} {g : Gh} {mem : List Bx} {base : Nat} (G : Good w g mem base) : Good w g.bare [] 0 where
  len := rfl
  nd := List.nodup_nil
  nohw b hb := by cases hb
  box i x b hx hb := by simp at hx
  hw := G.hw
  own b L h := by cases h
  glob := G.glob

/-- A contract over memory that hands back plain values. -/
theorem XPure.ofMem {P : Program} {f : FuncId} {args : List AV} {r : AV} {u : Value} (hc : Callable P f) (hp : r.pf = true) (ha : pfL args = true)
    (h : ∀ (w : World) (g : Gh) (vs : List Value), Good w g [] 0 → g.own = (fun _ => none) → RepT w g.hw [] 0 args vs → Calls P f vs.toArray w fun e w' => e = .returned u ∧ Below w.heap.size w w')
    (hr : ∀ (w : World) (hw : Hw) (bs : List Nat) (base : Nat), Rep w hw bs base r u) : XPure P f args r false := by
  refine ⟨hc, hp, fun env w g vs G hs hv => ?_⟩
  refine (h w g.bare vs G.bare rfl (RepT.pf _ _ ha hv)).mono ?_
  rintro e w' ⟨rfl, B⟩
  exact ⟨u, g, r, false, env, rfl, ⟨rfl, rfl, rfl⟩, Nat.le_refl _, G.below B, Ext.below _ G B, hr _ _ _ _, fun h => by cases h⟩

/-- The same, where the value hangs on memory. -/
theorem XPure.ofMemR {P : Program} {f : FuncId} {args : List AV} {r : AV} (hc : Callable P f) (hp : r.pf = true) (ha : pfL args = true)
    (h : ∀ (w : World) (g : Gh) (vs : List Value), Good w g [] 0 → g.own = (fun _ => none) → RepT w g.hw [] 0 args vs → Calls P f vs.toArray w fun e w' => ∃ u, e = .returned u ∧ Below w.heap.size w w' ∧ ∀ (hw : Hw) (bs : List Nat) (base : Nat), Rep w' hw bs base r u) : XPure P f args r false := by
  refine ⟨hc, hp, fun env w g vs G hs hv => ?_⟩
  refine (h w g.bare vs G.bare rfl (RepT.pf _ _ ha hv)).mono ?_
  rintro e w' ⟨u, rfl, B, hr⟩
  exact ⟨u, g, r, false, env, rfl, ⟨rfl, rfl, rfl⟩, Nat.le_refl _, G.below B, Ext.below _ G B, hr _ _ _, fun h => by cases h⟩

/-- A contract over trees as one over memory. -/
theorem XPure.toMem {P : Program} {f : FuncId} {args : List AV} {r : AV} {ow : Bool} (h : XPure P f args r ow) {w : World} {g : Gh} {vs : List Value} (G : Good w g [] 0) (ho : g.own = fun _ => none) (hv : RepT w g.hw [] 0 args vs) :
    Calls P f vs.toArray w fun e w' => ∃ (u : Value) (g' : Gh), e = .returned u ∧ Below w.heap.size w w' ∧ HwLe w g.hw w' g'.hw ∧ Rep w' g'.hw [] 0 r u := by
  have hb : g.bs = [] := List.eq_nil_of_length_eq_zero (by rw [G.len]; rfl)
  refine (h.2.2 [] w g vs G (fun b i => by rw [ho]; simp) (by rw [hb]; exact hv)).mono ?_
  rintro e w' ⟨u, g', r', ow', env', rfl, ⟨rfl, rfl, rfl⟩, _, G', E, hr, _⟩
  refine ⟨u, g', rfl, ⟨E.os, E.tape, E.output, E.size, fun k hk => E.old k hk (by rw [hb]; simp) fun L hL => by rw [ho] at hL; cases hL⟩, E.hw, Rep.pf h.2.1 hr⟩
end Go.Ev
end
