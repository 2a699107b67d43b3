/- Written by programs of this session: laws and contracts that the law's proof stands on, merged into one text. Conditions: none beyond those in each statement. -/
import Derived.Test.YtepdiooaoegpfaaGreatDoorPkEv3
import Derived.MapKept
import Derived.Laws.StructEq
import Derived.WideLaws
section
/- Written by this session: each operation that leaves memory as it is gives what its tree says. Conditions: none beyond those in each statement. -/
namespace Go.Ev
open Go Go.MapKept

section
variable {P : Program} {env own : List Bx} {ρA : Operand → AV} {K : AV → Prop} {dst : Option Tmp} {type : TypeId} {pos : String} {after : Array Edge} {guard : Option (Nat × Bool)}

theorem equalIn_bool {t : TypeId} {a b : Bool} (d : Nat) (hu : P.underlying t = some .bool) (w : World) : (Op.equalIn (d + 1) t (.bool a) (.bool b)).run P w = .ok (a == b) w := by
  simp only [Op.equalIn, Sem.run_bind, run_und hu, Result.andThen_ok, Sem.run_pure]
theorem equal_bool {t : TypeId} {a b : Bool} (hu : P.underlying t = some .bool) (w : World) : (Op.equal t (.bool a) (.bool b)).run P w = .ok (a == b) w := equalIn_bool 9999 hu w

theorem eqFields_run {D : Nat} {w : World} {hw : Hw} {bs : List Nat} {base : Nat} {l m : List AV} {xs ys : Array Value} (hl : RepL w hw bs base l xs.toList) (hm : RepL w hw bs base m ys.toList) :
    ∀ (fs : List Field) (b : Bool), eqFieldsA P l m fs = some b → (fs.all fun f => f.name != "_") = true → (Op.eqFields (D + 1) xs ys fs).run P w = .ok b w
  | [], b, h, _ => by simp [eqFieldsA] at h; subst h; simp [Op.eqFields]
  | f :: fs, b, h, hn => by
    simp only [List.all_cons, Bool.and_eq_true] at hn
    simp only [eqFieldsA] at h
    split at h
    · rename_i x y hx hy
      split at h
      · rename_i a b' ha hb
        cases h
        obtain ⟨u, hu, hru, hxa, hxo⟩ := hl.get hx
        obtain ⟨v, hv, hrv, hya, hyo⟩ := hm.get hy
        have hu' : xs[f.offset]? = some u := by simpa using hu
        have hv' : ys[f.offset]? = some v := by simpa using hv
        have ih := eqFields_run (D := D) hl hm fs b' hb hn.2
        have hne : f.name ≠ "_" := by simpa using hn.1
        have leaf : isAggT P f.type = false ∧ (∃ d, P.underlying f.type = some d) ∧ (Op.equalIn (D + 1) f.type u v).run P w = .ok a w := by
          unfold eqLeaf at ha
          split at ha
          · rename_i k0 k p k' q ht
            by_cases hk : k = k'
            · subst hk
              simp only [decide_true, cond_true, Option.some.injEq] at ha
              simp only [RepV, List.cons.injEq, and_true] at hru hrv
              subst ha hru hrv
              exact ⟨by simp [isAggT, ht], ⟨_, ht⟩, by simp [Op.equalIn, run_und ht]⟩
            · simp [hk] at ha
          · rename_i p q ht
            simp only [RepV, List.cons.injEq, and_true] at hru hrv
            simp only [Option.some.injEq] at ha
            subst ha hru hrv
            exact ⟨by simp [isAggT, ht], ⟨_, ht⟩, equalIn_bool D ht w⟩
          · rename_i p q ht
            simp only [RepV, List.cons.injEq, and_true] at hru hrv
            simp only [Option.some.injEq] at ha
            subst ha hru hrv
            exact ⟨by simp [isAggT, ht], ⟨_, ht⟩, Go.run_equalIn_string w D f.type p q ht⟩
          · cases ha
        obtain ⟨h1, ⟨d, h2⟩, h3⟩ := leaf
        have pu : (part f.type xs f.offset).run P w = .ok u w := by simp [part, run_isAgg h2, h1, hu']
        have pv : (part f.type ys f.offset).run P w = .ok v w := by simp [part, run_isAgg h2, h1, hv']
        simp only [Op.eqFields, if_pos hne, Sem.run_bind, pu, pv, Result.andThen_ok, h3]
        cases a with
        | true => simpa using ih
        | false => simp
      · cases h
    · cases h

theorem eqGuard_nil {op : BinOp} {t : TypeId} {x y : Operand} (hc : (isConstO x || isConstO y) = true) (hop : op = .eql ∨ op = .neq) (w : World) : (eqGuard op t x y .nilIface .nilIface).run P w = .ok () w := by
  cases x <;> cases y <;> first | (simp [isConstO] at hc; done) | (rcases hop with rfl | rfl <;> simp [eqGuard])

theorem eq_sound {t : TypeId} {x y : Operand} {K : Bool → Prop} (h : eqA P t x y (ρA x) (ρA y) K) :
    ∃ b, K b ∧ (∀ k n, ρA x ≠ .v (.int k n)) ∧ (∀ s, ρA x ≠ .v (.string s)) ∧ ∀ (ρ : Operand → Value) (w : World) (g : Gh), Rep w g.hw g.bs env.length (ρA x) (ρ x) → Rep w g.hw g.bs env.length (ρA y) (ρ y) →
      ∀ op, op = .eql ∨ op = .neq → (eqGuard op t x y (ρ x) (ρ y)).run P w = .ok () w ∧ (binOp op t (ρ x) (ρ y)).run P w = .ok (.bool (bif decide (op = .eql) then b else !b)) w := by
  unfold eqA at h
  split at h
  · rename_i l m hx hy
    split at h
    · rename_i fs hu
      split at h
      · rename_i b hb
        obtain ⟨⟨h1, h2, h3⟩, hk⟩ := h
        refine ⟨b, hk, by simp [hx], by simp [hx], fun ρ w g rx ry op hop => ?_⟩
        obtain ⟨xs, ex, rxs⟩ := rep_agg (hx ▸ rx)
        obtain ⟨ys, ey, rys⟩ := rep_agg (hy ▸ ry)
        have hf : P.fieldsOf t = fs := by simp [Program.fieldsOf, hu]
        have he : (Op.equalIn 10000 t (.agg xs) (.agg ys)).run P w = .ok b w := by
          rw [show (10000 : Nat) = 9999 + 1 from rfl, run_equalIn_struct w 9999 t xs ys (by rw [hf]; exact hu) h1, hf]
          exact eqFields_run (D := 9998) rxs rys fs.toList b hb h3
        rw [ex, ey]
        refine ⟨run_eqGuard_agg w op t x y xs ys h2, ?_⟩
        rcases hop with rfl | rfl
        · rw [run_eql_struct, he]; rfl
        · rw [run_neq_struct, he]; rfl
      · exact h.elim
    · exact h.elim
  · rename_i t' x' hx hy
    split at h
    · rename_i ms hu
      refine ⟨false, h, by simp [hx], by simp [hx], fun ρ w g rx ry op hop => ?_⟩
      have ey := (rep_v (hy ▸ ry)).1
      obtain ⟨q1, _⟩ := rep_leaf rfl (by simp) (by simp) (hx ▸ rx)
      simp only [RepV] at q1
      obtain ⟨u, e, _⟩ := q1
      simp only [List.cons.injEq, and_true] at e
      rw [ey, e]
      refine ⟨by rcases hop with rfl | rfl <;> simp [eqGuard], ?_⟩
      have hm : P.underlying t = some (.interface (P.methodsAt t)) := by simp [Program.methodsAt, hu]
      rcases hop with rfl | rfl
      · exact run_eql_held_nil w t t' u hm
      · exact run_neq_held_nil w t t' u hm
    · exact h.elim
  · rename_i hx hy
    split at h
    · rename_i ms hu
      cases hc : (isConstO x || isConstO y) with
      | false => rw [hc] at h; exact h.elim
      | true =>
        rw [hc] at h
        refine ⟨true, h, by simp [hx], by simp [hx], fun ρ w g rx ry op hop => ?_⟩
        have ex := (rep_v (hx ▸ rx)).1
        have ey := (rep_v (hy ▸ ry)).1
        rw [ex, ey]
        refine ⟨?_, ?_⟩
        · exact eqGuard_nil hc hop w
        · have hm : P.underlying t = some (.interface (P.methodsAt t)) := by simp [Program.methodsAt, hu]
          rcases hop with rfl | rfl
          · exact run_eql_nil_nil w t hm
          · exact run_neq_nil_nil w t hm
    · exact h.elim
  · exact h.elim

theorem bin_sound {op : BinOp} {t yt : TypeId} {x y : Operand} (h : binA P op t x y (ρA x) (ρA y) K) : ∃ v, K v ∧ PureAt P env own ρA ⟨dst, .binOp op t x y yt, type, pos, after, guard⟩ v := by
  unfold binA at h
  split at h
  · rename_i k a k' b hx hy
    by_cases hk : k = k'
    · subst hk
      simp only [decide_true, cond_true] at h
      have main : ∀ v u, K v → (∀ w, (binOp op t (.int k a) (.int k b)).run P w = .ok u w) → (∀ w hw bs base, Rep w hw bs base v u) → ∃ v, K v ∧ PureAt P env own ρA ⟨dst, .binOp op t x y yt, type, pos, after, guard⟩ v := by
        intro v u hk hr hv
        refine ⟨v, hk, fun ρ w g G hρ => ⟨u, ?_, hv _ _ _ _⟩⟩
        have e1 := (rep_v (hx ▸ hρ x (by simp [Op.operands]))).1
        have e2 := (rep_v (hy ▸ hρ y (by simp [Op.operands]))).1
        simp only [execOp, e1, e2, Sem.run_bind]
        have : (eqGuard op t x y (.int k a) (.int k b)).run P w = .ok () w := by unfold eqGuard; cases op <;> simp
        simp [this, hr]
      cases op <;> simp only [intOp] at h <;> first
        | exact h.elim
        | exact main _ _ h (fun w => by simp [binOp, Op.intArith]) (fun _ _ _ _ => rep_int)
        | exact main _ _ h.2 (fun w => by simp [binOp, Op.intDiv, h.1]) (fun _ _ _ _ => rep_int)
        | exact main _ _ h (fun w => by simp [binOp, Op.intCmp]) (fun _ _ _ _ => rep_bool)
        | exact main _ _ h.2.2 (fun w => by simp only [binOp, Op.shift, if_neg (Int.not_lt.2 h.1), Nat.min_eq_left h.2.1, Sem.run_pure]) (fun _ _ _ _ => rep_int)
    · simp [hk] at h
  · rename_i a b hx hy
    have main : ∀ v u, K v → (∀ w, (binOp op t (.string a) (.string b)).run P w = .ok u w) → (∀ w hw bs base, Rep w hw bs base v u) → ∃ v, K v ∧ PureAt P env own ρA ⟨dst, .binOp op t x y yt, type, pos, after, guard⟩ v := by
      intro v u hk hr hv
      refine ⟨v, hk, fun ρ w g G hρ => ⟨u, ?_, hv _ _ _ _⟩⟩
      have e1 := (rep_v (hx ▸ hρ x (by simp [Op.operands]))).1
      have e2 := (rep_v (hy ▸ hρ y (by simp [Op.operands]))).1
      simp only [execOp, e1, e2, Sem.run_bind]
      have : (eqGuard op t x y (.string a) (.string b)).run P w = .ok () w := by unfold eqGuard; cases op <;> simp
      simp [this, hr]
    cases op <;> simp only [strOp] at h <;> first
      | exact h.elim
      | exact main _ _ h.2 (fun w => by
          have : ¬ (((a.size + b.size : Nat) : Int) > IntKind.i64.max) := by
            have := h.1
            have e : IntKind.i64.max = 9223372036854775807 := by decide
            rw [e]; omega
          have e : IntKind.i64.max = 9223372036854775807 := by decide
          simp only [binOp, Op.stringOp, this, if_false]; rfl) (fun _ _ _ _ => rep_string)
      | exact main _ _ h (fun w => by simp [binOp, Op.stringOp, beqS, ltS]) (fun _ _ _ _ => rep_bool)
  · rename_i a b hx hy
    have main : ∀ v u, K v → (∀ w, (binOp op t (.bool a) (.bool b)).run P w = .ok u w) → (∀ w hw bs base, Rep w hw bs base v u) → ∃ v, K v ∧ PureAt P env own ρA ⟨dst, .binOp op t x y yt, type, pos, after, guard⟩ v := by
      intro v u hk hr hv
      refine ⟨v, hk, fun ρ w g G hρ => ⟨u, ?_, hv _ _ _ _⟩⟩
      have e1 := (rep_v (hx ▸ hρ x (by simp [Op.operands]))).1
      have e2 := (rep_v (hy ▸ hρ y (by simp [Op.operands]))).1
      simp only [execOp, e1, e2, Sem.run_bind]
      have : (eqGuard op t x y (.bool a) (.bool b)).run P w = .ok () w := by unfold eqGuard; cases op <;> simp
      simp [this, hr]
    unfold boolOp at h
    split at h
    · rename_i hu
      exact main _ _ h (fun w => by simp only [binOp, Sem.run_bind, equal_bool hu, Result.andThen_ok, Sem.run_pure]) (fun _ _ _ _ => rep_bool)
    · rename_i hu
      exact main _ _ h (fun w => by simp only [binOp, Sem.run_bind, equal_bool hu, Result.andThen_ok, Sem.run_pure]) (fun _ _ _ _ => rep_bool)
    · exact h.elim
  · have key : ∀ q, (q = BinOp.eql ∨ q = .neq) → op = q → eqA P t x y (ρA x) (ρA y) (fun b => K (.v (.bool (bif decide (q = .eql) then b else !b)))) → ∃ v, K v ∧ PureAt P env own ρA ⟨dst, .binOp op t x y yt, type, pos, after, guard⟩ v := by
      rintro q hq rfl h
      obtain ⟨b, hk, _, _, hrun⟩ := eq_sound (env := env) h
      refine ⟨_, hk, fun ρ w g G hρ => ⟨_, ?_, rep_bool⟩⟩
      obtain ⟨h1, h2⟩ := hrun ρ w g (hρ x (by simp [Op.operands])) (hρ y (by simp [Op.operands])) op hq
      simp only [execOp, Sem.run_bind, h1, h2, Result.andThen_ok, Sem.run_pure]
    split at h
    · exact key .eql (.inl rfl) rfl h
    · exact key .neq (.inr rfl) rfl h
    · exact h.elim

theorem un_sound {op : UnOp} {t : TypeId} {x : Operand} (h : unA op (ρA x) K) : ∃ v, K v ∧ PureAt P env own ρA ⟨dst, .unOp op t x, type, pos, after, guard⟩ v := by
  unfold unA at h
  split at h
  · rename_i b hx
    refine ⟨_, h, fun ρ w g G hρ => ⟨.bool !b, ?_, rep_bool⟩⟩
    have e1 := (rep_v (hx ▸ hρ x (by simp [Op.operands]))).1
    simp [execOp, e1, Op.unary]
  · rename_i k n hx
    refine ⟨_, h, fun ρ w g G hρ => ⟨.int k (k.wrap (0 - n)), ?_, rep_int⟩⟩
    have e1 := (rep_v (hx ▸ hρ x (by simp [Op.operands]))).1
    simp [execOp, e1, Op.unary, Op.intArith]
  · exact h.elim

theorem conv_sound {s d : TypeId} {x : Operand} (h : convA P s d (ρA x) K) : ∃ v, K v ∧ PureAt P env own ρA ⟨dst, .convert s d x, type, pos, after, guard⟩ v := by
  unfold convA at h
  split at h
  · rename_i ds k k' n hs hd hx
    refine ⟨_, h, fun ρ w g G hρ => ⟨.int k (k.wrap n), ?_, rep_int⟩⟩
    have e1 := (rep_v (hx ▸ hρ x (by simp [Op.operands]))).1
    simp [execOp, e1, convert, underlying, hs, hd, Conv.intToInt]
  · rename_i ds st hs hd hx
    refine ⟨_, h, fun ρ w g G hρ => ⟨.string st, ?_, rep_string⟩⟩
    have e1 := (rep_v (hx ▸ hρ x (by simp [Op.operands]))).1
    simp [execOp, e1, convert, underlying, hs, hd]
  · exact h.elim

theorem fieldAddr_sound {t : TypeId} {x : Operand} {i : Nat} (h : fieldAddrA P t (ρA x) i K) : ∃ v, K v ∧ PureAt P env own ρA ⟨dst, .fieldAddr t x i, type, pos, after, guard⟩ v := by
  unfold fieldAddrA at h
  split at h
  · rename_i fs hu
    split at h
    · rename_i f hf
      cases h0 : (P.underlying f.type).isSome with
      | false => simp [h0] at h
      | true =>
        cases hz : Nat.beq (P.cellsOf f.type) 0 with
        | true => simp [hz] at h
        | false =>
          simp only [h0, hz, Bool.not_false, Bool.and_true, cond_true] at h
          have hz' : P.cellsOf f.type ≠ 0 := fun e => by rw [e] at hz; cases hz
          have run : ∀ (ρ : Operand → Value) (w : World) (b off : Nat), ρ x = .pointer (some ⟨b, off, none⟩) → (execOp ρ ⟨dst, .fieldAddr t x i, type, pos, after, guard⟩).run P w = .ok (.value (.pointer (some ⟨b, off + f.offset, none⟩))) w := by
            intro ρ w b off e
            simp [execOp, e, Instr.fieldAt, underlying, hu, hf, Instr.sureAddr, fieldPlace, run_size (info_of_und h0), hz', addr_add]
          split at h
          · rename_i b off hx
            refine ⟨_, h, fun ρ w g G hρ => ?_⟩
            obtain ⟨bb, hb, e⟩ := rep_bp (hx ▸ hρ x (by simp [Op.operands]))
            exact ⟨_, run ρ w bb off e, rep_bp_mk hb⟩
          · rename_i b off hx
            refine ⟨_, h, fun ρ w g G hρ => ?_⟩
            obtain ⟨h0, bb, hb, e⟩ := rep_xp (hx ▸ hρ x (by simp [Op.operands]))
            exact ⟨_, run ρ w bb off e, rep_xp_mk h0 hb⟩
          · rename_i l hx
            refine ⟨_, h.2, fun ρ w g G hρ => ?_⟩
            obtain ⟨b, o, cs, e, hc, hr⟩ := rep_ep (hx ▸ hρ x (by simp [Op.operands]))
            exact ⟨_, run ρ w b o e, rep_ep_mk (hc.drop f.offset (by rw [RepL.length hr]; exact h.1)) (hr.drop _)⟩
          · exact h.elim
    · exact h.elim
  · exact h.elim

theorem part_val {t : TypeId} {l : List AV} {off : Nat} (h : partA P t l off K) : ∃ v, K v ∧ ∀ (w : World) (hw : Hw) (bs : List Nat) (base : Nat) (cs : Array Value),
    RepL w hw bs base l cs.toList → ∃ u, (part t cs off).run P w = .ok u w ∧ Rep w hw bs base v u := by
  unfold partA at h
  cases hi0 : (P.underlying t).isSome with
  | false => simp [hi0] at h
  | true =>
    simp only [hi0, cond_true] at h
    have hi := info_of_und hi0
    obtain ⟨d, hd⟩ := Option.isSome_iff_exists.1 hi0
    cases ha : isAggT P t with
    | true =>
      simp only [ha, cond_true] at h
      obtain ⟨hle, hk⟩ := h
      refine ⟨_, hk, fun w hw bs base cs hr => ⟨.agg (cs.extract off (off + P.cellsOf t)), ?_, rep_agg_mk ?_⟩⟩
      · simp [part, run_isAgg hd, ha, run_size hi]
      · have := (hr.drop off).take (P.cellsOf t)
        simpa [List.drop_take, Nat.add_sub_cancel_left] using this
    | false =>
      simp only [ha, cond_false] at h
      cases hx : l[off]? with
      | none => simp [hx] at h
      | some x =>
        simp only [hx] at h
        refine ⟨x, h, fun w hw bs base cs hr => ?_⟩
        obtain ⟨v, hv, hrv, h1, h2⟩ := hr.get hx
        refine ⟨v, ?_, repV_one h2 h1 hrv⟩
        have : cs[off]? = some v := by simpa using hv
        simp [part, run_isAgg hd, ha, this]

theorem field_sound {t : TypeId} {x : Operand} {i : Nat} (h : fieldA P t (ρA x) i K) : ∃ v, K v ∧ PureAt P env own ρA ⟨dst, .field t x i, type, pos, after, guard⟩ v := by
  unfold fieldA at h
  split at h
  · rename_i fs l hu hx
    split at h
    · rename_i f hf
      obtain ⟨v, hk, hv⟩ := part_val h
      refine ⟨v, hk, fun ρ w g G hρ => ?_⟩
      obtain ⟨cs, e, hr⟩ := rep_agg (hx ▸ hρ x (by simp [Op.operands]))
      obtain ⟨u, hu', hrep⟩ := hv w g.hw g.bs env.length cs hr
      exact ⟨u, by simp [execOp, e, Instr.field, underlying, hu, hf, asAgg, hu'], hrep⟩
    · exact h.elim
  · exact h.elim

theorem byte_get (s : ByteArray) (n : Nat) (h : n < s.size) : s[n]? = some (byteAt s n) := by
  have h' : n < s.data.toList.length := by simpa using h
  have : byteAt s n = s[n] := by
    unfold byteAt
    rw [List.getD_eq_getElem?_getD, List.getElem?_eq_getElem h']
    rfl
  rw [this]
  simp [getElem?_pos, h]

theorem index_sound {t : TypeId} {x i : Operand} (h : indexA P t (ρA x) (ρA i) K) : ∃ v, K v ∧ PureAt P env own ρA ⟨dst, .index t x i, type, pos, after, guard⟩ v := by
  unfold indexA at h
  split at h
  · rename_i s k n hu hx hi
    obtain ⟨h0, h1, hk⟩ := h
    refine ⟨_, hk, fun ρ w g G hρ => ⟨_, ?_, rep_int⟩⟩
    have e1 := (rep_v (hx ▸ hρ x (by simp [Op.operands]))).1
    have e2 := (rep_v (hi ▸ hρ i (by simp [Op.operands]))).1
    simp [execOp, e1, e2, Instr.index, asIntOf, underlying, hu, h0, byte_get s n.toNat (by omega)]
  · exact h.elim

theorem indexAddr_sound {t : TypeId} {x i : Operand} (h : indexAddrA P t (ρA x) (ρA i) K) : ∃ v, K v ∧ PureAt P env own ρA ⟨dst, .indexAddr t x i, type, pos, after, guard⟩ v := by
  unfold indexAddrA at h
  split at h
  · rename_i e k l k' n hu hx hi
    cases h0 : (P.underlying e).isSome with
    | false => simp [h0] at h
    | true =>
      cases hz : Nat.beq (P.cellsOf e) k with
      | false => simp [hz] at h
      | true =>
        have hz' : P.cellsOf e = k := Nat.eq_of_beq_eq_true hz
        simp only [h0, hz, Bool.and_true, cond_true] at h
        obtain ⟨h1, h2, hk⟩ := h
        refine ⟨_, hk, fun ρ w g G hρ => ?_⟩
        obtain ⟨a, c, ey, hlc, hk0, hh⟩ := rep_sl (hx ▸ hρ x (by simp [Op.operands]))
        have e2 := (rep_v (hi ▸ hρ i (by simp [Op.operands]))).1
        have hn : n.toNat < l.length := by omega
        rcases hh with rfl | ⟨b, o, cs, rfl, hc, hr⟩
        · simp at hn
        · have hget : l[n.toNat]? = some (l.getD n.toNat .top) := by rw [List.getD_eq_getElem?_getD, List.getElem?_eq_getElem hn]; rfl
          obtain ⟨hc', hr'⟩ := rep_sliceAddr hk0 hc hr hget
          refine ⟨_, ?_, rep_ep_mk hc' hr'⟩
          simp [execOp, ey, e2, Instr.indexAt, asIntOf, underlying, hu, h1, h2, run_size (info_of_und h0), hz', addr_add]
  · rename_i e b off k m cp k' n hu hx hi
    cases h0 : (P.underlying e).isSome with
    | false => simp [h0] at h
    | true =>
      cases hz : Nat.beq (P.cellsOf e) k with
      | false => simp [hz] at h
      | true =>
        have hz' : P.cellsOf e = k := Nat.eq_of_beq_eq_true hz
        simp only [h0, hz, Bool.and_true, cond_true] at h
        obtain ⟨h1, h2, hk⟩ := h
        refine ⟨_, hk, fun ρ w g G hρ => ?_⟩
        obtain ⟨q, hb, _, _, _, ey⟩ := rep_bs (hx ▸ hρ x (by simp [Op.operands]))
        have e2 := (rep_v (hi ▸ hρ i (by simp [Op.operands]))).1
        refine ⟨_, ?_, rep_bp_mk hb⟩
        simp [execOp, ey, e2, Instr.indexAt, asIntOf, underlying, hu, h1, h2, run_size (info_of_und h0), hz', addr_add]
  · rename_i e b off k m cp k' n hu hx hi
    cases h0 : (P.underlying e).isSome with
    | false => simp [h0] at h
    | true =>
      cases hz : Nat.beq (P.cellsOf e) k with
      | false => simp [hz] at h
      | true =>
        have hz' : P.cellsOf e = k := Nat.eq_of_beq_eq_true hz
        simp only [h0, hz, Bool.and_true, cond_true] at h
        obtain ⟨h1, h2, hk⟩ := h
        refine ⟨_, hk, fun ρ w g G hρ => ?_⟩
        obtain ⟨hib, q, hb, _, _, _, ey⟩ := rep_xs (hx ▸ hρ x (by simp [Op.operands]))
        have e2 := (rep_v (hi ▸ hρ i (by simp [Op.operands]))).1
        refine ⟨_, ?_, rep_xp_mk hib hb⟩
        simp [execOp, ey, e2, Instr.indexAt, asIntOf, underlying, hu, h1, h2, run_size (info_of_und h0), hz', addr_add]
  · exact h.elim

theorem load_sound {t : TypeId} {x : Operand} (h : loadA P env own t (ρA x) K) : ∃ v, K v ∧ PureAt P env own ρA ⟨dst, .load t x, type, pos, after, guard⟩ v := by
  unfold loadA at h
  split at h
  · rename_i i off hx
    split at h
    · rename_i l os hl
      obtain ⟨v, hk, hv⟩ := part_load h
      refine ⟨v, hk, fun ρ w g G hρ => ?_⟩
      obtain ⟨b, hb, e⟩ := rep_bp (hx ▸ hρ x (by simp [Op.operands]))
      obtain ⟨cs, et, hheap, hr, _⟩ := G.own_box hl hb
      obtain ⟨u, hu, hrep⟩ := hv w g.hw g.bs env.length b 0 cs.toList (cells_of_block hheap) hr
      exact ⟨u, by simp only [Nat.zero_add] at hu; simp [execOp, e, Instr.loadAt, Instr.sureAddr, hu], hrep⟩
    · exact h.elim
  · rename_i i off hx
    obtain ⟨l, os, hl, h⟩ := h
    obtain ⟨v, hk, hv⟩ := part_load h
    refine ⟨v, hk, fun ρ w g G hρ => ?_⟩
    obtain ⟨_, b, hb, e⟩ := rep_xp (hx ▸ hρ x (by simp [Op.operands]))
    obtain ⟨cs, et, hheap, hr, _⟩ := G.env_box hl hb
    obtain ⟨u, hu, hrep⟩ := hv w g.hw g.bs env.length b 0 cs.toList (cells_of_block hheap) hr
    exact ⟨u, by simp only [Nat.zero_add] at hu; simp [execOp, e, Instr.loadAt, Instr.sureAddr, hu], hrep⟩
  · rename_i l hx
    obtain ⟨v, hk, hv⟩ := part_load h
    refine ⟨v, hk, fun ρ w g G hρ => ?_⟩
    obtain ⟨b, o, cs, e, hc, hr⟩ := rep_ep (hx ▸ hρ x (by simp [Op.operands]))
    obtain ⟨u, hu, hrep⟩ := hv w g.hw [] 0 b o cs hc.at hr
    refine ⟨u, by simp only [Nat.add_zero] at hu; simp [execOp, e, Instr.loadAt, Instr.sureAddr, hu], hrep.lift⟩
  · exact h.elim

theorem bound_sound {x : Option Operand} {d : Nat} {K : Nat → Prop} {most : Nat} (h : boundA (x.map ρA) d K most) :
    ∃ n, K n ∧ (x = none → n = d) ∧ (x ≠ none → n ≤ most) ∧ ∀ (ρ : Operand → Value) (w : World) (hw : Hw) (bs : List Nat) (base : Nat), (∀ y, x = some y → Rep w hw bs base (ρA y) (ρ y)) →
      ∀ y, x = some y → ∃ k m, ρ y = .int k m ∧ 0 ≤ m ∧ m ≤ most ∧ m.toNat = n := by
  cases x with
  | none => exact ⟨d, h, fun _ => rfl, fun h => absurd rfl h, fun _ _ _ _ _ _ y e => by cases e⟩
  | some y =>
    simp only [Option.map_some, boundA] at h
    split at h
    · rename_i e; cases e
    · rename_i k n e
      simp only [Option.some.injEq] at e
      obtain ⟨h0, h1, hk⟩ := h
      refine ⟨n.toNat, hk, (fun h => by cases h), (fun _ => by omega), fun ρ w hw bs base hρ z ez => ?_⟩
      cases ez
      have := hρ y rfl
      rw [e] at this
      exact ⟨k, n, (rep_v this).1, h0, h1, rfl⟩
    · exact h.elim

theorem slice_sound {t : TypeId} {x : Operand} {lo hi mx : Option Operand} (h : sliceA P t (ρA x) (lo.map ρA) (hi.map ρA) (mx.map ρA) K) : ∃ v, K v ∧ PureAt P env own ρA ⟨dst, .slice t x lo hi mx, type, pos, after, guard⟩ v := by
  have hmem : ∀ y, (lo = some y ∨ hi = some y ∨ mx = some y ∨ y = x) → y ∈ (Op.slice t x lo hi mx).operands := by
    intro y h
    rcases h with rfl | rfl | rfl | rfl <;> simp [Op.operands]
  unfold sliceA at h
  split at h
  · rename_i s hm hu hx
    have hm' : mx = none := by cases mx <;> simp_all
    subst hm'
    obtain ⟨nh, h, h1, h2, h3⟩ := bound_sound h
    obtain ⟨nl, h, l1, l2, l3⟩ := bound_sound h
    refine ⟨_, h, fun ρ w g G hρ => ⟨_, ?_, rep_string⟩⟩
    have e1 := (rep_v (hx ▸ hρ x (hmem x (by simp)))).1
    have H := h3 ρ w g.hw g.bs env.length (fun y e => hρ y (hmem y (by simp [e])))
    have L := l3 ρ w g.hw g.bs env.length (fun y e => hρ y (hmem y (by simp [e])))
    have run : (Instr.slice t (.string s) (lo.map ρ) (hi.map ρ) none).run P w = .ok (.string (s.extract nl nh)) w := by
      cases hi with
      | none =>
        have := h1 rfl; subst this
        cases lo with
        | none => have := l1 rfl; subst this; simp [Instr.slice, run_und hu, Instr.sliceBounds]
        | some y =>
          obtain ⟨k, m, ey, h0, hm, rfl⟩ := L y rfl
          simp [Instr.slice, run_und hu, Instr.sliceBounds, ey, sliceBound_run h0 hm]
      | some z =>
        obtain ⟨k', m', ez, h0', hm', rfl⟩ := H z rfl
        cases lo with
        | none => have := l1 rfl; subst this; simp [Instr.slice, run_und hu, Instr.sliceBounds, ez, sliceBound_run h0' hm']
        | some y =>
          obtain ⟨k, m, ey, h0, hm, rfl⟩ := L y rfl
          simp [Instr.slice, run_und hu, Instr.sliceBounds, ey, ez, sliceBound_run h0' hm', sliceBound_run h0 hm]
    have run' : (Instr.sliceAt t (.string s) (lo.map ρ) (hi.map ρ) none).run P w = .ok (.string (s.extract nl nh)) w := by
      simp only [Instr.sliceAt, Sem.run_bind, run_und hu, Result.andThen_ok]; exact run
    simp [execOp, e1, run']
  · rename_i e k l hm hu hx
    have hm' : mx = none := by cases mx <;> simp_all
    subst hm'
    cases hz0 : (P.underlying e).isSome with
    | false => simp [hz0] at h
    | true =>
      cases hz : Nat.beq (P.cellsOf e) k with
      | false => simp [hz] at h
      | true =>
        have hz' : P.cellsOf e = k := Nat.eq_of_beq_eq_true hz
        simp only [hz0, hz, Bool.and_true, cond_true] at h
        obtain ⟨nh, h, h1, h2, h3⟩ := bound_sound h
        obtain ⟨nl, h, l1, l2, l3⟩ := bound_sound h
        refine ⟨_, h, fun ρ w g G hρ => ?_⟩
        obtain ⟨a, c, ey, hlc, hk0, hh⟩ := rep_sl (hx ▸ hρ x (hmem x (by simp)))
        have hfit := rep_fits (hx ▸ hρ x (hmem x (by simp)))
        have H := h3 ρ w g.hw g.bs env.length (fun y e => hρ y (hmem y (by simp [e])))
        have L := l3 ρ w g.hw g.bs env.length (fun y e => hρ y (hmem y (by simp [e])))
        have hnh : nh ≤ l.length := by cases hi with
          | none => rw [h1 rfl]; exact Nat.le_refl _
          | some z => exact h2 (by simp)
        have hnl : nl ≤ nh := by cases lo with
          | none => rw [l1 rfl]; omega
          | some z => exact l2 (by simp)
        have bnd : (Instr.sliceBounds true l.length c (lo.map ρ) (hi.map ρ) none).run P w = .ok (nl, nh, c) w := by
          cases hi with
          | none =>
            have := h1 rfl; subst this
            cases lo with
            | none => have := l1 rfl; subst this; simp [Instr.sliceBounds]
            | some y =>
              obtain ⟨k, m, ey, h0, hm, rfl⟩ := L y rfl
              simp [Instr.sliceBounds, ey, sliceBound_run h0 hm]
          | some z =>
            obtain ⟨k', m', ez, h0', hm', rfl⟩ := H z rfl
            have hmc : m' ≤ c := by omega
            cases lo with
            | none => have := l1 rfl; subst this; simp [Instr.sliceBounds, ez, sliceBound_run h0' hmc]
            | some y =>
              obtain ⟨k, m, ey, h0, hm, rfl⟩ := L y rfl
              simp [Instr.sliceBounds, ey, ez, sliceBound_run h0' hmc, sliceBound_run h0 hm]
        have run : (Instr.sliceAt t (.slice a l.length c) (lo.map ρ) (hi.map ρ) none).run P w = .ok (.slice (if c = nl then a else a.map (·.add (nl * k))) (nh - nl) (c - nl)) w := by
          simp only [Instr.sliceAt, Instr.slice, Sem.run_bind, run_und hu, Result.andThen_ok, bnd, run_size (info_of_und hz0), hz', Sem.run_pure]
        have len : ((l.take nh).drop nl).length = nh - nl := by simp; omega
        refine ⟨.slice (if c = nl then a else a.map (·.add (nl * k))) (nh - nl) (c - nl), by simp [execOp, ey, run], rep_sl_mk len.symm (by rw [len]; omega) ⟨hk0, by rw [len]; have := hfit.2; omega⟩ ?_⟩
        rcases hh with rfl | ⟨b, o, cs, rfl, hc, hr⟩
        · exact .inl (by simp)
        · by_cases hcn : c = nl
          · left
            apply List.eq_nil_of_length_eq_zero
            rw [len]; omega
          · right
            have hl := RepE.len hr
            have hlek : nl * k ≤ nh * k := Nat.mul_le_mul_right _ hnl
            have hlek' : nh * k ≤ l.length * k := Nat.mul_le_mul_right _ hnh
            refine ⟨b, o + nl * k, (cs.take (nh * k)).drop (nl * k), by simp [hcn, addr_add], (hc.take _).drop _ (by simp; omega), (hr.take nh).drop nl⟩
  · rename_i e i off k n c hm hu hx
    have hm' : mx = none := by cases mx <;> simp_all
    subst hm'
    cases hz0 : (P.underlying e).isSome with
    | false => simp [hz0] at h
    | true =>
      cases hz : Nat.beq (P.cellsOf e) k with
      | false => simp [hz] at h
      | true =>
        have hz' : P.cellsOf e = k := Nat.eq_of_beq_eq_true hz
        simp only [hz0, hz, Bool.and_true, cond_true] at h
        obtain ⟨nh, h, h1, h2, h3⟩ := bound_sound h
        obtain ⟨nl, h, l1, l2, l3⟩ := bound_sound h
        refine ⟨_, h, fun ρ w g G hρ => ?_⟩
        obtain ⟨b, hb, hk0, hnc, hc47, ey⟩ := rep_bs (hx ▸ hρ x (hmem x (by simp)))
        have H := h3 ρ w g.hw g.bs env.length (fun y e => hρ y (hmem y (by simp [e])))
        have L := l3 ρ w g.hw g.bs env.length (fun y e => hρ y (hmem y (by simp [e])))
        have hnh : nh ≤ c := by cases hi with
          | none => rw [h1 rfl]; exact hnc
          | some z => exact h2 (by simp)
        have hnl : nl ≤ nh := by cases lo with
          | none => rw [l1 rfl]; omega
          | some z => exact l2 (by simp)
        have bnd : (Instr.sliceBounds true n c (lo.map ρ) (hi.map ρ) none).run P w = .ok (nl, nh, c) w := by
          cases hi with
          | none =>
            have := h1 rfl; subst this
            cases lo with
            | none => have := l1 rfl; subst this; simp [Instr.sliceBounds]
            | some y =>
              obtain ⟨k, m, ey, h0, hm, rfl⟩ := L y rfl
              simp [Instr.sliceBounds, ey, sliceBound_run h0 hm]
          | some z =>
            obtain ⟨k', m', ez, h0', hm', rfl⟩ := H z rfl
            cases lo with
            | none => have := l1 rfl; subst this; simp [Instr.sliceBounds, ez, sliceBound_run h0' hm']
            | some y =>
              obtain ⟨k, m, ey, h0, hm, rfl⟩ := L y rfl
              simp [Instr.sliceBounds, ey, ez, sliceBound_run h0' hm', sliceBound_run h0 hm]
        have run : (Instr.sliceAt t (.slice (some ⟨b, off, none⟩) n c) (lo.map ρ) (hi.map ρ) none).run P w = .ok (.slice (some ⟨b, bif Nat.beq c nl then off else off + nl * k, none⟩) (nh - nl) (c - nl)) w := by
          simp only [Instr.sliceAt, Instr.slice, Sem.run_bind, run_und hu, Result.andThen_ok, bnd, run_size (info_of_und hz0), hz', Sem.run_pure]
          by_cases hcn : c = nl
          · have : Nat.beq c nl = true := by rw [hcn]; exact Nat.beq_refl _
            rw [if_pos hcn, this]; rfl
          · have : Nat.beq c nl = false := Bool.eq_false_iff.2 fun e => hcn (Nat.eq_of_beq_eq_true e)
            rw [if_neg hcn, this]; simp [addr_add]
        exact ⟨.slice (some ⟨b, bif Nat.beq c nl then off else off + nl * k, none⟩) (nh - nl) (c - nl), by simp [execOp, ey, run], rep_mk_leaf rfl rfl (by simp only [RepV]; exact ⟨b, hb, hk0, by omega, by omega, rfl⟩)⟩
  · rename_i e i off k n c hm hu hx
    have hm' : mx = none := by cases mx <;> simp_all
    subst hm'
    cases hz0 : (P.underlying e).isSome with
    | false => simp [hz0] at h
    | true =>
      cases hz : Nat.beq (P.cellsOf e) k with
      | false => simp [hz] at h
      | true =>
        have hz' : P.cellsOf e = k := Nat.eq_of_beq_eq_true hz
        simp only [hz0, hz, Bool.and_true, cond_true] at h
        obtain ⟨nh, h, h1, h2, h3⟩ := bound_sound h
        obtain ⟨nl, h, l1, l2, l3⟩ := bound_sound h
        refine ⟨_, h, fun ρ w g G hρ => ?_⟩
        obtain ⟨hib, b, hb, hk0, hnc, hc47, ey⟩ := rep_xs (hx ▸ hρ x (hmem x (by simp)))
        have H := h3 ρ w g.hw g.bs env.length (fun y e => hρ y (hmem y (by simp [e])))
        have L := l3 ρ w g.hw g.bs env.length (fun y e => hρ y (hmem y (by simp [e])))
        have hnh : nh ≤ c := by cases hi with
          | none => rw [h1 rfl]; exact hnc
          | some z => exact h2 (by simp)
        have hnl : nl ≤ nh := by cases lo with
          | none => rw [l1 rfl]; omega
          | some z => exact l2 (by simp)
        have bnd : (Instr.sliceBounds true n c (lo.map ρ) (hi.map ρ) none).run P w = .ok (nl, nh, c) w := by
          cases hi with
          | none =>
            have := h1 rfl; subst this
            cases lo with
            | none => have := l1 rfl; subst this; simp [Instr.sliceBounds]
            | some y =>
              obtain ⟨k, m, ey, h0, hm, rfl⟩ := L y rfl
              simp [Instr.sliceBounds, ey, sliceBound_run h0 hm]
          | some z =>
            obtain ⟨k', m', ez, h0', hm', rfl⟩ := H z rfl
            cases lo with
            | none => have := l1 rfl; subst this; simp [Instr.sliceBounds, ez, sliceBound_run h0' hm']
            | some y =>
              obtain ⟨k, m, ey, h0, hm, rfl⟩ := L y rfl
              simp [Instr.sliceBounds, ey, ez, sliceBound_run h0' hm', sliceBound_run h0 hm]
        have run : (Instr.sliceAt t (.slice (some ⟨b, off, none⟩) n c) (lo.map ρ) (hi.map ρ) none).run P w = .ok (.slice (some ⟨b, bif Nat.beq c nl then off else off + nl * k, none⟩) (nh - nl) (c - nl)) w := by
          simp only [Instr.sliceAt, Instr.slice, Sem.run_bind, run_und hu, Result.andThen_ok, bnd, run_size (info_of_und hz0), hz', Sem.run_pure]
          by_cases hcn : c = nl
          · have : Nat.beq c nl = true := by rw [hcn]; exact Nat.beq_refl _
            rw [if_pos hcn, this]; rfl
          · have : Nat.beq c nl = false := Bool.eq_false_iff.2 fun e => hcn (Nat.eq_of_beq_eq_true e)
            rw [if_neg hcn, this]; simp [addr_add]
        exact ⟨.slice (some ⟨b, bif Nat.beq c nl then off else off + nl * k, none⟩) (nh - nl) (c - nl), by simp [execOp, ey, run], rep_mk_leaf rfl rfl (by simp only [RepV]; exact ⟨hib, b, hb, hk0, by omega, by omega, rfl⟩)⟩
  · rename_i mo e k l hm hu hx
    obtain ⟨zm, rfl, hmo⟩ : ∃ zm, mx = some zm ∧ ρA zm = mo := by cases mx <;> simp_all
    subst hmo
    cases hi with
    | none => simp at h
    | some zh =>
    cases hz0 : (P.underlying e).isSome with
    | false => simp [hz0] at h
    | true =>
      cases hz : Nat.beq (P.cellsOf e) k with
      | false => simp [hz] at h
      | true =>
        have hz' : P.cellsOf e = k := Nat.eq_of_beq_eq_true hz
        simp only [hz0, hz, Option.map_some, Option.isSome_some, Bool.and_true, cond_true] at h
        obtain ⟨nm, h, _, m2, m3⟩ := bound_sound (x := some zm) h
        obtain ⟨nh, h, _, h2, h3⟩ := bound_sound (x := some zh) h
        obtain ⟨nl, h, l1, l2, l3⟩ := bound_sound h
        refine ⟨_, h, fun ρ w g G hρ => ?_⟩
        obtain ⟨a, c, ey, hlc, hk0, hh⟩ := rep_sl (hx ▸ hρ x (hmem x (by simp)))
        have hfit := rep_fits (hx ▸ hρ x (hmem x (by simp)))
        have M := m3 ρ w g.hw g.bs env.length (fun y e => hρ y (hmem y (by simp at e; simp [e])))
        have H := h3 ρ w g.hw g.bs env.length (fun y e => hρ y (hmem y (by simp at e; simp [e])))
        have L := l3 ρ w g.hw g.bs env.length (fun y e => hρ y (hmem y (by simp [e])))
        have hnm : nm ≤ l.length := m2 (by simp)
        have hnh : nh ≤ nm := h2 (by simp)
        have hnl : nl ≤ nh := by cases lo with
          | none => rw [l1 rfl]; omega
          | some z => exact l2 (by simp)
        have bnd : (Instr.sliceBounds true l.length c (lo.map ρ) (some (ρ zh)) (some (ρ zm))).run P w = .ok (nl, nh, nm) w := by
          obtain ⟨k'', m'', em, h0'', hm'', rfl⟩ := M zm rfl
          obtain ⟨k', m', ez, h0', hm', rfl⟩ := H zh rfl
          have hmc : m'' ≤ c := by omega
          cases lo with
          | none => have := l1 rfl; subst this; simp [Instr.sliceBounds, ez, em, sliceBound_run h0' hm', sliceBound_run h0'' hmc]
          | some y =>
            obtain ⟨k, m, ey, h0, hm, rfl⟩ := L y rfl
            simp [Instr.sliceBounds, ey, ez, em, sliceBound_run h0' hm', sliceBound_run h0'' hmc, sliceBound_run h0 hm]
        have run : (Instr.sliceAt t (.slice a l.length c) (lo.map ρ) (some (ρ zh)) (some (ρ zm))).run P w = .ok (.slice (if nm = nl then a else a.map (·.add (nl * k))) (nh - nl) (nm - nl)) w := by
          simp only [Instr.sliceAt, Instr.slice, Sem.run_bind, run_und hu, Result.andThen_ok, bnd, run_size (info_of_und hz0), hz', Sem.run_pure]
        have len : ((l.take nh).drop nl).length = nh - nl := by simp; omega
        refine ⟨.slice (if nm = nl then a else a.map (·.add (nl * k))) (nh - nl) (nm - nl), by simp [execOp, ey, run], rep_sl_mk len.symm (by rw [len]; omega) ⟨hk0, by rw [len]; have := hfit.2; omega⟩ ?_⟩
        rcases hh with rfl | ⟨b, o, cs, rfl, hc, hr⟩
        · exact .inl (by simp)
        · by_cases hcn : nm = nl
          · left
            apply List.eq_nil_of_length_eq_zero
            rw [len]; omega
          · right
            have hl := RepE.len hr
            have hlek : nl * k ≤ nh * k := Nat.mul_le_mul_right _ hnl
            have hlek' : nh * k ≤ l.length * k := Nat.mul_le_mul_right _ (by omega)
            refine ⟨b, o + nl * k, (cs.take (nh * k)).drop (nl * k), by simp [hcn, addr_add], (hc.take _).drop _ (by simp; omega), (hr.take nh).drop nl⟩
  · rename_i mo e i off k n c hm hu hx
    obtain ⟨zm, rfl, hmo⟩ : ∃ zm, mx = some zm ∧ ρA zm = mo := by cases mx <;> simp_all
    subst hmo
    cases hi with
    | none => simp at h
    | some zh =>
    cases hz0 : (P.underlying e).isSome with
    | false => simp [hz0] at h
    | true =>
      cases hz : Nat.beq (P.cellsOf e) k with
      | false => simp [hz] at h
      | true =>
        have hz' : P.cellsOf e = k := Nat.eq_of_beq_eq_true hz
        simp only [hz0, hz, Option.map_some, Option.isSome_some, Bool.and_true, cond_true] at h
        obtain ⟨nm, h, _, m2, m3⟩ := bound_sound (x := some zm) h
        obtain ⟨nh, h, _, h2, h3⟩ := bound_sound (x := some zh) h
        obtain ⟨nl, h, l1, l2, l3⟩ := bound_sound h
        refine ⟨_, h, fun ρ w g G hρ => ?_⟩
        obtain ⟨b, hb, hk0, hnc, hc47, ey⟩ := rep_bs (hx ▸ hρ x (hmem x (by simp)))
        have M := m3 ρ w g.hw g.bs env.length (fun y e => hρ y (hmem y (by simp at e; simp [e])))
        have H := h3 ρ w g.hw g.bs env.length (fun y e => hρ y (hmem y (by simp at e; simp [e])))
        have L := l3 ρ w g.hw g.bs env.length (fun y e => hρ y (hmem y (by simp [e])))
        have hnm : nm ≤ c := m2 (by simp)
        have hnh : nh ≤ nm := h2 (by simp)
        have hnl : nl ≤ nh := by cases lo with
          | none => rw [l1 rfl]; omega
          | some z => exact l2 (by simp)
        have bnd : (Instr.sliceBounds true n c (lo.map ρ) (some (ρ zh)) (some (ρ zm))).run P w = .ok (nl, nh, nm) w := by
          obtain ⟨k'', m'', em, h0'', hm'', rfl⟩ := M zm rfl
          obtain ⟨k', m', ez, h0', hm', rfl⟩ := H zh rfl
          cases lo with
          | none => have := l1 rfl; subst this; simp [Instr.sliceBounds, ez, em, sliceBound_run h0' hm', sliceBound_run h0'' hm'']
          | some y =>
            obtain ⟨k, m, ey, h0, hm, rfl⟩ := L y rfl
            simp [Instr.sliceBounds, ey, ez, em, sliceBound_run h0' hm', sliceBound_run h0'' hm'', sliceBound_run h0 hm]
        have run : (Instr.sliceAt t (.slice (some ⟨b, off, none⟩) n c) (lo.map ρ) (some (ρ zh)) (some (ρ zm))).run P w = .ok (.slice (some ⟨b, bif Nat.beq nm nl then off else off + nl * k, none⟩) (nh - nl) (nm - nl)) w := by
          simp only [Instr.sliceAt, Instr.slice, Sem.run_bind, run_und hu, Result.andThen_ok, bnd, run_size (info_of_und hz0), hz', Sem.run_pure]
          by_cases hcn : nm = nl
          · have : Nat.beq nm nl = true := by rw [hcn]; exact Nat.beq_refl _
            rw [if_pos hcn, this]; rfl
          · have : Nat.beq nm nl = false := Bool.eq_false_iff.2 fun e => hcn (Nat.eq_of_beq_eq_true e)
            rw [if_neg hcn, this]; simp [addr_add]
        exact ⟨.slice (some ⟨b, bif Nat.beq nm nl then off else off + nl * k, none⟩) (nh - nl) (nm - nl), by simp [execOp, ey, run], rep_mk_leaf rfl rfl (by simp only [RepV]; exact ⟨b, hb, hk0, by omega, by omega, rfl⟩)⟩
  · rename_i mo e i off k n c hm hu hx
    obtain ⟨zm, rfl, hmo⟩ : ∃ zm, mx = some zm ∧ ρA zm = mo := by cases mx <;> simp_all
    subst hmo
    cases hi with
    | none => simp at h
    | some zh =>
    cases hz0 : (P.underlying e).isSome with
    | false => simp [hz0] at h
    | true =>
      cases hz : Nat.beq (P.cellsOf e) k with
      | false => simp [hz] at h
      | true =>
        have hz' : P.cellsOf e = k := Nat.eq_of_beq_eq_true hz
        simp only [hz0, hz, Option.map_some, Option.isSome_some, Bool.and_true, cond_true] at h
        obtain ⟨nm, h, _, m2, m3⟩ := bound_sound (x := some zm) h
        obtain ⟨nh, h, _, h2, h3⟩ := bound_sound (x := some zh) h
        obtain ⟨nl, h, l1, l2, l3⟩ := bound_sound h
        refine ⟨_, h, fun ρ w g G hρ => ?_⟩
        obtain ⟨hib, b, hb, hk0, hnc, hc47, ey⟩ := rep_xs (hx ▸ hρ x (hmem x (by simp)))
        have M := m3 ρ w g.hw g.bs env.length (fun y e => hρ y (hmem y (by simp at e; simp [e])))
        have H := h3 ρ w g.hw g.bs env.length (fun y e => hρ y (hmem y (by simp at e; simp [e])))
        have L := l3 ρ w g.hw g.bs env.length (fun y e => hρ y (hmem y (by simp [e])))
        have hnm : nm ≤ c := m2 (by simp)
        have hnh : nh ≤ nm := h2 (by simp)
        have hnl : nl ≤ nh := by cases lo with
          | none => rw [l1 rfl]; omega
          | some z => exact l2 (by simp)
        have bnd : (Instr.sliceBounds true n c (lo.map ρ) (some (ρ zh)) (some (ρ zm))).run P w = .ok (nl, nh, nm) w := by
          obtain ⟨k'', m'', em, h0'', hm'', rfl⟩ := M zm rfl
          obtain ⟨k', m', ez, h0', hm', rfl⟩ := H zh rfl
          cases lo with
          | none => have := l1 rfl; subst this; simp [Instr.sliceBounds, ez, em, sliceBound_run h0' hm', sliceBound_run h0'' hm'']
          | some y =>
            obtain ⟨k, m, ey, h0, hm, rfl⟩ := L y rfl
            simp [Instr.sliceBounds, ey, ez, em, sliceBound_run h0' hm', sliceBound_run h0'' hm'', sliceBound_run h0 hm]
        have run : (Instr.sliceAt t (.slice (some ⟨b, off, none⟩) n c) (lo.map ρ) (some (ρ zh)) (some (ρ zm))).run P w = .ok (.slice (some ⟨b, bif Nat.beq nm nl then off else off + nl * k, none⟩) (nh - nl) (nm - nl)) w := by
          simp only [Instr.sliceAt, Instr.slice, Sem.run_bind, run_und hu, Result.andThen_ok, bnd, run_size (info_of_und hz0), hz', Sem.run_pure]
          by_cases hcn : nm = nl
          · have : Nat.beq nm nl = true := by rw [hcn]; exact Nat.beq_refl _
            rw [if_pos hcn, this]; rfl
          · have : Nat.beq nm nl = false := Bool.eq_false_iff.2 fun e => hcn (Nat.eq_of_beq_eq_true e)
            rw [if_neg hcn, this]; simp [addr_add]
        exact ⟨.slice (some ⟨b, bif Nat.beq nm nl then off else off + nl * k, none⟩) (nh - nl) (nm - nl), by simp [execOp, ey, run], rep_mk_leaf rfl rfl (by simp only [RepV]; exact ⟨hib, b, hb, hk0, by omega, by omega, rfl⟩)⟩
  · rename_i e hm hu hx
    have hm' : mx = none := by cases mx <;> simp_all
    subst hm'
    cases hz0 : (P.underlying e).isSome with
    | false => simp [hz0] at h
    | true =>
      simp only [hz0, cond_true] at h
      obtain ⟨nh, h, h1, h2, h3⟩ := bound_sound h
      obtain ⟨nl, h, l1, l2, l3⟩ := bound_sound h
      refine ⟨_, h, fun ρ w g G hρ => ⟨_, ?_, rep_v_mk rfl⟩⟩
      have ey := (rep_v (hx ▸ hρ x (hmem x (by simp)))).1
      have H := h3 ρ w g.hw g.bs env.length (fun y e => hρ y (hmem y (by simp [e])))
      have L := l3 ρ w g.hw g.bs env.length (fun y e => hρ y (hmem y (by simp [e])))
      have hnh : nh = 0 := by cases hi with
        | none => exact h1 rfl
        | some z => have := h2 (by simp); omega
      have hnl : nl = 0 := by cases lo with
        | none => exact l1 rfl
        | some z => have := l2 (by simp); omega
      have bnd : (Instr.sliceBounds true 0 0 (lo.map ρ) (hi.map ρ) none).run P w = .ok (0, 0, 0) w := by
        cases hi with
        | none =>
          cases lo with
          | none => simp [Instr.sliceBounds]
          | some y =>
            obtain ⟨k, m, ey, h0, hm, hh⟩ := L y rfl
            obtain rfl : m = 0 := by omega
            simp [Instr.sliceBounds, ey, sliceBound_run]
        | some z =>
          obtain ⟨k', m', ez, h0', hm', hh'⟩ := H z rfl
          obtain rfl : m' = 0 := by omega
          cases lo with
          | none => simp [Instr.sliceBounds, ez, sliceBound_run]
          | some y =>
            obtain ⟨k, m, ey, h0, hm, hh⟩ := L y rfl
            obtain rfl : m = 0 := by omega
            simp [Instr.sliceBounds, ey, ez, sliceBound_run]
      have run : (Instr.sliceAt t (.slice none 0 0) (lo.map ρ) (hi.map ρ) none).run P w = .ok (.slice none 0 0) w := by
        simp only [Instr.sliceAt, Instr.slice, Sem.run_bind, run_und hu, Result.andThen_ok, bnd, run_size (info_of_und hz0), Sem.run_pure]
        simp
      simp [execOp, ey, run]
  · exact h.elim

theorem len_sound {t : TypeId} {x : Operand} (h : lenA P own env t (ρA x) K) : ∃ v, K v ∧ PureAt P env own ρA ⟨dst, .call ⟨.builtin .len, #[x], #[t]⟩, type, pos, after, guard⟩ v := by
  have hmem : x ∈ (Op.call ⟨.builtin .len, #[x], #[t]⟩).operands := by simp [Op.operands, Call.operands]
  have main : ∀ (v : AV) (u : (Operand → Value) → World → Gh → Value), K v → (∀ (ρ : Operand → Value) w g, Good w g (env ++ own) env.length → Rep w g.hw g.bs env.length (ρA x) (ρ x) → (Builtin.len_ #[t] type #[ρ x]).run P w = .ok (u ρ w g) w ∧ Rep w g.hw g.bs env.length v (u ρ w g)) →
      ∃ v, K v ∧ PureAt P env own ρA ⟨dst, .call ⟨.builtin .len, #[x], #[t]⟩, type, pos, after, guard⟩ v := by
    intro v u hk hr
    refine ⟨v, hk, fun ρ w g G hρ => ⟨u ρ w g, ?_, (hr ρ w g G (hρ x hmem)).2⟩⟩
    have := (hr ρ w g G (hρ x hmem)).1
    simp [execOp, resolve, invoke, builtin, this]
  unfold lenA at h
  split at h
  · rename_i s hu hx
    refine main _ (fun _ _ _ => goInt s.size) h fun ρ w g G hr => ?_
    have e1 := (rep_v (hx ▸ hr)).1
    exact ⟨by simp [Builtin.len_, e1, run_und hu], rep_int⟩
  · rename_i e k l hu hx
    refine main _ (fun _ _ _ => goInt l.length) h fun ρ w g G hr => ?_
    obtain ⟨a, c, ey, _⟩ := rep_sl (hx ▸ hr)
    exact ⟨by simp [Builtin.len_, ey, run_und hu], rep_int⟩
  · rename_i e n c hu hx
    refine main _ (fun _ _ _ => goInt n) h fun ρ w g G hr => ?_
    have e1 := (rep_v (hx ▸ hr)).1
    exact ⟨by simp [Builtin.len_, e1, run_und hu], rep_int⟩
  · rename_i e i off k n c hu hx
    refine main _ (fun _ _ _ => goInt n) h fun ρ w g G hr => ?_
    obtain ⟨b, hb, _, _, _, ey⟩ := rep_bs (hx ▸ hr)
    exact ⟨by simp [Builtin.len_, ey, run_und hu], rep_int⟩
  · rename_i e i off k n c hu hx
    refine main _ (fun _ _ _ => goInt n) h fun ρ w g G hr => ?_
    obtain ⟨_, b, hb, _, _, _, ey⟩ := rep_xs (hx ▸ hr)
    exact ⟨by simp [Builtin.len_, ey, run_und hu], rep_int⟩
  · rename_i k e i hu hx
    split at h
    · rename_i l hl
      refine main _ (fun _ _ _ => goInt l.length) h fun ρ w g G hr => ?_
      obtain ⟨b, hb, e1⟩ := rep_mo (hx ▸ hr)
      obtain ⟨es, n, hheap, hm⟩ := G.own_box hl hb
      have hlen : es.size = l.length := by
        have : ∀ (l : List (ByteArray × AV)) (es : List MapEntry), RepM w g.hw l es → es.length = l.length := by
          intro l
          induction l with
          | nil => intro es h; simp only [RepM] at h; subst h; rfl
          | cons p l ih => intro es h; obtain ⟨k, x⟩ := p; simp only [RepM] at h; obtain ⟨e, es', rfl, _, _, h⟩ := h; simp [ih _ h]
        simpa using this l es.toList hm
      exact ⟨by simp [Builtin.len_, e1, run_und hu, getObj, Sem.run, hheap, hlen], rep_int⟩
    · exact h.elim
  · rename_i k e i hu hx
    split at h
    · rename_i l hl
      refine main _ (fun _ _ _ => goInt l.length) h fun ρ w g G hr => ?_
      obtain ⟨_, b, hb, e1⟩ := rep_mx (hx ▸ hr)
      obtain ⟨es, n, hheap, hm⟩ := G.env_box hl hb
      have hlen : es.size = l.length := by
        have : ∀ (l : List (ByteArray × AV)) (es : List MapEntry), RepM w g.hw l es → es.length = l.length := by
          intro l
          induction l with
          | nil => intro es h; simp only [RepM] at h; subst h; rfl
          | cons p l ih => intro es h; obtain ⟨k, x⟩ := p; simp only [RepM] at h; obtain ⟨e, es', rfl, _, _, h⟩ := h; simp [ih _ h]
        simpa using this l es.toList hm
      exact ⟨by simp [Builtin.len_, e1, run_und hu, getObj, Sem.run, hheap, hlen], rep_int⟩
    · exact h.elim
  · exact h.elim

theorem cap_sound {t : TypeId} {x : Operand} (h : capA P t (ρA x) K) : ∃ v, K v ∧ PureAt P env own ρA ⟨dst, .call ⟨.builtin .cap, #[x], #[t]⟩, type, pos, after, guard⟩ v := by
  have hmem : x ∈ (Op.call ⟨.builtin .cap, #[x], #[t]⟩).operands := by simp [Op.operands, Call.operands]
  unfold capA at h
  split at h
  · rename_i e i off k n c hu hx
    refine ⟨_, h, fun ρ w g G hρ => ⟨goInt c, ?_, rep_int⟩⟩
    obtain ⟨b, hb, _, _, _, ey⟩ := rep_bs (hx ▸ hρ x hmem)
    simp [execOp, resolve, invoke, builtin, ey, Builtin.cap_, run_und hu]
  · rename_i e i off k n c hu hx
    refine ⟨_, h, fun ρ w g G hρ => ⟨goInt c, ?_, rep_int⟩⟩
    obtain ⟨_, b, hb, _, _, _, ey⟩ := rep_xs (hx ▸ hρ x hmem)
    simp [execOp, resolve, invoke, builtin, ey, Builtin.cap_, run_und hu]
  · rename_i e n c hu hx
    refine ⟨_, h, fun ρ w g G hρ => ⟨goInt c, ?_, rep_int⟩⟩
    have ey := (rep_v (hx ▸ hρ x hmem)).1
    simp [execOp, resolve, invoke, builtin, ey, Builtin.cap_, run_und hu]
  · exact h.elim
theorem min_sound {ts : Array TypeId} {x y : Operand} (h : min2A (ρA x) (ρA y) K) : ∃ v, K v ∧ PureAt P env own ρA ⟨dst, .call ⟨.builtin .min, #[x, y], ts⟩, type, pos, after, guard⟩ v := by
  unfold min2A at h
  split at h
  · rename_i k a k' b hx hy
    refine ⟨_, h, fun ρ w g G hρ => ⟨_, ?_, rep_int⟩⟩
    have e1 := (rep_v (hx ▸ hρ x (by simp [Op.operands, Call.operands]))).1
    have e2 := (rep_v (hy ▸ hρ y (by simp [Op.operands, Call.operands]))).1
    simp [execOp, resolve, invoke, builtin, e1, e2, Builtin.min_, Builtin.min2]
  · exact h.elim
theorem max_sound {ts : Array TypeId} {x y : Operand} (h : max2A (ρA x) (ρA y) K) : ∃ v, K v ∧ PureAt P env own ρA ⟨dst, .call ⟨.builtin .max, #[x, y], ts⟩, type, pos, after, guard⟩ v := by
  unfold max2A at h
  split at h
  · rename_i k a k' b hx hy
    refine ⟨_, h, fun ρ w g G hρ => ⟨_, ?_, rep_int⟩⟩
    have e1 := (rep_v (hx ▸ hρ x (by simp [Op.operands, Call.operands]))).1
    have e2 := (rep_v (hy ▸ hρ y (by simp [Op.operands, Call.operands]))).1
    simp [execOp, resolve, invoke, builtin, e1, e2, Builtin.max_, Builtin.max2]
  · exact h.elim

theorem findNow_getM {w : World} {hw : Hw} {s : ByteArray} : ∀ (l : List (ByteArray × AV)) (es : List MapEntry) (i : Nat), RepM w hw l es →
    (∃ x j e, getM l s = some x ∧ Instr.findNow .string (.string s) es i = some (some (i + j, e.val)) ∧ es[j]? = some e ∧ e.key = .string s ∧ Rep1 w hw [] 0 x e.val) ∨ (getM l s = none ∧ Instr.findNow .string (.string s) es i = some none)
  | [], _, _, h => by simp only [RepM] at h; subst h; exact .inr ⟨rfl, rfl⟩
  | (k, x) :: l, _, i, h => by
    simp only [RepM] at h
    obtain ⟨e, es, rfl, hk, hx, hr⟩ := h
    by_cases hs : s = k
    · subst hs
      have hb : (s == s) = true := (bytes_beq s s).2 rfl
      exact .inl ⟨x, 0, e, by simp [getM], by simp [Instr.findNow, hk, Instr.sameNow, hb], rfl, hk, hx⟩
    · have hb : (s == k) = false := Bool.eq_false_iff.2 fun h => hs ((bytes_beq s k).1 h)
      rcases findNow_getM l es (i + 1) hr with ⟨y, j, e', h1, h2, h3, h4, h5⟩ | ⟨h1, h2⟩
      · exact .inl ⟨y, j + 1, e', by simp [getM, hs, h1], by simp only [Instr.findNow, hk, Instr.sameNow, hb, h2, show i + 1 + j = i + (j + 1) from by omega], by simpa using h3, h4, h5⟩
      · exact .inr ⟨by simp [getM, hs, h1], by simp only [Instr.findNow, hk, Instr.sameNow, hb, h2]⟩

theorem rep_of {w : World} {hw : Hw} {bs : List Nat} {base : Nat} {x : AV} {y : Value} (h : Rep1 w hw bs base x y) : Rep w hw bs base x y := by
  cases x <;> first | exact h | (rcases h with h | ⟨h, _⟩ <;> first | (cases h; done) | (simp only [RepV] at h))
theorem AV.cst_tup {z : Value} : ∀ l, cst z ≠ .tup l := by intro l; cases z <;> simp [cst]

theorem map_reads {m : AV} {l : List (ByteArray × AV)} {w : World} {g : Gh} {y : Value} (hm : mapOf env own m = some l) (G : Good w g (env ++ own) env.length) (hr : Rep w g.hw g.bs env.length m y) :
    (y = .map none ∧ l = []) ∨ ∃ b es n, y = .map (some b) ∧ w.heap[b]? = some (.map es n) ∧ RepM w g.hw l es.toList := by
  unfold mapOf at hm
  split at hm
  · split at hm
    · rename_i i l' hl
      cases hm
      obtain ⟨b, hb, e⟩ := rep_mo hr
      obtain ⟨es, n, h1, h2⟩ := G.own_box hl hb
      exact .inr ⟨b, es, n, e, h1, h2⟩
    · cases hm
  · split at hm
    · rename_i i l' hl
      cases hm
      obtain ⟨_, b, hb, e⟩ := rep_mx hr
      obtain ⟨es, n, h1, h2⟩ := G.env_box hl hb
      exact .inr ⟨b, es, n, e, h1, h2⟩
    · cases hm
  · cases hm
    exact .inl ⟨(rep_v hr).1, rfl⟩
  · cases hm

theorem lookup_sound {t : TypeId} {m k : Operand} {ok : Bool} (h : lookupA P env own t (ρA m) (ρA k) ok K) : ∃ v, K v ∧ PureAt P env own ρA ⟨dst, .lookup t m k ok, type, pos, after, guard⟩ v := by
  unfold lookupA at h
  split at h
  · rename_i kt et s hu hk
    split at h
    · rename_i i hkt hi
      split at h
      · rename_i z hz
        cases hc : (okTmp 0 (.const z) && !VisTup z) with
        | false => rw [hc] at h; exact h.elim
        | true =>
          rw [hc] at h
          simp only [cond_true] at h
          simp only [Bool.and_eq_true] at hc
          obtain ⟨l, hm, h⟩ := h
          have run : ∀ (ρ : Operand → Value) (w : World) (g : Gh), Good w g (env ++ own) env.length → Rep w g.hw g.bs env.length (ρA m) (ρ m) → ρ k = .string s →
              (∃ x e, getM l s = some x ∧ Rep1 w g.hw [] 0 x e ∧ (Instr.lookup t (ρ m) (ρ k) ok).run P w = .ok (if ok then .tuple #[e, .bool true] else e) w) ∨
              (getM l s = none ∧ (Instr.lookup t (ρ m) (ρ k) ok).run P w = .ok (if ok then .tuple #[z, .bool false] else z) w) := by
            intro ρ w g G hr hks
            have hzv : (zeroValue et).run P w = .ok z w := by simp [zeroValue, typeInfo, hi, hz]
            have hck : ∀ b, (Instr.checkKey b 10000 kt (.string s)).run P w = .ok () w := fun b => run_checkKey hkt (by simp [IsKey]) b 9999
            rcases map_reads hm G hr with ⟨e1, rfl⟩ | ⟨b, es, n, e1, hheap, hM⟩
            · refine .inr ⟨rfl, ?_⟩
              have hf : (Instr.findKey kt (.string s) (#[] : Array MapEntry).toList).run P w = .ok none w := run_findKey hkt rfl
              simp only [Instr.lookup, e1, hks, Sem.run_bind, run_und hu, Result.andThen_ok, Sem.run_pure, hck, hf, hzv]
            · rcases findNow_getM (s := s) l es.toList 0 hM with ⟨x, j, e, h1, h2, _, _, h5⟩ | ⟨h1, h2⟩
              · refine .inl ⟨x, e.val, h1, h5, ?_⟩
                have hf := run_findKey (w := w) hkt h2
                simp only [Instr.lookup, e1, hks, Sem.run_bind, run_und hu, Result.andThen_ok, Sem.run_pure, hck, hf, Go.MapKept.run_getObj_map hheap]
              · refine .inr ⟨h1, ?_⟩
                have hf := run_findKey (w := w) hkt h2
                simp only [Instr.lookup, e1, hks, Sem.run_bind, run_und hu, Result.andThen_ok, Sem.run_pure, hck, hf, Go.MapKept.run_getObj_map hheap, hzv]
          have hmem1 : m ∈ (Op.lookup t m k ok).operands := by simp [Op.operands]
          have hmem2 : k ∈ (Op.lookup t m k ok).operands := by simp [Op.operands]
          cases hg : getM l s with
          | some x =>
            refine ⟨_, h.1 x hg, fun ρ w g G hρ => ?_⟩
            rcases run ρ w g G (hρ m hmem1) (rep_v (hk ▸ hρ k hmem2)).1 with ⟨x', e, h1, h2, h3⟩ | ⟨h1, _⟩
            · rw [hg] at h1; cases h1
              refine ⟨if ok then .tuple #[e, .bool true] else e, by simp only [execOp, Sem.run_bind, h3, Result.andThen_ok, Sem.run_pure], ?_⟩
              cases ok with
              | false => exact rep_of h2.lift
              | true =>
                refine ⟨_, rfl, ?_⟩
                simp only [RepT]
                exact ⟨_, _, rfl, h2.lift, _, _, rfl, rep_bool, rfl⟩
            · rw [hg] at h1; cases h1
          | none =>
            refine ⟨_, h.2 hg, fun ρ w g G hρ => ?_⟩
            rcases run ρ w g G (hρ m hmem1) (rep_v (hk ▸ hρ k hmem2)).1 with ⟨x', e, h1, _⟩ | ⟨h1, h3⟩
            · rw [hg] at h1; cases h1
            · refine ⟨if ok then .tuple #[z, .bool false] else z, by simp only [execOp, Sem.run_bind, h3, Result.andThen_ok, Sem.run_pure], ?_⟩
              have hz' : Rep w g.hw g.bs env.length (cst z) z := cst_rep z hc.1
              cases ok with
              | false => exact hz'
              | true =>
                refine ⟨_, rfl, ?_⟩
                simp only [RepT]
                refine ⟨_, _, rfl, ?_, _, _, rfl, rep_bool, rfl⟩
                cases hx : cst z <;> rw [hx] at hz' <;> first | exact hz' | exact absurd hx (AV.cst_tup _)
      · exact h.elim
    · exact h.elim
  · exact h.elim
end
end Go.Ev
end
