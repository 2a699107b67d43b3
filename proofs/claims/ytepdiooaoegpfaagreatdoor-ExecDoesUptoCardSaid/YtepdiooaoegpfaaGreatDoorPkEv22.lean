/- Written by programs of this session: laws and contracts that the law's proof stands on, merged into one text. Conditions: none beyond those in each statement. -/
import Derived.Test.YtepdiooaoegpfaaGreatDoorPkEv18
import Derived.Test.YtepdiooaoegpfaaGreatDoorPkEv17
section
/- Written by this session: a region that draws its order, in which a row is put behind another one, whose right to grow lies in a box. Conditions: none beyond those in each statement. -/
namespace Go.Ev
open Go

section
variable {P : Program}
/-- A row put behind no row at all: new memory. -/
theorem Yield.append0 {env own : List Bx} {ρA : Operand → AV} {t t' e e' : TypeId} {x0 x1 : Operand} {i : TypeInfo} {z : Value} {k : Nat} {l1 : List AV} {dst : Option Tmp} {type : TypeId} {pos : String} {after : Array Edge} {guard : Option (Nat × Bool)}
    (ht : P.underlying t = some (.slice e)) (ht' : P.underlying t' = some (.slice e')) (hin : P.info? e = some i) (hz : i.zero = some z) (hk : i.size = k) (hk0 : 0 < k)
    (h0 : ρA x0 = .v (.slice none 0 0)) (h1 : ρA x1 = .sl k l1) (hb : l1.length * i.bytes ≤ 140737488355328) (h47 : l1.length ≤ 140737488355328) :
    Yield P env own ρA ⟨dst, .call ⟨.builtin .append, #[x0, x1], #[t, t']⟩, type, pos, after, guard⟩ (.sl k l1) := by
  intro a w g G E hr next Q hn
  have hm0 : x0 ∈ (Op.call ⟨.builtin .append, #[x0, x1], #[t, t']⟩).operands := by simp [Op.operands, Call.operands]
  have hm1 : x1 ∈ (Op.call ⟨.builtin .append, #[x0, x1], #[t, t']⟩).operands := by simp [Op.operands, Call.operands]
  have hr0 := hr x0 hm0
  have hr1 := hr x1 hm1
  rw [h0] at hr0
  rw [h1] at hr1
  obtain ⟨e0, _⟩ := rep_v hr0
  obtain ⟨A1, c1, news, e1, hE1, hf1⟩ := firstCells_of (P := P) hr1
  rw [e1] at hf1
  have hx : ∀ w' : World, (Builtin.lenOf (.slice A1 l1.length c1)).run P w' = .ok l1.length w' := fun w' => by simp [Builtin.lenOf]
  have hl1 := RepE.len hE1
  have run (v' : Value) (w' : World) (hrun : (Builtin.append_ #[t, t'] type #[.slice none 0 0, .slice A1 l1.length c1]).run P w = .ok v' w') : (execOp a.eval ⟨dst, .call ⟨.builtin .append, #[x0, x1], #[t, t']⟩, type, pos, after, guard⟩).run P w = .ok (.value v') w' := by
    rw [← e0, ← e1] at hrun
    simp [execOp, resolve, invoke, builtin, hrun]
  unfold Oper.wp
  by_cases hz0 : l1.length = 0
  · have e2 : l1 = [] := List.eq_nil_of_length_eq_zero hz0
    subst e2
    simp only [RepE] at hE1
    subst hE1
    have hf := hf1 w rfl
    rw [← hk] at hf
    simp only [List.length_nil] at hf
    rw [run (.slice none 0 0) w (by simp [Builtin.append_, run_und ht, run_und ht', sizeOf, typeInfo, hin, Builtin.lenOf, hf])]
    exact hn _ w g G (Ext.refl _ _ _) (rep_sl_mk rfl (by simp) ⟨hk0, by simp⟩ (.inl rfl))
  · subst hk
    have hrun := run_append_grows (w := w) (ty := type) (bs := none) (sLen := 0) (sCap := 0) (olds := []) ht ht' hin hz hx (fun w' _ => by simp [Builtin.firstCells]) hf1 (by omega) (by rw [Nat.zero_add]; exact hb) (by simp only [maxLen]; omega)
    rw [Nat.zero_add] at hrun
    rw [run _ _ hrun]
    have Gd : Good w.drew g (env ++ own) env.length := ⟨G.len, G.nd, G.nohw, fun i x b hx hb => RepB.mono (w := w) (w' := w.drew) (g := g) (g' := g) (HwLe.of_heap rfl) (fun _ _ h => h) rfl (fun j b e => ⟨e, rfl, rfl⟩) (G.box i x b hx hb), G.hw, G.own, GlobOk.mono (w := w) (w' := w.drew) (HwLe.of_heap rfl) G.glob⟩
    have Ed : Ext KeepS w g w.drew g := ⟨Nat.le_refl _, rfl, rfl, rfl, HwLe.of_heap rfl, fun _ _ h _ => ⟨h, rfl, rfl⟩, fun _ _ h => h, fun _ h => .inl h, fun _ _ L h => ⟨L, h, fun _ => rfl⟩, fun _ _ _ _ => rfl⟩
    let cells' : Array Value := #[] ++ news.toArray ++ Builtin.zeroCells z.cells (grownCap w l1.length 0 e - l1.length)
    obtain ⟨G1, E1⟩ := Gd.push (.cells cells' e) (some cells'.size) none (by intro h e; simp at e; subst e; exact ⟨_, _, _, rfl, by simp⟩) (by simp)
    refine hn _ _ _ G1 (Ed.trans E1) ?_
    have hge := grownCap_ge w l1.length 0 e
    refine rep_sl_mk (by simp) (by simpa using hge) ⟨hk0, h47⟩ (.inr ⟨w.drew.heap.size, 0, news, rfl, ⟨cells'.size, upd_same _ _ _, by simp [cells'], fun j v hj => ?_⟩, RepE.mono (Ed.trans E1).hw _ _ hE1⟩)
    simp only [World.cell?, heap_push_new, Option.isSome_none, Bool.false_eq_true, if_false, Nat.zero_add]
    have hjl : j < news.length := (List.getElem?_eq_some_iff.1 hj).1
    simp only [Array.empty_append]
    rw [Array.getElem?_append_left (by simpa using hjl), List.getElem?_toArray]; exact hj
def appN (P : Program) (ρA : Operand → AV) (cl : Call) (K : AV → Prop) : Prop :=
  match cl.args.toList, cl.argTypes.toList with
  | [x0, x1], [t, t'] => match P.underlying t, P.underlying t' with
    | some (.slice e), some (.slice _) => match P.info? e with
      | some i => match i.zero with
        | some _ => match ρA x0, ρA x1 with
          | .v (.slice none 0 0), .sl k l => bif Nat.beq i.size k && Nat.blt 0 k then l.length * i.bytes ≤ 140737488355328 ∧ l.length ≤ 140737488355328 ∧ K (.sl k l) else False
          | _, _ => False
        | none => False
      | none => False
    | _, _ => False
  | _, _ => False
theorem appN_sound {env own : List Bx} {ρA : Operand → AV} {cl : Call} {dst : Option Tmp} {type : TypeId} {pos : String} {after : Array Edge} {guard : Option (Nat × Bool)} {K : AV → Prop} (hcl : cl.callee = .builtin .append) (h : appN P ρA cl K) : ∃ v, K v ∧ Yield P env own ρA ⟨dst, .call cl, type, pos, after, guard⟩ v := by
  obtain ⟨callee, args, argTypes⟩ := cl
  simp only at hcl
  subst hcl
  unfold appN at h
  split at h
  · rename_i x0 x1 t t' ha ht
    have e1 : args = #[x0, x1] := by apply Array.toList_inj.1; simpa using ha
    have e2 : argTypes = #[t, t'] := by apply Array.toList_inj.1; simpa using ht
    subst e1 e2
    split at h
    · rename_i e e' hu hu'
      split at h
      · rename_i i hi
        split at h
        · rename_i z hz
          split at h
          · rename_i k l h0 h1
            cases hc : (Nat.beq i.size k && Nat.blt 0 k) with
            | false => rw [hc] at h; exact h.elim
            | true =>
              rw [hc] at h
              simp only [Bool.and_eq_true] at hc
              exact ⟨_, h.2.2, Yield.append0 hu hu' hi hz (Nat.eq_of_beq_eq_true hc.1) (by rw [← Nat.blt_eq]; exact hc.2) h0 h1 h.1 h.2.1⟩
          · exact h.elim
        · exact h.elim
      · exact h.elim
    · exact h.elim
  · exact h.elim
end

def steadyL (P : Program) (c : Cfg) (o : Oper) (K : AV → Prop) : Prop :=
  match o.op with
  | .call cl => (match cl.callee with
    | .builtin .append => appN P (evA c) cl K
    | _ => steadyA P c o K)
  | _ => steadyA P c o K
theorem steadyL_sound {P : Program} {c : Cfg} {o : Oper} {K : AV → Prop} (h : steadyL P c o K) : ∃ v, Yield P c.env c.own (evA c) o v ∧ K v := by
  unfold steadyL at h
  split at h
  · rename_i cl hop
    split at h
    · rename_i hc
      obtain ⟨dst, op, type, pos, after, guard⟩ := o
      simp only at hop
      subst hop
      obtain ⟨v, h1, h2⟩ := appN_sound (env := c.env) (own := c.own) (dst := dst) (type := type) (pos := pos) (after := after) (guard := guard) hc h
      exact ⟨v, h2, h1⟩
    · exact steadyA_sound h
  · exact steadyA_sound h
def preL (P : Program) (n : Nat) (ops : List Oper) : List Oper → Cfg → (Cfg → Prop) → Prop
  | [], c, K => K c
  | o :: r, c, K => bif okF n ops o then guardA n ops c o (steadyL P c o fun v => normA (c.put o.dst v) fun c' => preL P n ops r c' K) (normA (c.put o.dst (.v undef)) fun c' => preL P n ops r c' K) else False
theorem preL_seq {P : Program} {n : Nat} {ops : List Oper} {K : Cfg → Prop} : ∀ (l : List Oper) (i : Nat) (c : Cfg), (∀ j : Nat, j < l.length → l[j]? = ops[i + j]?) → preL P n ops l c K →
    Seq P n c.env c.own ops (List.range' i l.length) (Fr.get c.fr) fun F => ∃ c', Fr.get c'.fr = F ∧ c'.own = c.own ∧ c'.env = c.env ∧ K c'
  | [], _, c, _, h => ⟨c, rfl, rfl, rfl, h⟩
  | o :: l, i, c, hl, h => by
    simp only [preL, normA_iff] at h
    cases ho : okF n ops o with
    | false => rw [ho] at h; exact h.elim
    | true =>
      rw [ho] at h
      simp only [cond_true] at h
      have h0 : ops[i]? = some o := by simpa using (hl 0 (by simp)).symm
      have hl' : ∀ j : Nat, j < l.length → l[j]? = ops[i + 1 + j]? := fun j hj => by
        have := hl (j + 1) (by simp; omega)
        simpa [Nat.add_assoc, Nat.add_comm 1 j] using this
      simp only [List.length_cons, List.range'_succ, Seq]
      rcases guard_wantF h with ⟨hw, h⟩ | ⟨hw, h⟩
      · obtain ⟨v, hv, h⟩ := steadyL_sound h
        have ih := preL_seq l (i + 1) _ hl' h
        rw [(put_own c o.dst v).1, (put_own c o.dst v).2, get_put] at ih
        exact ⟨o, v, h0, ho, .inl ⟨hw, by rw [evF_get]; exact hv⟩, ih⟩
      · have ih := preL_seq l (i + 1) _ hl' h
        rw [(put_own c o.dst _).1, (put_own c o.dst _).2, get_put] at ih
        exact ⟨o, _, h0, ho, .inr ⟨hw, rfl⟩, ih⟩
section
variable {P : Program} {n : Nat} {W0 : World} {G0 : Gh} {ops : Array Oper} {Q : Exit → Act → World → Prop}
theorem InvF.opE {F : FS} {os : List Nat} {own env : List Bx} {a : Act} {w : World} {g : Gh} (hi : InvF n W0 G0 F os own env a w g) {j : Nat} {o : Oper} {v : AV} {K : Act → World → Prop} (hj : ops[j]? = some o) (ho : okF n ops.toList o = true) (hd : ∀ t, o.dst = some t → t ∉ os)
    (h : (wantF ops.toList F o = some true ∧ Yield P env own (evF F) o v) ∨ (wantF ops.toList F o = some false ∧ v = .v undef))
    (hK : ∀ a' w' g', InvF n W0 G0 (updO F o.dst v) os own env a' w' g' → Ext KeepS w g w' g' → K a' w') : wpOp P ops Q j K a w := by
  have hok : opsOk n o = true := by simp only [okF, Bool.and_eq_true] at ho; exact ho.1
  have hdd : ∀ t, o.dst = some t → t < n ∧ t ∉ os := fun t e => ⟨opsOk_dst hok t e, hd t e⟩
  unfold wpOp
  simp only [hj]
  rcases h with ⟨hw, hy⟩ | ⟨hw, rfl⟩
  · rw [if_pos (hi.wanted ho hw)]
    exact .inl (hy a w g hi.good hi.ecl (fun x hx => hi.eval (opsOk_mem hok hx)) K Q fun u w' g' h1 h2 h3 => hK _ _ g' (hi.step hdd h1 h2 h3) h2)
  · rw [if_neg (by rw [hi.wanted ho hw]; simp)]
    exact hK _ _ g (hi.step hdd hi.good (Ext.refl _ _ _) (rep_v_mk rfl)) (Ext.refl _ _ _)
theorem any_of_seqJ {m : Nat} (hB : drawB ops.toList m = true) (hm : m ≤ ops.size) {os : List Nat} {own env : List Bx} {K : FS → Prop} (hdst : ∀ j o, j < m → ops[j]? = some o → ∀ t, o.dst = some t → t ∉ os)
    {J : World → Gh → Prop} (hJ : ∀ w g w' g', J w g → Ext KeepS w g w' g' → J w' g')
    (hsuf : ∀ F a w g, K F → InvF n W0 G0 F os own env a w g → J w g → wpOps P ops Q (List.range' m (ops.size - m)) a w) :
    ∀ (N : Nat) (R : List Nat) (listed : Array Bool) (F : FS) (a : Act) (w : World) (g : Gh), R.length = N → listed.size = ops.size → Closed ops listed → (List.range m).filter (fun i => !listed.getD i true) = R →
      (∀ j, m ≤ j → j < ops.size → listed.getD j true = false) → Seq P n env own ops.toList R F K → InvF n W0 G0 F os own env a w g → J w g → wpAny P .any ops Q (N + (ops.size - m)) listed a w
  | 0, R, listed, F, a, w, g, hN, hsz, hc, hR, hs, hseq, hi, hJw => by
    have hRn : R = [] := List.eq_nil_of_length_eq_zero hN
    subst hRn
    simp only [Seq] at hseq
    have : listed = upTo ops.size m := by
      apply Array.ext
      · rw [hsz, upTo_size]
      · intro i h1 h2
        have hi' : i < ops.size := by rw [← hsz]; exact h1
        have e1 : listed.getD i true = listed[i] := by rw [Array.getD_eq_getD_getElem?, Array.getElem?_eq_getElem h1]; rfl
        have e2 : (upTo ops.size m).getD i true = (upTo ops.size m)[i] := by rw [Array.getD_eq_getD_getElem?, Array.getElem?_eq_getElem h2]; rfl
        rw [← e1, ← e2, upTo_get hi']
        rcases Nat.lt_or_ge i m with h | h
        · have hn : i ∉ (List.range m).filter fun i => !listed.getD i true := by rw [hR]; simp
          simp only [List.mem_filter, List.mem_range, h, true_and, Bool.not_eq_true'] at hn
          simp [h]; simpa using hn
        · rw [hs i h hi']; simp; omega
    subst this
    rw [Nat.zero_add]
    exact any_of_ops hB _ m a w (Nat.le_refl _) (by omega) (hsuf F a w g hseq hi hJw)
  | N + 1, R, listed, F, a, w, g, hN, hsz, hc, hR, hs, hseq, hi, hJw => by
    have hsort : R.Pairwise (· < ·) := by rw [← hR]; exact List.pairwise_lt_range.sublist List.filter_sublist
    have hmemR : ∀ i, i ∈ R ↔ i < m ∧ listed.getD i true = false := fun i => by rw [← hR]; simp
    have edge : ∀ (o : Oper) (j : Nat), ops[j]? = some o → ∀ e ∈ o.after, Region.binds .any e = true → e.on < ops.size := fun o j ho e he hb => Nat.lt_trans ((drawB_spec hB ho).1 e he hb) (Array.getElem?_eq_some_iff.1 ho).1
    rw [show N + 1 + (ops.size - m) = (N + (ops.size - m)) + 1 from by omega]
    -- the least of them is ready
    cases hRc : R with
    | nil => rw [hRc] at hN; cases hN
    | cons i0 R0 =>
      have hi0 : i0 < m ∧ listed.getD i0 true = false := (hmemR i0).1 (by rw [hRc]; simp)
      have hi0l : i0 < ops.size := by omega
      have hleast : ∀ i, i < i0 → listed.getD i false = true := by
        intro i hii
        have hin : i ∉ R := by
          intro h
          rw [hRc] at h hsort
          rcases List.mem_cons.1 h with rfl | h
          · omega
          · have := (List.pairwise_cons.1 hsort).1 i h; omega
        rw [hmemR] at hin
        have : listed.getD i true = true := by
          cases h : listed.getD i true with
          | true => rfl
          | false => exact absurd ⟨by omega, h⟩ hin
        have hil : i < listed.size := by omega
        rw [Array.getD_eq_getD_getElem?, Array.getElem?_eq_getElem hil] at this ⊢
        exact this
      have hready0 : i0 ∈ Region.ready .any ops listed := mem_ready.2 ⟨hi0.2, _, Array.getElem?_eq_getElem hi0l, fun e he hb => hleast _ ((drawB_spec hB (Array.getElem?_eq_getElem hi0l)).1 e he hb)⟩
      refine ⟨(fun h0 => by rw [h0] at hready0; cases hready0), fun j hj => ?_⟩
      obtain ⟨hjun, o, ho, hall⟩ := mem_ready.1 hj
      have hjl := (Array.getElem?_eq_some_iff.1 ho).1
      have hbr := bef_ready hc hsz hj (fun o ho => edge o j ho)
      have hjm : j < m := by
        rcases Nat.lt_or_ge j m with h | h
        · exact h
        · rcases (drawB_spec hB ho).2 i0 (by omega) with h' | ⟨h', _⟩
          · have := hbr _ _ h'
            have hil : i0 < listed.size := by omega
            have e := hi0.2
            rw [Array.getD_eq_getD_getElem?, Array.getElem?_eq_getElem hil] at this e
            simp at this e; rw [this] at e; cases e
          · omega
      have hjR : j ∈ R := (hmemR j).2 ⟨hjm, hjun⟩
      obtain ⟨r1, r2, hsplit⟩ := List.append_of_mem hjR
      have hap : ∀ i ∈ r1, ∀ oi, ops[i]? = some oi → oi.apart ops o = true := by
        intro i hi1 oi hoi
        have hiR : i ∈ R := by rw [hsplit]; simp [hi1]
        have hlt : i < j := by
          rw [hsplit, List.pairwise_append] at hsort
          exact hsort.2.2 i hi1 j (by simp)
        rcases (drawB_spec hB ho).2 i hlt with h | ⟨_, h⟩
        · have := hbr _ _ h
          have e := ((hmemR i).1 hiR).2
          have hil : i < listed.size := by omega
          rw [Array.getD_eq_getD_getElem?, Array.getElem?_eq_getElem hil] at this e
          simp at this e; rw [this] at e; cases e
        · exact h oi hoi
      have hseq' := hseq
      rw [hsplit] at hseq'
      obtain ⟨v, k1, k2, k3⟩ := Seq.first ho r1 r2 F K hap hseq'
      refine hi.opE ho k1 (fun t ht => hdst j o hjm ho t ht) k2 fun a' w' g' hi' hE => ?_
      refine any_of_seqJ hB hm hdst hJ hsuf N (r1 ++ r2) (listed.setIfInBounds j true) _ a' w' g' ?_ (by simpa using hsz) (closed_set hB hc hsz hj) ?_ (fun q hq hql => ?_) k3 hi' (hJ _ _ _ _ hJw hE)
      · rw [hsplit] at hN; simp at hN ⊢; omega
      · rw [← filter_out List.nodup_range (hR.trans hsplit)]
        apply List.filter_congr
        intro i hi1
        have him : i < m := by simpa using hi1
        by_cases hij : i = j
        · subst hij
          have hil : i < listed.size := by omega
          rw [Array.getD_eq_getD_getElem?]
          simp [hil]
        · rw [getD_set_ne true (Ne.symm hij)]
          simp [hij]
      · rw [getD_set_ne true (by omega)]; exact hs q hq hql


theorem RepL.setV {w : World} {hw : Hw} {bs : List Nat} {base : Nat} : ∀ {l : List AV} {cs : List Value} {off : Nat} {y : Value}, RepL w hw bs base l cs → cs[off]? = some y → RepL w hw bs base (l.set off (.v y)) cs
  | [], _, _, _, h, hy => by simp only [RepL] at h; subst h; cases hy
  | x :: l, _, 0, y, h, hy => by
    simp only [RepL] at h
    obtain ⟨v, vs', rfl, h1, h2⟩ := h
    cases hy
    simp only [List.set_cons_zero, RepL, RepV]
    exact ⟨_, vs', rfl, ⟨rfl, rfl, h1.2.2⟩, h2⟩
  | x :: l, _, off + 1, y, h, hy => by
    simp only [RepL] at h
    obtain ⟨v, vs', rfl, h1, h2⟩ := h
    simp only [List.set_cons_succ, RepL]
    exact ⟨v, vs', rfl, h1, RepL.setV h2 hy⟩
def osBehind (ops : List Oper) (os : List Nat) : List Nat := os.filter fun i => ops.all fun o => match o.dst with
  | some d => !Nat.beq i d
  | none => true
/-- Where the first m operations may go in any order (a row may be put behind no row among them). -/
def drawP (P : Program) (n : Nat) (ops : List Oper) (m : Nat) (c : Cfg) (K : Cfg → Prop) : Prop :=
  preL P n ops (ops.take m) { c with os := [] } fun c' => opsA P n ops (ops.drop m) { c' with os := osBehind (ops.take m) c.os } K
/-- As drawP; one of the operations loads a row out of box i, at off, which may grow, into slot t. -/
def drawL (P : Program) (n : Nat) (ops : List Oper) (m i off t : Nat) (c : Cfg) (K : Cfg → Prop) : Prop :=
  match c.own[i]? with
  | some (.cells l os) => match l[off]? with
    | some (.sl k acc) => bif os.any (Nat.beq off) && Nat.blt t n then
        ∀ y : Value, preL P n ops (ops.take m) { c with os := [], own := c.own.set i (.cells (l.set off (.v y)) (os.filter fun j => !Nat.beq j off)) } fun c' =>
          Fr.get c'.fr t = .v y ∧ opsA P n ops (ops.drop m) { c' with fr := (t, .sl k acc) :: c'.fr, os := t :: osBehind (ops.take m) c.os } K
      else False
    | _ => False
  | _ => False

theorem draw_gen {id m : Nat} {c : Cfg} {R : Exit → Cfg → Prop} {a : Act} {w : World} {g : Gh} {J : World → Gh → Prop} {K : Cfg → Prop} (hmix : P.follows .mixedOrders = true) (hB : drawB ops.toList m = true) (hm : Nat.ble m ops.toList.length = true) (hi : Inv n W0 G0 c a w g)
    (hJ : ∀ w g w' g', J w g → Ext KeepS w g w' g' → J w' g') (hJ0 : J w.drew g) (h : preL P n ops.toList (ops.toList.take m) { c with os := [] } K)
    (hK : ∀ c' a' w' g', K c' → Inv n W0 G0 { c' with os := osBehind (ops.toList.take m) c.os } a' w' g' → J w' g' → ∃ c'', Inv n W0 G0 c'' a' w' g' ∧ opsA P n ops.toList (ops.toList.drop m) c'' fun c' => R .normal c') :
    (Code.region id ops true).wp P (fun e a' w' => ∃ c' g', R e c' ∧ Inv n W0 G0 c' a' w' g') a w := by
  have hml : m ≤ ops.size := by simpa using Nat.le_of_ble_eq_true hm
  refine wp_region_any hmix ?_
  have hi1 := hi.drew
  let os' := osBehind (ops.toList.take m) c.os
  have hF : InvF n W0 G0 (Fr.get c.fr) os' c.own c.env a w.drew g := ⟨hi1.size, hi1.defers, hi1.fr, fun i hm => hi1.os i (List.mem_filter.1 hm).1, hi1.good, hi1.ext, hi1.ecl, hi1.b0⟩
  have hseq := preL_seq (P := P) (n := n) (ops := ops.toList) (ops.toList.take m) 0 { c with os := [] } (fun j hj => by
    rw [List.getElem?_take, if_pos (by simp at hj; omega), Nat.zero_add]) h
  have hlen : (ops.toList.take m).length = m := by simp; omega
  rw [hlen, ← List.range_eq_range'] at hseq
  have := any_of_seqJ (P := P) (n := n) (W0 := W0) (G0 := G0) (ops := ops) (os := os') (own := c.own) (env := c.env) (Q := fun e a' w' => ∃ c' g', R e c' ∧ Inv n W0 G0 c' a' w' g') hB hml ?_ hJ ?_ m (List.range m) (upTo ops.size 0) (Fr.get c.fr) a w.drew g (by simp) (upTo_size _ _) ?_ ?_ ?_ hseq hF hJ0
  · rw [show m + (ops.size - m) = ops.size from by omega] at this
    have e : upTo ops.size 0 = Array.replicate ops.size false := by
      apply Array.ext
      · simp [upTo]
      · intro i h1 h2; simp [upTo]
    rw [e] at this
    exact this
  · intro j o hj ho t ht hmem
    have := (List.mem_filter.1 hmem).2
    have hjo : o ∈ ops.toList.take m := by
      have hjl := (Array.getElem?_eq_some_iff.1 ho).1
      refine List.mem_of_getElem? (i := j) ?_
      rw [List.getElem?_take, if_pos hj]; simpa using ho
    have := List.all_eq_true.1 this o hjo
    rw [ht] at this
    simp at this
  · rintro F a' w' g' ⟨c', rfl, e1, e2, hk⟩ hf hj
    have hI : Inv n W0 G0 { c' with os := os' } a' w' g' := by
      have e1' : c'.own = c.own := e1
      have e2' : c'.env = c.env := e2
      refine ⟨hf.size, hf.defers, ?_, hf.os, ?_, hf.ext, ?_, ?_⟩
      · simpa only [Cfg.base, e2'] using hf.fr
      · simpa only [Cfg.mem, Cfg.base, e1', e2'] using hf.good
      · simpa only [Cfg.base, e2'] using hf.ecl
      · simpa only [Cfg.base, e2'] using hf.b0
    obtain ⟨c'', hI', hk'⟩ := hK c' a' w' g' hk hI hj
    have hd := opsA_sound (P := P) (n := n) (ops := ops) (W0 := W0) (G0 := G0) (Q := fun e a' w' => ∃ c' g', R e c' ∧ Inv n W0 G0 c' a' w' g') (fun c' a' w' g' hk hi' => ⟨c', g', hk, hi'⟩) (ops.toList.drop m) m _ a' w' g' (fun j => by rw [List.getElem?_drop]; simp) hk' hI'
    rwa [List.length_drop, Array.length_toList] at hd
  · intro j hj hl
    rw [upTo_get hj] at hl; simp at hl
  · rw [List.filter_eq_self.2]
    intro i hi'
    rw [upTo_get (by simp at hi'; omega)]; simp
  · intro j hj hjl
    rw [upTo_get hjl]; simp
theorem XW.drawP {id m : Nat} {c : Cfg} {R : Exit → Cfg → Prop} (hmix : P.follows .mixedOrders = true) (hB : drawB ops.toList m = true) (hm : Nat.ble m ops.toList.length = true) (h : drawP P n ops.toList m c fun c' => R .normal c') : XW P n (.region id ops true) R c := ⟨fun _ _ _ _ _ hi =>
  draw_gen (J := fun _ _ => True) hmix hB hm hi (fun _ _ _ _ _ _ => trivial) trivial h fun _ _ _ _ hk hI _ => ⟨_, hI, hk⟩⟩
theorem XW.drawL {id m i off t : Nat} {c : Cfg} {R : Exit → Cfg → Prop} (hmix : P.follows .mixedOrders = true) (hB : drawB ops.toList m = true) (hm : Nat.ble m ops.toList.length = true) (h : drawL P n ops.toList m i off t c fun c' => R .normal c') : XW P n (.region id ops true) R c := ⟨fun W0 G0 a w g hi => by
  unfold Ev.drawL at h
  split at h
  · rename_i l os hbx
    split at h
    · rename_i k acc hl
      cases hc : (os.any (Nat.beq off) && Nat.blt t n) with
      | false => rw [hc] at h; exact h.elim
      | true =>
      rw [hc] at h
      simp only [cond_true] at h
      simp only [Bool.and_eq_true] at hc
      have hos : off ∈ os := by
        obtain ⟨x, hx, e⟩ := List.any_eq_true.1 hc.1
        rw [Nat.eq_of_beq_eq_true e]; exact hx
      have htn : t < n := by rw [← Nat.blt_eq]; exact hc.2
      have hq : c.mem[c.base + i]? = some (.cells l os) := mem_own hbx
      have hql := (List.getElem?_eq_some_iff.1 hq).1
      obtain ⟨b, hb⟩ : ∃ b, g.bs[c.base + i]? = some b := ⟨_, List.getElem?_eq_getElem (by rw [hi.good.len]; exact hql)⟩
      obtain ⟨cs, e, hheap, hrl, hown⟩ := hi.good.box _ _ b hq hb
      obtain ⟨k2, l2, y, f1, f2, f3⟩ := hown off hos
      rw [hl] at f1
      cases f1
      obtain ⟨v, hv, hrv, _, hone⟩ := hrl.get hl
      have hyv : y = v := by
        have : cs[off]? = some v := by simpa using hv
        rw [f2] at this; cases this; rfl
      subst hyv
      have hrep : Rep w g.hw g.bs c.base (.sl k acc) y := rep_mk_leaf rfl (visAgg_of hone) hrv
      obtain ⟨hi1, O⟩ := hi.takeCell (d := t) (c' := { c with own := c.own.set i (.cells l (os.filter fun j => !Nat.beq j off)) }) hq rfl rfl set_own rfl hi.ecl
      have hO := O k y f3
      let g1 : Gh := { g with own := fun b => (g.own b).map (moved (.cell (c.base + i) off) (.slot t)) }
      have hO1 : OwnAt w g1 (.slot t) k y := hO
      have hi2 : Inv n W0 G0 { c with own := c.own.set i (.cells (l.set off (.v y)) (os.filter fun j => !Nat.beq j off)) } a w g1 := by
        refine ⟨hi1.size, hi1.defers, hi1.fr, hi1.os, ⟨by rw [hi1.good.len]; simp [Cfg.mem], hi1.good.nd, hi1.good.nohw, fun j x b' hx hb' => ?_, hi1.good.hw, hi1.good.own, hi1.good.glob⟩, hi1.ext, hi1.ecl, hi1.b0⟩
        have hx' : (c.mem.set (c.base + i) (.cells (l.set off (.v y)) (os.filter fun j => !Nat.beq j off)))[j]? = some x := by rw [← set_own]; exact hx
        by_cases hj : j = c.base + i
        · subst hj
          rw [List.getElem?_set_self hql] at hx'
          cases hx'
          have hbb : b' = b := by rw [show g1.bs[c.base + i]? = some b from hb] at hb'; exact (Option.some.inj hb').symm
          subst hbb
          obtain ⟨cs', e', h1, h2, h3⟩ := hi1.good.box (c.base + i) (.cells l (os.filter fun j => !Nat.beq j off)) b' (by
            show ({ c with own := c.own.set i (.cells l (os.filter fun j => !Nat.beq j off)) } : Cfg).mem[c.base + i]? = _
            rw [set_own, List.getElem?_set_self hql]) hb'
          rw [hheap] at h1
          cases h1
          refine ⟨cs, e, hheap, RepL.setV h2 (by simpa using f2), fun j hj => ?_⟩
          obtain ⟨k3, l3, y3, p1, p2, p3⟩ := h3 j hj
          have hne : off ≠ j := by
            have := (List.mem_filter.1 hj).2
            rintro rfl; simp at this
          exact ⟨k3, l3, y3, by rw [List.getElem?_set_ne hne]; exact p1, p2, p3⟩
        · rw [List.getElem?_set_ne (Ne.symm hj)] at hx'
          exact hi1.good.box j x b' (by
            show ({ c with own := c.own.set i (.cells l (os.filter fun j => !Nat.beq j off)) } : Cfg).mem[j]? = _
            rw [set_own, List.getElem?_set_ne (Ne.symm hj)]; exact hx') hb'
      refine draw_gen (J := fun w g => Rep w g.hw g.bs c.base (.sl k acc) y ∧ OwnAt w g (.slot t) k y) hmix hB hm hi2 (fun w g w' g' ⟨j1, j2⟩ E => ⟨j1.mono E.hw E.bs, j2.mono fun b hb => E.ext b _ hb (by intro i j; simp)⟩) ⟨Rep.mono (w := w) (w' := w.drew) (hw := g.hw) (hw' := g.hw) (HwLe.of_heap (w := w) (w' := w.drew) rfl) (fun _ _ h => h) hrep, OwnAt.mono (w' := w.drew) (g' := g1) hO1 fun b hb => ⟨hb, rfl, rfl⟩⟩ (h y) ?_
      rintro c' a' w' g' ⟨ht, hk⟩ hI ⟨j1, j2⟩
      refine ⟨_, ?_, hk⟩
      have hy : a'.tmps.getD t undef = y := by
        have := hI.fr t htn
        simp only [ht] at this
        exact (rep_v this).1
      have hbase : c'.base = c.base := by
        have := hI.b0
        rw [hi.b0] at this
        exact this.symm
      refine ⟨hI.size, hI.defers, fun q hqn => ?_, fun q hqm => ?_, hI.good, hI.ext, hI.ecl, hI.b0⟩
      · simp only [Fr.get_cons]
        split
        · rename_i e; subst e; rw [hy]
          show Rep w' g'.hw g'.bs c'.base _ _
          rw [hbase]; exact j1
        · exact hI.fr q hqn
      · simp only [Fr.get_cons]
        by_cases e : t = q
        · subst e
          simp only [if_true]
          exact ⟨k, acc, rfl, by rw [hy]; exact j2⟩
        · simp only [if_neg e]
          rcases List.mem_cons.1 hqm with hqm | hqm
          · exact absurd hqm.symm e
          · exact hI.os q hqm
    · exact h.elim
  · exact h.elim⟩
end
end Go.Ev
end
section
/- Written by this session: from a contract over trees to what a row asks. Conditions: none beyond those in each statement. -/
namespace Go.Ev
open Go Go.RowKit

/-- All that lies in memory is known. -/
def blockHw (w : World) : Hw := fun b => match w.heap[b]? with
  | some (.cells cs _ _) => some cs.size
  | _ => none

theorem blockHw_cells {w : World} {b : Nat} {cs : Array Value} {e : TypeId} {f : Nat × Nat} (h : w.heap[b]? = some (.cells cs e f)) : blockHw w b = some cs.size := by
  simp [blockHw, h]

/-- Cells that are there are known. -/
theorem Cells.of_there {w : World} {b o : Nat} {vs : List Value} (h0 : vs ≠ []) (h : ∀ j v, vs[j]? = some v → w.cell? ⟨b, o + j, none⟩ = some v) : Cells w (blockHw w) b o vs := by
  have hl : 0 < vs.length := List.length_pos_iff.2 h0
  have hlast := h (vs.length - 1) _ (List.getElem?_eq_getElem (by omega))
  unfold World.cell? at hlast
  simp only [Option.isSome_none, Bool.false_eq_true, if_false] at hlast
  split at hlast
  · rename_i cs e f hheap
    refine ⟨cs.size, blockHw_cells hheap, ?_, h⟩
    have := (Array.getElem?_eq_some_iff.1 hlast).1
    omega
  · cases hlast

theorem XPure.row {P : Program} {f : FuncId} {args : List AV} (h : XPure P f args (.v (.bool true)) false) (w : World) (vs : List Value) (hg : GlobOk w (blockHw w)) (hv : RepT w (blockHw w) [] 0 args vs) :
    Calls P f vs.toArray w fun e w' => e = .returned (.bool true) ∧ Below w.heap.size w w' := by
  let g : Gh := ⟨[], blockHw w, fun _ => none⟩
  have hhw : ∀ b k, g.hw b = some k → ∃ cs e f, w.heap[b]? = some (.cells cs e f) ∧ k ≤ cs.size := fun b k e => by
    have e : blockHw w b = some k := e
    unfold blockHw at e
    split at e
    · rename_i cs et f hh
      cases e
      exact ⟨cs, et, f, hh, Nat.le_refl _⟩
    · cases e
  have G : Good w g [] 0 := ⟨rfl, by simp [g], (fun b hb => by cases hb), (fun i x b hx _ => by simp at hx), hhw, (fun b L e => by cases e), hg⟩
  refine (h.2.2 [] w g vs G (by intro b i e; cases e) hv).mono ?_
  rintro e w' ⟨u, g', r, ow, env', rfl, ⟨rfl, _, rfl⟩, _, _, E, hr, _⟩
  obtain rfl := (rep_v hr).1
  exact ⟨rfl, E.os, E.tape, E.output, E.size, fun k hk => E.old k hk (by simp [g]) (by intro L e; cases e)⟩
end Go.Ev
end
