/- Written by programs of this session: laws and contracts that the law's proof stands on, merged into one text. Conditions: none beyond those in each statement. -/
import Derived.Test.YtepdiooaoegpfaaGreatDoorRows
import Derived.Test.YtepdiooaoegpfaaGreatDoorPkFx19
section
/- From the row's reading of a Case and a number to trees. Conditions: none beyond those in each statement. -/
namespace Go.Proofs.YtepdiooaoegpfaaGreatDoor.Fx
open Go Go.Proofs Go.Ev Go.RowKit
set_option maxRecDepth 100000
set_option linter.unusedSimpArgs false
set_option linter.unusedVariables false
/-- Are all elements of slices of so many bytes at most? -/
def szT (P : Program) (S : Nat) : Nat → TypeId → Bool
  | 0, _ => false
  | d + 1, t => match P.underlying t with
    | some (.slice e) => Nat.ble (P.bytesOf e) S && szT P S d e
    | some (.struct fs) => fs.toList.all fun f => szT P S d f.type
    | some .bool | some (.int _) | some .string => true
    | _ => false
theorem bulk_pos {H : Type} : ∀ d : DataW H, 1 ≤ Rows.uptoBulk d
  | .lit l => by cases l <;> simp [Rows.uptoBulk]
  | .nil | .held _ => by simp [Rows.uptoBulk]
  | .ptr _ | .slice _ _ | .agg _ | .iface _ _ | .map _ => by simp [Rows.uptoBulk]
theorem bulk_len {H : Type} : ∀ l : List (DataW H), l.length ≤ Rows.uptoBulkAll l
  | [] => Nat.le_refl _
  | d :: r => by
    have h1 := bulk_pos d
    have h2 := bulk_len r
    simp only [Rows.uptoBulkAll, List.length_cons]; omega
theorem bulk_mem {H : Type} : ∀ {l : List (DataW H)} {d : DataW H}, d ∈ l → Rows.uptoBulk d ≤ Rows.uptoBulkAll l
  | [], _, h => by cases h
  | x :: r, d, h => by
    simp only [Rows.uptoBulkAll]
    rcases List.mem_cons.1 h with rfl | h
    · omega
    · have := bulk_mem h; omega
theorem weightsAll_of {H : Type} {P : Program} {e : TypeId} {M : Nat} : ∀ {l : List (DataW H)}, (∀ x ∈ l, (DataW.weights P e x).all (· ≤ M) = true) → (DataW.weightsAll P e l).all (· ≤ M) = true
  | [], _ => rfl
  | x :: r, h => by
    simp only [DataW.weightsAll, List.all_append, Bool.and_eq_true]
    exact ⟨h x (by simp), weightsAll_of fun y hy => h y (by simp [hy])⟩
theorem weightsEach_of {H : Type} {P : Program} {M : Nat} : ∀ {ts : List TypeId} {l : List (DataW H)}, (∀ t ∈ ts, ∀ x ∈ l, (DataW.weights P t x).all (· ≤ M) = true) → (DataW.weightsEach P ts l).all (· ≤ M) = true
  | [], _, _ => by simp [DataW.weightsEach]
  | _ :: _, [], _ => by simp [DataW.weightsEach]
  | t :: ts, x :: r, h => by
    simp only [DataW.weightsEach, List.all_append, Bool.and_eq_true]
    exact ⟨h t (by simp) x (by simp), weightsEach_of fun u hu y hy => h u (by simp [hu]) y (by simp [hy])⟩
/-- What is of small bulk weighs little. -/
theorem bulk_w {H : Type} {P : Program} {S : Nat} (hS : 1 ≤ S) (n : Nat) : ∀ (d : Nat) (t : TypeId), szT P S d t = true → ∀ x : DataW H, Rows.uptoBulk x ≤ n → (DataW.weights P t x).all (· ≤ n * S) = true
  | 0, _, h, _, _ => by cases h
  | d + 1, t, h, x, hx => by
    have hn : n ≤ n * S := Nat.le_mul_of_pos_right _ hS
    unfold szT at h
    cases x with
    | lit l =>
      cases l with
      | string b =>
        simp only [Rows.uptoBulk] at hx
        simp only [DataW.weights, List.all_cons, List.all_nil, Bool.and_true, decide_eq_true_eq]; omega
      | _ => simp [DataW.weights]
    | nil | held _ | iface _ _ => simp [DataW.weights]
    | ptr y =>
      simp only [DataW.weights]
      split
      · rename_i hu; rw [hu] at h; cases h
      · rfl
    | map y =>
      simp only [DataW.weights]
      split
      · rename_i hu; rw [hu] at h; cases h
      · rfl
    | slice elems spare =>
      simp only [DataW.weights]
      split
      · rename_i e hu
        rw [hu] at h
        simp only [Bool.and_eq_true] at h
        simp only [Rows.uptoBulk] at hx
        have h1 := bulk_len elems
        have h2 := bulk_len spare
        simp only [List.all_cons, List.all_append, Bool.and_eq_true, decide_eq_true_eq]
        refine ⟨Nat.mul_le_mul (by omega) (Nat.le_of_ble_eq_true h.1), weightsAll_of fun y hy => ?_, weightsAll_of fun y hy => ?_⟩
        · have := bulk_mem hy; exact bulk_w hS n d e h.2 y (by omega)
        · have := bulk_mem hy; exact bulk_w hS n d e h.2 y (by omega)
      · rfl
    | agg parts =>
      simp only [DataW.weights]
      split
      · rename_i fs hu
        rw [hu] at h
        simp only [Rows.uptoBulk] at hx
        refine weightsEach_of fun u hu y hy => ?_
        obtain ⟨f, hf, rfl⟩ := List.mem_map.1 hu
        have := bulk_mem hy
        exact bulk_w hS n d f.type (List.all_eq_true.1 h f hf) y (by omega)
      · rename_i hu; rw [hu] at h; cases h
      · rfl
theorem bulk_each {H : Type} {P : Program} {S : Nat} (hS : 1 ≤ S) {d : Nat} {ts : List TypeId} (h : ts.all (szT P S d) = true) {l : List (DataW H)} {n : Nat} (hl : Rows.uptoBulkAll l ≤ n) : (DataW.weightsEach P ts l).all (· ≤ n * S) = true :=
  weightsEach_of fun t ht x hx => bulk_w hS n d t (List.all_eq_true.1 h t ht) x (Nat.le_trans (bulk_mem hx) hl)
theorem shape_bool {R : Nat} {P : Program} {d : Nat} {t : TypeId} {ls : List AV} (hu : P.underlying t = some .bool) (h : Shape R P (d + 1) t ls) : ∃ b : Bool, ls = [bln b] := by
  unfold Shape at h; rw [hu] at h; exact h
theorem cBool : Tryz.prog.cellsOf 4 = 1 := by kernel_rfl
theorem cSl : Tryz.prog.cellsOf 22 = 1 := by kernel_rfl
theorem cSlF : Tryz.prog.cellsOf 25 = 1 := by kernel_rfl
theorem cFile : Tryz.prog.cellsOf 41 = 3 := by kernel_rfl
theorem cNode : Tryz.prog.cellsOf 24 = 10 := by kernel_rfl
theorem cDisk : Tryz.prog.cellsOf 27 = 2 := by kernel_rfl
theorem cCase : Tryz.prog.cellsOf 29 = 14 := by kernel_rfl
theorem strs_all {R d : Nat} : ∀ {l : List AV}, (∀ x ∈ l, x.isAgg = isAggT Tryz.prog 9 ∧ x.isTup = false ∧ Shape R Tryz.prog (d + 1) 9 x.leaves) → ∃ ss : List ByteArray, l = ss.map (fun s => AV.v (.string s)) ∧ ∀ s ∈ ss, s.size ≤ R
  | [], _ => ⟨[], rfl, fun _ h => by cases h⟩
  | x :: l, h => by
    obtain ⟨ss, rfl, hs⟩ := strs_all (fun y hy => h y (List.mem_cons_of_mem _ hy))
    obtain ⟨h1, _, h2⟩ := h x (by simp)
    obtain ⟨s, e, hz⟩ := shape_str Tryz.underlying9 h2
    obtain rfl := one_of (h1.trans (by kernel_rfl)) e
    exact ⟨s :: ss, rfl, fun y hy => by rcases List.mem_cons.1 hy with rfl | hy; exact hz; exact hs y hy⟩
theorem shape_strs {R d : Nat} {ls : List AV} (h : Shape R Tryz.prog (d + 2) 22 ls) : ∃ ss : List ByteArray, ls = [eS ss] ∧ ss.length ≤ R ∧ ∀ s ∈ ss, s.size ≤ R := by
  obtain ⟨l, e, hl, hx⟩ := shape_sl Tryz.underlying22 h
  obtain ⟨ss, rfl, hs⟩ := strs_all hx
  rw [List.length_map] at hl
  exact ⟨ss, by rw [e, cStr], hl, hs⟩
theorem file_of {R d : Nat} {y : AV} (ha : y.isAgg = isAggT Tryz.prog 41) (h : Shape R Tryz.prog (d + 2) 41 y.leaves) : ∃ f : File, y = eF f ∧ f.name.size ≤ R ∧ f.text.size ≤ R := by
  have ha' : y.isAgg = true := ha.trans (by kernel_rfl)
  cases y with
  | agg ls =>
    obtain ⟨hl, hf⟩ := shape_st Tryz.underlying41 h
    rw [cFile] at hl
    match ls, hl with
    | [a, b, c], _ =>
      obtain ⟨f0, hf⟩ := List.forall_mem_cons.1 hf
      obtain ⟨f1, hf⟩ := List.forall_mem_cons.1 hf
      obtain ⟨f2, hf⟩ := List.forall_mem_cons.1 hf
      simp only [cStr, cInt] at f0 f1 f2
      obtain ⟨s, e0, z0⟩ := shape_str Tryz.underlying9 f0
      obtain ⟨n, e1, z1⟩ := shape_str Tryz.underlying9 f1
      obtain ⟨m, e2, _⟩ := shape_int Tryz.underlying3 f2
      obtain rfl := (List.cons.inj e0).1
      obtain rfl := (List.cons.inj e1).1
      obtain rfl := (List.cons.inj e2).1
      exact ⟨⟨s, n, m⟩, rfl, z0, z1⟩
  | _ => cases ha'
theorem files_all {R d : Nat} : ∀ {l : List AV}, (∀ x ∈ l, x.isAgg = isAggT Tryz.prog 41 ∧ x.isTup = false ∧ Shape R Tryz.prog (d + 2) 41 x.leaves) → ∃ fs : List File, l = fs.map eF ∧ ∀ f ∈ fs, f.name.size ≤ R ∧ f.text.size ≤ R
  | [], _ => ⟨[], rfl, fun _ h => by cases h⟩
  | x :: l, h => by
    obtain ⟨fs, rfl, hs⟩ := files_all (fun y hy => h y (List.mem_cons_of_mem _ hy))
    obtain ⟨h1, _, h2⟩ := h x (by simp)
    obtain ⟨f, rfl, hz⟩ := file_of h1 h2
    exact ⟨f :: fs, rfl, fun y hy => by rcases List.mem_cons.1 hy with rfl | hy; exact hz; exact hs y hy⟩
theorem node_of {R d : Nat} {ls : List AV} (hR : R ≤ 1000000000) (h : Shape R Tryz.prog (d + 3) 24 ls) : ∃ n : Node, AV.agg ls = eN n ∧ SzN n := by
  obtain ⟨hl, hf⟩ := shape_st Tryz.underlying24 h
  rw [cNode] at hl
  match ls, hl with
  | [a0, a1, a2, a3, a4, a5, a6, a7, a8, a9], _ =>
    obtain ⟨f0, hf⟩ := List.forall_mem_cons.1 hf
    obtain ⟨f1, hf⟩ := List.forall_mem_cons.1 hf
    obtain ⟨f2, hf⟩ := List.forall_mem_cons.1 hf
    obtain ⟨f3, hf⟩ := List.forall_mem_cons.1 hf
    obtain ⟨f4, hf⟩ := List.forall_mem_cons.1 hf
    obtain ⟨f5, hf⟩ := List.forall_mem_cons.1 hf
    obtain ⟨f6, hf⟩ := List.forall_mem_cons.1 hf
    obtain ⟨f7, hf⟩ := List.forall_mem_cons.1 hf
    obtain ⟨f8, hf⟩ := List.forall_mem_cons.1 hf
    obtain ⟨f9, hf⟩ := List.forall_mem_cons.1 hf
    simp only [cStr, cSl, cBool] at f0 f1 f2 f3 f4 f5 f6 f7 f8 f9
    obtain ⟨t, e0, z0⟩ := shape_str Tryz.underlying9 f0
    obtain ⟨ne, e1, z1, y1⟩ := shape_strs f1
    obtain ⟨re, e2, z2, y2⟩ := shape_strs f2
    obtain ⟨b3, e3⟩ := shape_bool Tryz.underlying4 f3
    obtain ⟨s4, e4, z4⟩ := shape_str Tryz.underlying9 f4
    obtain ⟨s5, e5, z5⟩ := shape_str Tryz.underlying9 f5
    obtain ⟨b6, e6⟩ := shape_bool Tryz.underlying4 f6
    obtain ⟨b7, e7⟩ := shape_bool Tryz.underlying4 f7
    obtain ⟨b8, e8⟩ := shape_bool Tryz.underlying4 f8
    obtain ⟨b9, e9⟩ := shape_bool Tryz.underlying4 f9
    obtain rfl := (List.cons.inj e0).1
    obtain rfl := (List.cons.inj e1).1
    obtain rfl := (List.cons.inj e2).1
    obtain rfl := (List.cons.inj e3).1
    obtain rfl := (List.cons.inj e4).1
    obtain rfl := (List.cons.inj e5).1
    obtain rfl := (List.cons.inj e6).1
    obtain rfl := (List.cons.inj e7).1
    obtain rfl := (List.cons.inj e8).1
    obtain rfl := (List.cons.inj e9).1
    exact ⟨⟨t, ne, re, b3, s4, s5, b6, b7, b8, b9⟩, rfl, by show t.size ≤ _; omega, ⟨by show ne.length ≤ _; omega, fun x hx => by have := y1 x hx; omega⟩, ⟨by show re.length ≤ _; omega, fun x hx => by have := y2 x hx; omega⟩⟩
theorem disk_of {R d : Nat} {ls : List AV} (h : Shape R Tryz.prog (d + 4) 27 ls) : ∃ (c : Int) (l : List File), ls = [i64 c, eFs l] ∧ l.length ≤ R ∧ ∀ f ∈ l, f.name.size ≤ R ∧ f.text.size ≤ R := by
  obtain ⟨hl, hf⟩ := shape_st Tryz.underlying27 h
  rw [cDisk] at hl
  match ls, hl with
  | [a, b], _ =>
    obtain ⟨f0, hf⟩ := List.forall_mem_cons.1 hf
    obtain ⟨f1, hf⟩ := List.forall_mem_cons.1 hf
    simp only [cInt, cSlF] at f0 f1
    obtain ⟨c, e0, _⟩ := shape_int Tryz.underlying3 f0
    obtain ⟨l, e1, hl, hx⟩ := shape_sl Tryz.underlying25 f1
    obtain ⟨fs, rfl, hs⟩ := files_all hx
    obtain rfl := (List.cons.inj e0).1
    obtain rfl := (List.cons.inj e1).1
    rw [List.length_map] at hl
    exact ⟨c, fs, by rw [cFile], hl, hs⟩
theorem case_of {R d : Nat} {y : AV} (hR : R ≤ 1000000000) (ha : y.isAgg = isAggT Tryz.prog 29) (h : Shape R Tryz.prog (d + 5) 29 y.leaves) : ∃ (n : Node) (t : ByteArray) (c k : Int) (l : List File), y = eCase n t c l k ∧ SzN n ∧ t.size ≤ R ∧ l.length ≤ R ∧ ∀ f ∈ l, f.name.size ≤ R ∧ f.text.size ≤ R := by
  have ha' : y.isAgg = true := ha.trans (by kernel_rfl)
  cases y with
  | agg ls =>
    obtain ⟨hl, hf⟩ := shape_st Tryz.underlying29 h
    rw [cCase] at hl
    match ls, hl with
    | [a0, a1, a2, a3, a4, a5, a6, a7, a8, a9, a10, a11, a12, a13], _ =>
      obtain ⟨f0, hf⟩ := List.forall_mem_cons.1 hf
      obtain ⟨f1, hf⟩ := List.forall_mem_cons.1 hf
      obtain ⟨f2, hf⟩ := List.forall_mem_cons.1 hf
      obtain ⟨f3, hf⟩ := List.forall_mem_cons.1 hf
      simp only [cNode, cStr, cDisk, cInt] at f0 f1 f2 f3
      obtain ⟨n, e0, hz⟩ := node_of hR f0
      obtain ⟨t, e1, ht⟩ := shape_str Tryz.underlying9 f1
      obtain ⟨c, l, e2, hl⟩ := disk_of f2
      obtain ⟨k, e3, _⟩ := shape_int Tryz.underlying3 f3
      have e0 := AV.agg.inj e0
      have e0 : [a0, a1, a2, a3, a4, a5, a6, a7, a8, a9] = _ := e0
      have e2 : [a11, a12] = _ := e2
      obtain rfl := (List.cons.inj e1).1
      obtain rfl := (List.cons.inj e3).1
      obtain ⟨q0, e0_0⟩ := List.cons.inj e0
      obtain ⟨q1, e0_1⟩ := List.cons.inj e0_0
      obtain ⟨q2, e0_2⟩ := List.cons.inj e0_1
      obtain ⟨q3, e0_3⟩ := List.cons.inj e0_2
      obtain ⟨q4, e0_4⟩ := List.cons.inj e0_3
      obtain ⟨q5, e0_5⟩ := List.cons.inj e0_4
      obtain ⟨q6, e0_6⟩ := List.cons.inj e0_5
      obtain ⟨q7, e0_7⟩ := List.cons.inj e0_6
      obtain ⟨q8, e0_8⟩ := List.cons.inj e0_7
      obtain ⟨q9, e0_9⟩ := List.cons.inj e0_8
      obtain ⟨p0, e2_0⟩ := List.cons.inj e2
      obtain ⟨p1, _⟩ := List.cons.inj e2_0
      subst q0 q1 q2 q3 q4 q5 q6 q7 q8 q9 p0 p1
      exact ⟨n, t, c, k, l, rfl, hz, ht, hl⟩
  | _ => cases ha'
/-- The package variables that the row lays are as Ev asks. -/
theorem glob_of {W : World} (h1 : ∃ te pe, W.cell? ⟨1, 0, none⟩ = some (.iface te pe)) (h2 : ∃ te pe, W.cell? ⟨2, 0, none⟩ = some (.iface te pe))
    (h1' : ∃ cs e f, W.heap[1]? = some (.cells cs e f) ∧ cs.size = 1) (h2' : ∃ cs e f, W.heap[2]? = some (.cells cs e f) ∧ cs.size = 1)
    (h3 : Lib.TabIs Tryz.prog W "internal/strconv.uint64pow10" .u64 Lib.pow10Tab) : GlobOk W (blockHw W) := by
  refine ⟨fun p hp => (by cases hp), fun p hp => ?_⟩
  have err : ∀ g : Nat, (∃ te pe, W.cell? ⟨g, 0, none⟩ = some (.iface te pe)) → (∃ cs e f, W.heap[g]? = some (.cells cs e f) ∧ cs.size = 1) → ∃ vs, IsErr vs ∧ Whole W (blockHw W) g vs := by
    rintro g ⟨t, p, hc⟩ ⟨cs, e, f, hh, hs⟩
    refine ⟨[.iface t p], ⟨t, p, rfl⟩, cs.size, blockHw_cells hh, by simp [hs], fun j => ?_⟩
    unfold World.cell? at hc ⊢
    simp only [hh, Option.isSome_none, Bool.false_eq_true, if_false] at hc ⊢
    cases j with
    | zero => rw [hc]; rfl
    | succ j => rw [Array.getElem?_eq_none (by omega)]; simp
  simp only [globP, List.mem_cons, List.not_mem_nil, or_false] at hp
  rcases hp with rfl | rfl | rfl
  · unfold Lib.TabIs World.var? at h3
    rw [gPow, Option.bind_some] at h3
    split at h3
    · rename_i cs e f hh
      cases h3
      refine ⟨_, rfl, _, blockHw_cells hh, by simp, fun j => ?_⟩
      unfold World.cell?
      simp only [hh, Option.isSome_none, Bool.false_eq_true, if_false, List.getElem?_toArray]
    · cases h3
  · exact err _ h1 h1'
  · exact err _ h2 h2'
end Go.Proofs.YtepdiooaoegpfaaGreatDoor.Fx
end
section
/- From the row's reading of a Case to trees, for ExecKeeps. Conditions: none beyond those in each statement. -/
namespace Go.Proofs.YtepdiooaoegpfaaGreatDoor.Fx
open Go Go.Proofs Go.Ev Go.RowKit
set_option maxRecDepth 100000
set_option linter.unusedVariables false
theorem shapeAll1 {R : Nat} {P : Program} {d : Nat} {t1 : TypeId} : ∀ {avs : List AV}, ShapeAll R P d [t1] avs → ∃ a, avs = [a] ∧ (a.isAgg = isAggT P t1 ∧ Shape R P d t1 a.leaves)
  | [], h => h.elim
  | [a], h => ⟨a, rfl, h.1⟩
  | _ :: _ :: _, h => h.2.elim
end Go.Proofs.YtepdiooaoegpfaaGreatDoor.Fx
end
section
/- The law ExecDoes, and from the row's reading of a Case to trees. Conditions: the sizes that a row tells. -/
namespace Go.Proofs.YtepdiooaoegpfaaGreatDoor.Fx
open Go Go.Proofs Go.Ev Go.RowKit
set_option maxRecDepth 100000
set_option linter.unusedVariables false
theorem c_law_Does {n : Node} {t : ByteArray} {clock k : Int} {l : List File} (hz : SzN n) (hl : SzF l) : XPure Tryz.prog 3 [eCase n t clock l k] (bln true) false := by
  refine law_Does hl.1 ?_ (c_DoD hz) (c_ref17_Do hz hl)
  by_cases hE : doE n t clock l k = 0
  · have hd : okD clock l = true := by
      have h := hE
      unfold doE at h
      repeat' (first | (split at h) | (cases h; done))
      all_goals first | (simpa using ‹¬ okD clock l = false›) | (exfalso; omega)
    have hx : doD n t clock l k = doIt n t clock l k := by unfold doD; rw [if_pos hE]
    have K : Keeps n clock l (doIt n t clock l k) := do_keeps hd
    have := (okD_iff.1 K.ok).2.2.1
    rw [hx]; omega
  · have hx : doD n t clock l k = noD := by unfold doD; rw [if_neg hE]
    rw [hx]; exact Nat.zero_le _
theorem does_args {R : Nat} {avs : List AV} (hR : R ≤ 1000000000) (h : ShapeAll R Tryz.prog 8 [29] avs) : ∃ (n : Node) (t : ByteArray) (c k : Int) (l : List File), avs = [eCase n t c l k] ∧ SzN n ∧ SzF l := by
  obtain ⟨a, rfl, a1, a2⟩ := shapeAll1 h
  obtain ⟨n, t, c, k, l, rfl, hz, _, hl, hs⟩ := case_of hR a1 a2
  exact ⟨n, t, c, k, l, rfl, hz, ⟨by omega, fun f hf => by have := (hs f hf).1; omega⟩⟩
end Go.Proofs.YtepdiooaoegpfaaGreatDoor.Fx
end
