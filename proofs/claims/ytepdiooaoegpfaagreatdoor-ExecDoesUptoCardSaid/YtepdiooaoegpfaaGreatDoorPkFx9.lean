/- Written by programs of this session: laws and contracts that the law's proof stands on, merged into one text. Conditions: none beyond those in each statement. -/
import Derived.Test.YtepdiooaoegpfaaGreatDoorPkFx8
import Derived.Test.YtepdiooaoegpfaaGreatDoorPkSp2
import Derived.Test.YtepdiooaoegpfaaGreatDoorPkWd1
import Derived.Test.YtepdiooaoegpfaaGreatDoorPkEv20
import Derived.WalkSpells
import Derived.WalkLawsBesides
import Derived.Lib.Builder
import Derived.Lib.Hide
import Derived.Test.YtepdiooaoegpfaaGreatDoorPkFx4
section
/- Numerals by Go's library. Conditions: those in each statement. -/
namespace Go.Proofs.YtepdiooaoegpfaaGreatDoor.Fx
open Go Go.Proofs Go.Ev Go.RowKit
set_option maxRecDepth 100000
set_option linter.unusedSimpArgs false
set_option linter.unusedVariables false
theorem gPow : Tryz.prog.globalNamed "internal/strconv.uint64pow10" = some 3 := by kernel_rfl
theorem whole_arr {w : World} {hw : Hw} {b : Nat} {vs : List Value} (h0 : 0 < vs.length) (h : Whole w hw b vs) : ∃ e f, w.heap[b]? = some (.cells vs.toArray e f) := by
  obtain ⟨n, _, _, c⟩ := h
  have c0 := c 0
  unfold World.cell? at c
  simp only [Option.isSome_none, Bool.false_eq_true, if_false] at c
  cases hh : w.heap[b]? with
  | none => rw [hh] at c; have := c 0; rw [List.getElem?_eq_getElem h0] at this; simp at this
  | some o =>
    rw [hh] at c
    cases o with
    | cells cs e f =>
      refine ⟨e, f, ?_⟩
      have : cs = vs.toArray := Array.ext_getElem? fun i => by
        have := c i
        simp only at this
        rw [this, List.getElem?_toArray]
      rw [this]
    | _ => have := c 0; rw [List.getElem?_eq_getElem h0] at this; simp at this
theorem glob_pow {w : World} {g : Gh} (G : Ev.Good w g [] 0) : Lib.TabIs Tryz.prog w "internal/strconv.uint64pow10" .u64 Lib.pow10Tab := by
  obtain ⟨vs, rfl, h⟩ := G.glob.2 _ (List.mem_cons_self ..)
  obtain ⟨e, f, hh⟩ := whole_arr (by decide) h
  unfold Lib.TabIs World.var?
  rw [gPow, Option.bind_some]
  simp only [hh]
theorem glob_err {w : World} {g : Gh} (G : Ev.Good w g [] 0) {b : Nat} (hb : (b, IsErr) ∈ globP) : ∃ t p, w.cell? ⟨b, 0, none⟩ = some (.iface t p) := by
  obtain ⟨vs, ⟨t, p, rfl⟩, n, _, _, c⟩ := G.glob.2 _ hb
  exact ⟨t, p, c 0⟩
theorem args_str {w : World} {hw : Hw} {s : ByteArray} {vs : List Value} (h : RepT w hw [] 0 [str s] vs) : vs = [.string s] := by
  simp only [RepT] at h
  obtain ⟨v, _, rfl, h1, rfl⟩ := h
  rw [(rep_v (rep_of h1)).1]
theorem args_int {w : World} {hw : Hw} {n : Int} {vs : List Value} (h : RepT w hw [] 0 [i64 n] vs) : vs = [.int .i64 n] := by
  simp only [RepT] at h
  obtain ⟨v, _, rfl, h1, rfl⟩ := h
  rw [(rep_v (rep_of h1)).1]
theorem below_drewN (w : World) (k : Nat) (os : Array Obj) : Below w.heap.size w (Sort.grow (w.drewN k) os) :=
  ⟨rfl, rfl, rfl, by show w.heap.size ≤ (w.heap ++ os).size; rw [Array.size_append]; omega, fun k hk => by show (w.heap ++ os)[k]? = _; rw [Array.getElem?_append_left hk]⟩
theorem c_Itoa {n : Int} (h0 : -9223372036854775808 ≤ n) (h1 : n ≤ 9223372036854775807) : XPure Tryz.prog 92 [i64 n] (str ⟨(Lib.itoa n).toArray⟩) false :=
  XPure.ofMem (u := .string ⟨(Lib.itoa n).toArray⟩) ⟨_, Tryz.func92, rfl, by kernel_rfl⟩ rfl rfl (fun w g vs G _ hv => by
    rw [args_int hv]
    refine (Tryz.strconv_Itoa n h0 h1 w (glob_pow G)).mono fun e w' ⟨he, k, os, hw⟩ => ⟨he, ?_⟩
    subst hw
    exact below_drewN w k os) fun _ _ _ _ => rep_v_mk rfl
theorem c_Atoi_ok {s : ByteArray} {v : Int} (hs : s.size ≤ 140737488355328) (h : Lib.atoiAll s.data.toList = .ok v) : XPure Tryz.prog 91 [str s] (.tup [i64 v, .v .nilIface]) false :=
  XPure.ofMem (u := .tuple #[.int .i64 v, .nilIface]) ⟨_, Tryz.func91, rfl, by kernel_rfl⟩ rfl rfl (fun w g vs G _ hv => by
    rw [args_str hv]
    refine (Tryz.strconv_Atoi_ok s (by omega) v h w).mono fun e w' ⟨he, hw⟩ => ⟨he, ?_⟩
    rcases hw with rfl | ⟨t, rfl⟩
    · exact Below.refl _ _
    · exact Go.Proofs.YtepdiooaoegpfaaGreatDoorW.PrintWords.bytes_below (Below.refl _ _) (Nat.le_refl _) _ _) fun w hw bs base => by
    refine ⟨_, rfl, ?_⟩
    simp only [RepT]
    exact ⟨_, _, rfl, rep1_of rfl (rep_v_mk rfl), _, _, rfl, rep1_of rfl (rep_v_mk rfl), rfl⟩
theorem c_Atoi_err {s : ByteArray} (hs : s.size ≤ 140737488355328) (h : ∀ v, Lib.atoiAll s.data.toList ≠ .ok v) : XPure Tryz.prog 91 [str s] (.tup [.top, .ifc 191 .top]) false :=
  XPure.ofMemR ⟨_, Tryz.func91, rfl, by kernel_rfl⟩ rfl rfl (fun w g vs G _ hv => by
    rw [args_str hv]
    have hR : ∀ (m : Int) (N : Nat) (w' : World) (hw : Hw) (bs : List Nat) (base : Nat), Rep w' hw bs base (.tup [.top, .ifc 191 .top]) (.tuple #[.int .i64 m, .iface 191 (.pointer (some ⟨N, 0, none⟩))]) := fun m N w' hw bs base => by
      refine ⟨_, rfl, ?_⟩
      simp only [RepT]
      refine ⟨_, _, rfl, .inl rfl, _, _, rfl, .inr ⟨?_, rfl⟩, rfl⟩
      show RepV w' hw bs base (.ifc 191 .top) [.iface 191 (.pointer (some ⟨N, 0, none⟩))]
      simp only [RepV]
      exact ⟨_, rfl, ⟨_, rfl⟩, rfl⟩
    cases hA : Lib.atoiAll s.data.toList with
    | ok v => exact absurd hA (h v)
    | range =>
      obtain ⟨t, p, hc⟩ := glob_err G (b := 2) (by simp [globP])
      exact (Tryz.strconv_Atoi_range s (by omega) hA _ w hc (.inr ⟨t, p, rfl⟩)).mono fun e w' ⟨N, he, _, _, hb⟩ => ⟨_, he, hb, hR _ N w'⟩
    | _ =>
      obtain ⟨t, p, hc⟩ := glob_err G (b := 1) (by simp [globP])
      exact (Tryz.strconv_Atoi_syntax s (by omega) hA _ w hc (.inr ⟨t, p, rfl⟩)).mono fun e w' ⟨N, he, _, _, hb⟩ => ⟨_, he, hb, hR _ N w'⟩)
end Go.Proofs.YtepdiooaoegpfaaGreatDoor.Fx
end
section
/- A copying command: what it reads and writes. Conditions: those in each statement. -/
namespace Go.Proofs.YtepdiooaoegpfaaGreatDoor.Fx
open Go Go.Proofs Go.Ev Go.RowKit
set_option maxRecDepth 100000
set_option maxHeartbeats 1600000
set_option linter.unusedSimpArgs false
set_option linter.unusedVariables false
theorem c_Line_copy {t a b : ByteArray} (hV : wordsV t = [copyW, a, b]) (hE : wordsE t = 0) (ha : isName a = true) (hb : isName b = true) : XPure Tryz.prog 44 [str t] (.tup [eC 1 b [a] [] 0, i64 0]) false := by
  have hW : XPure Tryz.prog 66 [str t] (.tup [eS [copyW, a, b], i64 0]) false := by
    have h := c_lex_Words (s := t)
    rwa [hV, hE] at h
  refine XPure.body ⟨_, Tryz.func44, rfl, by kernel_rfl⟩ Tryz.func44 rfl (Nat.le_of_ble_eq_true (by rfl)) (pf_of1 rfl) fun env => ?_
  repeat' ((conv => whnf); (fail_if_success refine zC ?_); first | refine zSd ?_ | refine zB (fun h hs => ?_) (fun h hs => ?_) <;> try exact hs.elim | refine .inl ⟨_, _, hW, ?_⟩ | refine .inl ⟨_, _, c_Parse_copy ha hb, ?_⟩ | exact zE | refine zZ ?_ | fail)
theorem c_of_copy {a b : ByteArray} : XPure Tryz.prog 76 [eC 1 b [a] [] 0] (.tup [.ifc 155 (.agg [str a, str b]), i64 0]) false := by
  refine XPure.body ⟨_, Tryz.func76, rfl, by kernel_rfl⟩ Tryz.func76 rfl (Nat.le_of_ble_eq_true (by rfl)) (pf_of1 rfl) fun env => ?_
  repeat' ((conv => whnf); (fail_if_success refine zC ?_); first | refine zSm ?_ | refine zB (fun h hs => ?_) (fun h hs => ?_) <;> try exact hs.elim | exact zE | refine zZ ?_ | fail)
theorem c_told_copy {a b : ByteArray} (ha : isName a = true) (hb : isName b = true) : XPure Tryz.prog 54 [eC 1 b [a] [] 0] (.tup [.ifc 155 (.agg [str a, str b]), i64 0]) false := by
  have hsz : ∀ x : ByteArray, isName x = true → x.size ≤ 140737488355328 := fun x h => by
    unfold isName at h; simp only [Bool.and_eq_true, decide_eq_true_eq] at h; omega
  have hR : XPure Tryz.prog 171 [.agg [str a, str b]] (i64 0) false := by
    have h := c_copying_right (hsz a ha) (hsz b hb)
    rwa [show errIf ([b, a].all isName) 3 = 0 from by simp [errIf, ha, hb]] at h
  refine XPure.body ⟨_, Tryz.func54, rfl, by kernel_rfl⟩ Tryz.func54 rfl (Nat.le_of_ble_eq_true (by rfl)) (pf_of1 rfl) fun env => ?_
  repeat' ((conv => whnf); (fail_if_success refine zC ?_); first | refine zSd ?_ | refine zB (fun h hs => ?_) (fun h hs => ?_) <;> try exact hs.elim | refine .inl ⟨_, _, c_of_copy, ?_⟩ | refine .inl ⟨_, _, hR, ?_⟩ | exact zE | refine zZ ?_ | fail)
theorem c_Reads_copy {a b : ByteArray} (ha : isName a = true) (hb : isName b = true) : XPure Tryz.prog 45 [eC 1 b [a] [] 0] (.tup [eS [a], i64 0]) false := by
  refine XPure.body ⟨_, Tryz.func45, rfl, by kernel_rfl⟩ Tryz.func45 rfl (Nat.le_of_ble_eq_true (by rfl)) (pf_of1 rfl) fun env => ?_
  repeat' ((conv => whnf); (fail_if_success refine zC ?_); first | refine zSd ?_ | refine zB (fun h hs => ?_) (fun h hs => ?_) <;> try exact hs.elim | refine .inl ⟨_, _, c_told_copy ha hb, ?_⟩ | refine .inl ⟨_, _, c_copying_reads, ?_⟩ | exact zE | refine zZ ?_ | fail)
theorem c_Writes_copy {a b : ByteArray} (ha : isName a = true) (hb : isName b = true) : XPure Tryz.prog 31 [eC 1 b [a] [] 0] (.tup [str b, bln true, i64 0]) false := by
  refine XPure.body ⟨_, Tryz.func31, rfl, by kernel_rfl⟩ Tryz.func31 rfl (Nat.le_of_ble_eq_true (by rfl)) (pf_of1 rfl) fun env => ?_
  repeat' ((conv => whnf); (fail_if_success refine zC ?_); first | refine zSd ?_ | refine zB (fun h hs => ?_) (fun h hs => ?_) <;> try exact hs.elim | refine .inl ⟨_, _, c_told_copy ha hb, ?_⟩ | refine .inl ⟨_, _, c_copying_writes, ?_⟩ | exact zE | refine zZ ?_ | fail)
end Go.Proofs.YtepdiooaoegpfaaGreatDoor.Fx
end
section
/- The files that a command reads, joined. Conditions: those in each statement. -/
namespace Go.Proofs.YtepdiooaoegpfaaGreatDoor.Fx
open Go Go.Proofs Go.Ev Go.RowKit Go.Proofs.YtepdiooaoegpfaaGreatDoor.Sup Go.Proofs.YtepdiooaoegpfaaGreatDoorW.PrintWords
set_option linter.unusedSimpArgs false
set_option linter.unusedVariables false
/-- What is read: a fault, or the texts. -/
def readGo (clock : Int) (l : List File) : List ByteArray → List UInt8 → Int × List UInt8
  | [], acc => (0, acc)
  | s :: r, acc => if findE clock l s = 0 then readGo clock l r (acc ++ ((findD clock l s).getD File.none).text.data.toList) else (findE clock l s, [])
def readE (clock : Int) (l : List File) (src : List ByteArray) : Int := (readGo clock l src []).1
def readT (clock : Int) (l : List File) (src : List ByteArray) : ByteArray := ⟨(readGo clock l src []).2.toArray⟩
theorem chk_all {clock : Int} : ∀ (l : List File) (p : Option ByteArray), chkF clock p l = true → ∀ f ∈ l, fileOk clock f = true
  | [], _, _, f, h => absurd h List.not_mem_nil
  | x :: r, p, h, f, hf => by
    simp only [chkF, Bool.and_eq_true] at h
    rcases List.mem_cons.1 hf with rfl | hf
    · exact h.1.1
    · exact chk_all r _ h.2 f hf
theorem findF_mem : ∀ (l : List File) (s : ByteArray) (f : File), findF l s = some f → f ∈ l
  | [], _, _, h => by cases h
  | x :: r, s, f, h => by
    simp only [findF] at h
    split at h
    · cases h; exact List.mem_cons_self ..
    · exact List.mem_cons_of_mem _ (findF_mem r s f h)
theorem find_text {clock : Int} {l : List File} {s : ByteArray} : ((findD clock l s).getD File.none).text.size ≤ 4096 := by
  unfold findD
  cases h : (okD clock l && isName s) with
  | false => exact Nat.zero_le _
  | true =>
    simp only [Bool.and_eq_true] at h
    cases hf : findF l s with
    | none => exact Nat.zero_le _
    | some f =>
      have h1 := h.1
      unfold okD at h1
      simp only [Bool.and_eq_true] at h1
      exact (fileOk_iff.1 (chk_all l _ h1.2 f (findF_mem l s f hf))).2.1
theorem repE_str {w : World} {hw : Hw} : ∀ (l : List ByteArray) (cs : List Value), RepE w hw 1 (l.map fun x => .v (.string x)) cs → cs = l.map Value.string
  | [], cs, h => by simpa only [List.map_nil, RepE] using h
  | x :: l, cs, h => by
    simp only [List.map_cons, RepE] at h
    obtain ⟨h0, h1, h2⟩ := h
    obtain ⟨c, cs, rfl⟩ : ∃ c r, cs = c :: r := by
      cases cs with
      | nil => simp at h0
      | cons c r => exact ⟨c, r, rfl⟩
    have := repE_str l _ h2
    simp only [List.drop_succ_cons, List.drop_zero] at this
    have h1' := h1.1
    simp only [RepV, List.take_succ_cons, List.take_zero, List.cons.injEq, and_true] at h1'
    rw [h1', this]; rfl
theorem owns_below {w w' : World} {B : Nat} {e : TypeId} {size : Nat} {v : Value} {n : Nat} {xs : List Value} (h : w.ownsRow B e size v n xs) (hB : Below w.heap.size w w') : w'.ownsRow B e size v n xs := by
  unfold World.ownsRow at h ⊢
  obtain ⟨h1, h2⟩ := h
  refine ⟨h1, h2.imp id ?_⟩
  rintro ⟨g, cap, cur, e1, e2, e3, e4⟩
  exact ⟨g, cap, cur, e1, e2, (hB.block g (Array.getElem?_eq_some_iff.1 e3).1).trans e3, e4⟩
theorem builder_below {T e : TypeId} {B b : Nat} {bs : List Value} {w w' : World} (h : Lib.IsBuilder T e B b bs w) (hB : Below w.heap.size w w') : Lib.IsBuilder T e B b bs w' := by
  have one : ∀ p, Lib.BuilderAt T e B b p bs w → Lib.BuilderAt T e B b p bs w' := by
    rintro p ⟨h1, v, h2, h3, h4⟩
    exact ⟨h1, v, (hB.block b (Array.getElem?_eq_some_iff.1 h2).1).trans h2, owns_below h3 hB, h4⟩
  exact h.imp (one _) (one _)
theorem readGo_step {clock : Int} {l : List File} {src : List ByteArray} {p : Nat} {s : ByteArray} {acc : List UInt8} (hp : p < src.length) (hs : src[p] = s) : readGo clock l (src.drop p) acc = if findE clock l s = 0 then readGo clock l (src.drop (p + 1)) (acc ++ ((findD clock l s).getD File.none).text.data.toList) else (findE clock l s, []) := by
  rw [List.drop_eq_getElem_cons hp, hs]; rfl
theorem find_mem {clock : Int} {l : List File} {s : ByteArray} {w : World} {g : Gh} {vb : Value} (G : Ev.Good w g [] 0) (ho : g.own = fun _ => none) (hb : Rep w g.hw [] 0 (eD clock l) vb) :
    Calls Tryz.prog 52 #[vb, .string s] w fun e w' => e = .returned (.tuple #[.agg #[.string ((findD clock l s).getD File.none).name, .string ((findD clock l s).getD File.none).text, .int .i64 ((findD clock l s).getD File.none).stamp], .int .i64 (findE clock l s)]) ∧ Below w.heap.size w w' := by
  have hv : RepT w g.hw [] 0 [eD clock l, str s] [vb, .string s] := by
    simp only [RepT]
    exact ⟨_, _, rfl, rep1_of rfl hb, _, _, rfl, rep1_of rfl (rep_v_mk rfl), rfl⟩
  refine ((c_disk_Find (clock := clock) (l := l) (s := s)).toMem G ho hv).mono ?_
  rintro e w' ⟨u, g', rfl, B, _, hr⟩
  refine ⟨?_, B⟩
  obtain ⟨vs, rfl, hr⟩ := hr
  simp only [RepT] at hr
  obtain ⟨u1, _, e1, r1, u2, _, rfl, r2, rfl⟩ := hr
  obtain rfl : vs = #[u1, u2] := Array.toList_inj.1 e1
  obtain ⟨c1, rfl, hc⟩ := rep_agg (rep_of r1)
  simp only [RepL, RepV, List.cons.injEq, and_true] at hc
  obtain ⟨a1, _, e1, ⟨rfl, _⟩, a2, _, rfl, ⟨rfl, _⟩, a3, _, rfl, ⟨rfl, _⟩, rfl⟩ := hc
  obtain rfl : c1 = #[_, _, _] := Array.toList_inj.1 e1
  rw [(rep_v (rep_of r2)).1]
set_option maxHeartbeats 4000000 in
set_option maxRecDepth 100000 in
theorem read_mem {clock : Int} {l : List File} {op st : Int} {dst : ByteArray} {src words : List ByteArray} (hs : src.length ≤ 1000000000) (w : World) (g : Gh) (va vb : Value) (G : Ev.Good w g [] 0) (ho : g.own = fun _ => none)
    (ha : Rep w g.hw [] 0 (eC op dst src words st) va) (hb : Rep w g.hw [] 0 (eD clock l) vb) :
    Calls Tryz.prog 47 #[va, vb] w fun e w' => e = .returned (.tuple #[.string (readT clock l src), .int .i64 (readE clock l src)]) ∧ Below w.heap.size w w' := by
  obtain ⟨ca, rfl, hca⟩ := rep_agg ha
  obtain ⟨cb, rfl, hcb⟩ := rep_agg hb
  simp only [RepL] at hca hcb
  obtain ⟨a1, _, e1, ⟨h1, _⟩, a2, _, rfl, ⟨h2, _⟩, a3, _, rfl, ⟨h3, _⟩, a4, _, rfl, ⟨h4, _⟩, a5, _, rfl, ⟨h5, _⟩, rfl⟩ := hca
  obtain ⟨b1, _, f1, ⟨k1, _⟩, b2, _, rfl, ⟨k2, _⟩, rfl⟩ := hcb
  obtain rfl : ca = #[a1, a2, a3, a4, a5] := Array.toList_inj.1 e1
  obtain rfl : cb = #[b1, b2] := Array.toList_inj.1 f1
  simp only [RepV, List.cons.injEq, and_true] at h1 h2 h5 k1
  subst h1 h2 h5 k1
  simp only [RepV, List.cons.injEq, and_true] at h3
  obtain ⟨A, cp, rfl, hcp, hfit, hsrc⟩ := h3
  rw [List.length_map] at *
  obtain ⟨R, hR⟩ : ∃ R, readGo clock l src [] = R := ⟨_, rfl⟩
  unfold readT readE
  rw [hR]
  have HR := Lib.hid hR
  clear hR
  go_enter Tryz.func47, Tryz.ntmps47
  go_wp2
  obtain ⟨ws, hws⟩ : ∃ ws, (w.alloc (.cells #[.int .i64 op, .string dst, .slice A src.length cp, a4, .int .i64 st] 68)).alloc (.cells #[.int .i64 clock, b2] 27) = ws := ⟨_, rfl⟩
  rw [hws]
  have hwsz : ws.heap.size = w.heap.size + 1 + 1 := by rw [← hws]; exact (Array.size_push ..).trans (congrArg (· + 1) (Array.size_push ..))
  have hbox : ws.heap[w.heap.size + 1]? = some (.cells #[.int .i64 clock, b2] 27 (0, 0)) := by rw [← hws]; exact (congrArg (fun k => (World.alloc _ _).heap[k]?) (Array.size_push ..).symm).trans (heap_alloc_new _ _)
  have hB0 : Below w.heap.size w ws := by rw [← hws]; exact ((Below.refl _ _).alloc (Nat.le_refl _) _).alloc (Nat.le_of_lt (by rw [show (w.alloc _).heap.size = w.heap.size + 1 from Array.size_push ..]; exact Nat.lt_succ_self _)) _
  rw [← hwsz]
  have HW := Aside0.mk hwsz
  have HX := Aside0.mk hbox
  have H0 := Aside0.mk hB0
  clear hws hwsz hbox hB0
  go_loopw [14] (fun i wr => ∃ (p : Nat) (acc : List UInt8), i = .int .i64 p ∧ p ≤ src.length ∧ acc.length ≤ p * 4096 ∧ Aside0 (readGo clock l (src.drop p) acc = R) ∧ Aside0 (Lib.IsBuilder 125 5 ws.heap.size ws.heap.size (Lib.byteCells acc) wr) ∧ Aside0 (Below ws.heap.size ws wr)) (fun i _ => src.length - (intOf i).toNat)
  case atStart => exact ⟨0, [], by go_num, Nat.zero_le _, Nat.zero_le _, ⟨HR.out⟩, ⟨Lib.fresh_isBuilder 125 5 ws⟩, ⟨(Below.refl _ _).alloc (Nat.le_refl _) _⟩⟩
  case round =>
    obtain ⟨p, acc, rfl, hp, hacc, HA, HI, HB⟩ := hrel
    have hBw : ws.heap.size ≤ wr.heap.size := HB.out.size
    by_cases hlt : p < src.length
    · obtain ⟨s, hsp⟩ : ∃ s, src[p] = s := ⟨_, rfl⟩
      have hA : ∃ bk o, A = some ⟨bk, o, none⟩ ∧ wr.cell? ⟨bk, o + p, none⟩ = some (.string s) := by
        rcases hsrc with h | ⟨bk, o, cs, h1, h2, h3⟩
        · have : src = [] := by simpa using h
          subst this; simp at hlt
        · refine ⟨bk, o, h1, ?_⟩
          have hcs := repE_str src cs h3
          subst hcs
          have hcell := h2.at p (.string s) (by simp [hlt, hsp])
          have hbk : bk < w.heap.size := World.block_lt_of_cell? w _ hcell
          have hbel : Below w.heap.size w wr := H0.out.trans (HB.out.mono (by have := HW.out; omega))
          exact (hbel.cell (p := ⟨bk, o + p, none⟩) hbk).trans hcell
      obtain ⟨bk, o, rfl, hcell⟩ := hA
      have hbx : wr.heap[w.heap.size + 1]? = some (.cells #[.int .i64 clock, b2] 27 (0, 0)) := (HB.out.block _ (by have := HW.out; omega)).trans HX.out
      have hd0 : wr.cell? ⟨w.heap.size + 1, 0, none⟩ = some (.int .i64 clock) := by simp [World.cell?, hbx]
      have hd1 : wr.cell? ⟨w.heap.size + 1, 1, none⟩ = some b2 := by simp [World.cell?, hbx]
      have hbel : Below w.heap.size w wr := H0.out.trans (HB.out.mono (by have := HW.out; omega))
      have hFind := find_mem (s := s) (G.below hbel) ho (hb.mono (HwLe.below G hbel) fun _ _ h => h)
      have HF := Aside0.mk hFind
      clear hFind hbel
      obtain ⟨E, hE⟩ : ∃ E, findE clock l s = E := ⟨_, rfl⟩
      obtain ⟨F, hF⟩ : ∃ F, (findD clock l s).getD File.none = F := ⟨_, rfl⟩
      rw [hE, hF] at HF
      have HE := Aside0.mk hE
      have HFF := Aside0.mk hF
      clear hE hF hbx hsrc ha h4 k2 hfit
      have HBB := Aside0.mk hb
      have HSP := Aside0.mk hsp
      clear hb hsp
      cases he : (E == 0)
      · have hne : (E != 0) = true := by simp [bne, he]
        go_wp2_with (go_at_call 52; refine HF.out.mono ?_; rintro e w1 ⟨rfl, hB1⟩)
        go_ret2
        have hstep := (readGo_step (clock := clock) (l := l) (acc := acc) hlt HSP.out).symm.trans HA.out
        rw [HE.out, if_neg (by simpa using he)] at hstep
        subst hstep
        refine ⟨rfl, ?_⟩
        exact (H0.out.trans (HB.out.mono (by have := HW.out; omega))).trans ((hB1.mono (by have := HB.out.size; have := H0.out.size; omega)).alloc (by have := hB1.size; have := HB.out.size; have := H0.out.size; omega) _)
      · have hne : (E != 0) = false := by simp [bne, he]
        have hE0 : E = 0 := by simpa using he
        have hlen : F.text.size ≤ 4096 := by rw [← HFF.out]; exact find_text
        go_wp2_with (first | (go_at_call 52; refine HF.out.mono ?_; rintro e w1 ⟨rfl, hB1⟩) | (go_at_call 69; refine (Tryz.Builder_WriteString ws.heap.size ws.heap.size (Lib.byteCells acc) F.text _ (builder_below HI.out (hB1.alloc hB1.size _)) (by simp only [Lib.byteCells, List.length_map]; omega) (by have := hB1.size; have := HB.out.size; simp only [World.alloc, Array.size_push]; omega)).mono ?_; rintro e w2 ⟨rfl, hI2, hB2⟩))
        have HI2 := Aside0.mk hI2
        have HBE : Aside0 (Below ws.heap.size ws w2) := ⟨(HB.out.trans ((hB1.mono HB.out.size).alloc (by have := hB1.size; have := HB.out.size; omega) _)).trans hB2⟩
        clear hI2 hB2
        go_roundw
        case rel =>
          refine ⟨p + 1, acc ++ F.text.data.toList, by go_num, by omega, ?_, ⟨?_⟩, ⟨.inr ?_⟩, HBE⟩
          · rw [List.length_append]; have : F.text.data.toList.length = F.text.size := by simp
            omega
          · have hstep := (readGo_step (clock := clock) (l := l) (acc := acc) hlt HSP.out).symm.trans HA.out
            rw [HE.out, if_pos hE0, HFF.out] at hstep
            exact hstep
          · have := HI2.out
            rw [Lib.strCells_eq] at this
            simpa only [Lib.byteCells, List.map_append] using this
        case measure => simp [intOf]; omega
    · go_wp2_with (go_at_call 70; refine (Tryz.Builder_String_any ws.heap.size ws.heap.size acc _ HI.out hBw).mono ?_; rintro e w1 ⟨rfl, hB1⟩)
      go_ret2
      have hend : (0, acc) = R := by
        have := HA.out
        rw [List.drop_eq_nil_of_le (by omega)] at this
        exact this
      subst hend
      exact ⟨rfl, (H0.out.trans (HB.out.mono (by have := HW.out; omega))).trans (hB1.mono (by have := HW.out; omega))⟩
theorem c_exec_read {clock : Int} {l : List File} {op st : Int} {dst : ByteArray} {src words : List ByteArray} (hs : src.length ≤ 1000000000) :
    XPure Tryz.prog 47 [eC op dst src words st, eD clock l] (.tup [str (readT clock l src), i64 (readE clock l src)]) false :=
  XPure.ofMem (u := .tuple #[.string (readT clock l src), .int .i64 (readE clock l src)]) ⟨_, Tryz.func47, rfl, by kernel_rfl⟩ rfl rfl (fun w g vs G ho hv => by
    simp only [RepT] at hv
    obtain ⟨va, _, rfl, ha, vb, _, rfl, hb, rfl⟩ := hv
    exact read_mem hs w g va vb G ho (rep_of ha) (rep_of hb)) fun w hw bs base => by
    refine ⟨_, rfl, ?_⟩
    simp only [RepT]
    exact ⟨_, _, rfl, rep1_of rfl (rep_v_mk rfl), _, _, rfl, rep1_of rfl (rep_v_mk rfl), rfl⟩
end Go.Proofs.YtepdiooaoegpfaaGreatDoor.Fx
end
section
/- Texts joined by Go's library. Conditions: those in each statement. -/
namespace Go.Proofs.YtepdiooaoegpfaaGreatDoor.Fx
open Go Go.Proofs Go.Ev Go.RowKit
set_option maxRecDepth 100000
set_option linter.unusedSimpArgs false
set_option linter.unusedVariables false
def joinB (l : List ByteArray) (sep : ByteArray) : ByteArray := ⟨(Lib.join (l.map (·.data.toList)) sep.data.toList).toArray⟩
theorem c_Join {l : List ByteArray} {sep : ByteArray} (hN : l.length ≤ 1000000000) (hlen : (Lib.join (l.map (·.data.toList)) sep.data.toList).length ≤ 140737488355328) : XPure Tryz.prog 53 [eS l, str sep] (str (joinB l sep)) false :=
  XPure.ofMem (u := .string (joinB l sep)) ⟨_, Tryz.func53, rfl, by kernel_rfl⟩ rfl rfl (fun w g vs G _ hv => by
    simp only [RepT] at hv
    obtain ⟨v1, _, rfl, r1, v2, _, rfl, r2, rfl⟩ := hv
    obtain rfl := (rep_v (rep_of r2)).1
    obtain ⟨a, c, rfl, hc, hf, h⟩ := rep_sl (rep_of r1)
    rw [List.length_map] at *
    rcases h with h | ⟨b, o, cs, rfl, h2, h3⟩
    · have : l = [] := by simpa using h
      subst this
      exact (Tryz.strings_Join_none a c sep w).mono fun e w' ⟨he, hw⟩ => ⟨he, hw ▸ Below.refl _ _⟩
    · have hcs := repE_str l cs h3
      subst hcs
      by_cases h0 : l = []
      · subst h0
        exact (Tryz.strings_Join_none _ c sep w).mono fun e w' ⟨he, hw⟩ => ⟨he, hw ▸ Below.refl _ _⟩
      have hpos := List.length_pos_iff.2 h0
      have cell : ∀ (j : Nat) x, l[j]? = some x → w.cell? ⟨b, o + j, none⟩ = some (.string x) := fun j x hj => h2.at j (.string x) (by rw [List.getElem?_map, hj]; rfl)
      exact Tryz.strings_Join b o c l sep w cell (World.block_lt_of_cell? w _ (cell 0 _ (List.getElem?_eq_getElem hpos))) (by omega) hc hlen) fun _ _ _ _ => rep_v_mk rfl
end Go.Proofs.YtepdiooaoegpfaaGreatDoor.Fx
end
section
/- Right commands: what is told of them, what they read and write. Conditions: those in each statement. -/
namespace Go.Proofs.YtepdiooaoegpfaaGreatDoor.Fx
open Go Go.Proofs Go.Ev Go.RowKit
set_option maxRecDepth 100000
set_option maxHeartbeats 1600000
set_option linter.unusedSimpArgs false
set_option linter.unusedVariables false
/-- Right commands. -/
inductive Kind : Cm → Prop
  | copy {a b : ByteArray} (ha : isName a = true) (hb : isName b = true) : Kind ⟨1, b, [a], [], 0⟩
  | concat {d : ByteArray} {l : List ByteArray} (hd : isName d = true) (h1 : 1 ≤ l.length) (h2 : l.length ≤ 64) (hl : l.all isName = true) : Kind ⟨2, d, l, [], 0⟩
  | echo {d : ByteArray} {w : List ByteArray} (hd : isName d = true) (hw : w.length ≤ 512) : Kind ⟨3, d, [], w, 0⟩
  | touch {d : ByteArray} (hd : isName d = true) : Kind ⟨4, d, [], [], 0⟩
  | remove {d : ByteArray} (hd : isName d = true) : Kind ⟨5, d, [], [], 0⟩
  | test {s : ByteArray} (hs : isName s = true) : Kind ⟨6, ⟨#[]⟩, [s], [], 0⟩
  | fail {n : Int} (h1 : 1 ≤ n) (h2 : n ≤ 255) : Kind ⟨7, ⟨#[]⟩, [], [], n⟩
  | say {w : List ByteArray} (hw : w.length ≤ 512) : Kind ⟨8, ⟨#[]⟩, [], w, 0⟩
theorem name_size {x : ByteArray} (h : isName x = true) : x.size ≤ 140737488355328 := by
  unfold isName at h; simp only [Bool.and_eq_true, decide_eq_true_eq] at h; omega
theorem names_size {l : List ByteArray} (h : l.all isName = true) (i : Nat) (hi : i < l.length) : (l.getD i .empty).size ≤ 140737488355328 := by
  rw [List.getD_eq_getElem?_getD, List.getElem?_eq_getElem hi]
  exact name_size (List.all_eq_true.1 h _ (List.getElem_mem hi))
theorem c_joining_right {d : ByteArray} {l : List ByteArray} (hd : isName d = true) (h1 : 1 ≤ l.length) (h2 : l.length ≤ 64) (hl : l.all isName = true) : XPure Tryz.prog 176 [.agg [str d, eS l]] (i64 0) false := by
  have hA : XPure Tryz.prog 93 [eS [d]] (i64 0) false := by
    have h := c_cmd_files (l := [d]) (Nat.le_of_ble_eq_true rfl) (sz1 (name_size hd))
    rwa [show errIf ([d].all isName) 3 = 0 from by simp [errIf, hd]] at h
  have hB : XPure Tryz.prog 93 [eS l] (i64 0) false := by
    have h := c_cmd_files (l := l) (by omega) (names_size hl)
    rwa [hl] at h
  have hF : XPure Tryz.prog 181 [.sl 1 ([0, 0].map i64)] (i64 0) false := c_cmd_first (l := [0, 0]) (Nat.le_of_ble_eq_true rfl)
  refine XPure.body ⟨_, Tryz.func176, rfl, by kernel_rfl⟩ Tryz.func176 rfl (Nat.le_of_ble_eq_true (by rfl)) (pf_of1 rfl) fun env => ?_
  repeat' ((conv => whnf); (fail_if_success refine zC ?_); first | refine zS ?_ | refine zB (fun h hs => ?_) (fun h hs => ?_) <;> try exact hs.elim | refine .inl ⟨_, _, hA, ?_⟩ | refine .inl ⟨_, _, hB, ?_⟩ | refine .inl ⟨_, _, hF, ?_⟩ | refine XW.dr (m := 9) ?_ | refine ⟨_, _, hA, ?_⟩ | refine ⟨_, _, hB, ?_⟩ | refine ⟨_, _, hF, ?_⟩ | exact zE | refine zZ ?_ | fail)
  all_goals omega
theorem c_echoing_right {d : ByteArray} {w : List ByteArray} (hd : isName d = true) (hw : w.length ≤ 512) : XPure Tryz.prog 183 [.agg [str d, eS w]] (i64 0) false := by
  have hA : XPure Tryz.prog 93 [eS [d]] (i64 0) false := by
    have h := c_cmd_files (l := [d]) (Nat.le_of_ble_eq_true rfl) (sz1 (name_size hd))
    rwa [show errIf ([d].all isName) 3 = 0 from by simp [errIf, hd]] at h
  have hB : XPure Tryz.prog 187 [eS w] (i64 0) false := by
    have h := c_cmd_few (l := w)
    rwa [if_neg (by omega)] at h
  have hF : XPure Tryz.prog 181 [.sl 1 ([0, 0].map i64)] (i64 0) false := c_cmd_first (l := [0, 0]) (Nat.le_of_ble_eq_true rfl)
  refine XPure.body ⟨_, Tryz.func183, rfl, by kernel_rfl⟩ Tryz.func183 rfl (Nat.le_of_ble_eq_true (by rfl)) (pf_of1 rfl) fun env => ?_
  repeat' ((conv => whnf); (fail_if_success refine zC ?_); first | refine zS ?_ | refine zB (fun h hs => ?_) (fun h hs => ?_) <;> try exact hs.elim | refine .inl ⟨_, _, hA, ?_⟩ | refine .inl ⟨_, _, hB, ?_⟩ | refine .inl ⟨_, _, hF, ?_⟩ | refine XW.dr (m := 9) ?_ | refine ⟨_, _, hA, ?_⟩ | refine ⟨_, _, hB, ?_⟩ | refine ⟨_, _, hF, ?_⟩ | exact zE | refine zZ ?_ | fail)
end Go.Proofs.YtepdiooaoegpfaaGreatDoor.Fx
end
