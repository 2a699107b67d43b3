/- Written by programs of this session: laws and contracts that the law's proof stands on, merged into one text. Conditions: none beyond those in each statement. -/
import Derived.Test.YtepdiooaoegpfaaGreatDoorPkFx3
import Derived.Lib.ItoaNum
import Derived.Lib.AtoiAllCases
import Derived.Test.YtepdiooaoegpfaaGreatDoorPkSp1
import Derived.Test.YtepdiooaoegpfaaGreatDoorPkWd1
import Derived.Test.YtepdiooaoegpfaaGreatDoorPkEv10
import Derived.WalkSpells
import Derived.WalkLawsBesides
import Derived.Lib.Builder
import Derived.Lib.Hide
import Derived.Test.YtepdiooaoegpfaaGreatDoorPkFx2
section
/- What words say as a command: the plain answer. Conditions: those in each statement. -/
namespace Go.Proofs.YtepdiooaoegpfaaGreatDoor.Fx
open Go Go.Proofs Go.Ev Go.RowKit
set_option maxRecDepth 100000
set_option maxHeartbeats 1600000
set_option linter.unusedSimpArgs false
set_option linter.unusedVariables false
/-- The same, by Go's library. -/
def failN (s : ByteArray) : Int := match Lib.atoiAll s.data.toList with
  | .ok v => if (⟨(Lib.itoa v).toArray⟩ : ByteArray) = s ∧ 1 ≤ v ∧ v ≤ 255 then v else 0
  | _ => 0
/-- The digits of a small number. -/
def dl (v : Nat) : List UInt8 := if v < 10 then [UInt8.ofNat (48 + v)] else if v < 100 then [UInt8.ofNat (48 + v / 10), UInt8.ofNat (48 + v % 10)] else [UInt8.ofNat (48 + v / 100), UInt8.ofNat (48 + v / 10 % 10), UInt8.ofNat (48 + v % 10)]
theorem itoa_dl (v : Nat) (h : v < 1000) : Lib.itoa (v : Int) = dl v := by
  rw [Lib.itoa_nonneg]
  unfold dl
  split
  · rename_i h1; exact Lib.decDigits_one h1
  · rename_i h1
    split
    · rename_i h2; exact Lib.decDigits_two h1 h2
    · rename_i h2
      rw [Lib.decDigits, dif_neg h1, Lib.decDigits_two (by omega) (by omega)]
      rw [Nat.div_div_eq_div_mul]
      rfl
theorem atoi_dl : ∀ v : Nat, v < 256 → 1 ≤ v → (match Lib.atoiAll (dl v) with | .ok u => u == (v : Int) | _ => false) = true := by decide +kernel
theorem atoi_dl' (v : Nat) (h : v < 256) (h1 : 1 ≤ v) : Lib.atoiAll (dl v) = .ok (v : Int) := by
  have := atoi_dl v h h1
  revert this
  cases Lib.atoiAll (dl v) with
  | ok u => intro e; rw [beq_iff_eq.1 e]
  | _ => intro e; cases e
theorem failN_ok {s : ByteArray} {v : Int} (hv : Lib.atoiAll s.data.toList = .ok v) : failN s = if (⟨(Lib.itoa v).toArray⟩ : ByteArray) = s ∧ 1 ≤ v ∧ v ≤ 255 then v else 0 := by
  unfold failN
  rw [hv]
theorem failN_err {s : ByteArray} (hv : ∀ v, Lib.atoiAll s.data.toList ≠ .ok v) : failN s = 0 := by
  unfold failN
  split
  · rename_i v hv'; exact absurd hv' (hv v)
  · rfl
theorem failN_dl (v : Nat) (h : v < 256) (h1 : 1 ≤ v) : failN ⟨(dl v).toArray⟩ = (v : Int) := by
  rw [failN_ok (v := (v : Int)) (by simpa using atoi_dl' v h h1), itoa_dl v (by omega), if_pos ⟨rfl, by omega, by omega⟩]
theorem fail_stat (s : ByteArray) (h : failN s ≠ 0) : ∃ v : Nat, v < 256 ∧ 1 ≤ v ∧ s = ⟨(dl v).toArray⟩ := by
  unfold failN at h
  split at h
  · rename_i v hv
    split at h
    · rename_i hq
      obtain ⟨n, rfl⟩ : ∃ n : Nat, v = (n : Int) := ⟨v.toNat, by omega⟩
      exact ⟨n, by omega, by omega, by rw [← hq.1, itoa_dl n (by omega)]⟩
    · exact absurd rfl h
  · exact absurd rfl h
structure Cm where
  op : Int
  dst : ByteArray
  src : List ByteArray
  words : List ByteArray
  st : Int
abbrev Cm.av (c : Cm) : AV := eC c.op c.dst c.src c.words c.st
def Cm.zero : Cm := ⟨0, .empty, [], [], 0⟩
/-- The command of an operation and its operands, of which there may be so many. -/
def cmOf (op : Int) (l : List ByteArray) : Cm :=
  if op = 1 then ⟨1, l.getD 1 .empty, l.take 1, [], 0⟩
  else if op = 2 then ⟨2, l.getD 0 .empty, l.drop 1, [], 0⟩
  else if op = 3 then ⟨3, l.getD 0 .empty, [], l.drop 1, 0⟩
  else if op = 4 then ⟨4, l.getD 0 .empty, [], [], 0⟩
  else if op = 5 then ⟨5, l.getD 0 .empty, [], [], 0⟩
  else if op = 6 then ⟨6, .empty, l, [], 0⟩
  else if op = 7 then ⟨7, .empty, [], [], if l.length = 1 then failN (l.getD 0 .empty) else 1⟩
  else ⟨8, .empty, [], l, 0⟩
def cmFiles (c : Cm) : Bool := (!(decide (1 ≤ c.op) && decide (c.op ≤ 5)) || isName c.dst) && c.src.all isName
@[irreducible] def parseE (ws : List ByteArray) : Int :=
  if 514 < ws.length then 2 else match ws with
  | [] => 9
  | w :: l => if manyOk (opFrom w 1 8) l.length = false then 160 else if opFrom w 1 8 = 7 ∧ (cmOf 7 l).st = 0 then 160 else if cmFiles (cmOf (opFrom w 1 8) l) = true then 0 else 3
@[irreducible] def parseC (ws : List ByteArray) : Cm := if parseE ws = 0 then cmOf (opFrom (ws.headD .empty) 1 8) ws.tail else Cm.zero
theorem parseE_of {w : ByteArray} {l : List ByteArray} {op : Int} (hl : l.length ≤ 513) (ho : opFrom w 1 8 = op) : parseE (w :: l) = if manyOk op l.length = false then 160 else if op = 7 ∧ (cmOf 7 l).st = 0 then 160 else if cmFiles (cmOf op l) = true then 0 else 3 := by
  unfold parseE
  rw [if_neg (by simp only [List.length_cons]; omega)]
  dsimp only
  rw [ho]
theorem opFrom_cases (w : ByteArray) : opFrom w 1 8 = 0 ∨ opFrom w 1 8 = 1 ∨ opFrom w 1 8 = 2 ∨ opFrom w 1 8 = 3 ∨ opFrom w 1 8 = 4 ∨ opFrom w 1 8 = 5 ∨ opFrom w 1 8 = 6 ∨ opFrom w 1 8 = 7 ∨ opFrom w 1 8 = 8 := by
  simp only [opFrom]
  repeat' (first | (split; (simp; done)) | (simp; done) | split)
theorem find_op (w : ByteArray) : findN heads1 w 0 + 1 = opFrom w 1 8 := by
  have e1 : opFrom w 1 8 = if beqS (heads1.getD 0 .empty) w = true then 1 else if beqS (heads1.getD 1 .empty) w = true then 2 else if beqS (heads1.getD 2 .empty) w = true then 3 else if beqS (heads1.getD 3 .empty) w = true then 4 else if beqS (heads1.getD 4 .empty) w = true then 5 else if beqS (heads1.getD 5 .empty) w = true then 6 else if beqS (heads1.getD 6 .empty) w = true then 7 else if beqS (heads1.getD 7 .empty) w = true then 8 else 0 := rfl
  have e2 : findN heads1 w 0 = if beqS w (heads1.getD 0 .empty) = true then 0 else if beqS w (heads1.getD 1 .empty) = true then 1 else if beqS w (heads1.getD 2 .empty) = true then 2 else if beqS w (heads1.getD 3 .empty) = true then 3 else if beqS w (heads1.getD 4 .empty) = true then 4 else if beqS w (heads1.getD 5 .empty) = true then 5 else if beqS w (heads1.getD 6 .empty) = true then 6 else if beqS w (heads1.getD 7 .empty) = true then 7 else -1 := rfl
  rw [e1, e2]
  rw [beqS_comm w (heads1.getD 0 .empty)]
  rw [beqS_comm w (heads1.getD 1 .empty)]
  rw [beqS_comm w (heads1.getD 2 .empty)]
  rw [beqS_comm w (heads1.getD 3 .empty)]
  rw [beqS_comm w (heads1.getD 4 .empty)]
  rw [beqS_comm w (heads1.getD 5 .empty)]
  rw [beqS_comm w (heads1.getD 6 .empty)]
  rw [beqS_comm w (heads1.getD 7 .empty)]
  repeat' (first | rfl | split)
/-- A fault's answer. -/
theorem parse_bad {ws : List ByteArray} {e : Int} (h : parseE ws = e) (he : e ≠ 0) : LeqD (.tup [.agg [i64 0, str ⟨#[]⟩, nilv, nilv, i64 0], i64 e]) (.tup [(parseC ws).av, i64 (parseE ws)]) := by
  have : parseC ws = Cm.zero := by unfold parseC; rw [if_neg (by rw [h]; exact he)]
  rw [this, h]
  repeat' (first | exact LeqD.nil (by decide) | exact LeqD.refl _ | exact LeqDL.refl _ | refine LeqDL.cons ?_ ?_ | refine LeqD.agg ?_ | refine LeqD.tup ?_)
/-- A command's answer. -/
theorem parse_good {ws : List ByteArray} {c : Cm} {s1 s2 : AV} (h : parseE ws = 0) (hc : parseC ws = c) (h1 : LeqD s1 (eS c.src)) (h2 : LeqD s2 (eS c.words)) : LeqD (.tup [.agg [i64 c.op, str c.dst, s1, s2, i64 c.st], i64 0]) (.tup [(parseC ws).av, i64 (parseE ws)]) := by
  rw [h, hc]
  exact LeqD.tup (LeqDL.cons (LeqD.agg (LeqDL.cons (LeqD.refl _) (LeqDL.cons (LeqD.refl _) (LeqDL.cons h1 (LeqDL.cons h2 (LeqDL.refl _)))))) (LeqDL.refl _))
theorem parseC_of {w : ByteArray} {l : List ByteArray} {op : Int} (ho : opFrom w 1 8 = op) (h : parseE (w :: l) = 0) : parseC (w :: l) = cmOf op l := by
  unfold parseC
  rw [if_pos h]; simp [ho]
end Go.Proofs.YtepdiooaoegpfaaGreatDoor.Fx
end
section
/- Numerals by Go's library. Conditions: those in each statement. -/
namespace Go.Proofs.YtepdiooaoegpfaaGreatDoor.Fx
open Go Go.Proofs Go.Ev Go.RowKit
set_option maxRecDepth 100000
set_option linter.unusedSimpArgs false
set_option linter.unusedVariables false
theorem gPow : Tryz.prog.globalNamed "internal/strconv.uint64pow10" = some 3 := by kernel_rfl
theorem whole_arr {w : World} {hw : Hw} {b : Nat} {vs : List Value} (h0 : 0 < vs.length) (h : Whole w hw b vs) : ∃ e f, w.heap[b]? = some (.cells vs.toArray e f) := by
  obtain ⟨n, _, _, c⟩ := h
  have c0 := c 0
  unfold World.cell? at c
  simp only [Option.isSome_none, Bool.false_eq_true, if_false] at c
  cases hh : w.heap[b]? with
  | none => rw [hh] at c; have := c 0; rw [List.getElem?_eq_getElem h0] at this; simp at this
  | some o =>
    rw [hh] at c
    cases o with
    | cells cs e f =>
      refine ⟨e, f, ?_⟩
      have : cs = vs.toArray := Array.ext_getElem? fun i => by
        have := c i
        simp only at this
        rw [this, List.getElem?_toArray]
      rw [this]
    | _ => have := c 0; rw [List.getElem?_eq_getElem h0] at this; simp at this
theorem glob_pow {w : World} {g : Gh} (G : Ev.Good w g [] 0) : Lib.TabIs Tryz.prog w "internal/strconv.uint64pow10" .u64 Lib.pow10Tab := by
  obtain ⟨vs, rfl, h⟩ := G.glob.2 _ (List.mem_cons_self ..)
  obtain ⟨e, f, hh⟩ := whole_arr (by decide) h
  unfold Lib.TabIs World.var?
  rw [gPow, Option.bind_some]
  simp only [hh]
theorem glob_err {w : World} {g : Gh} (G : Ev.Good w g [] 0) {b : Nat} (hb : (b, IsErr) ∈ globP) : ∃ t p, w.cell? ⟨b, 0, none⟩ = some (.iface t p) := by
  obtain ⟨vs, ⟨t, p, rfl⟩, n, _, _, c⟩ := G.glob.2 _ hb
  exact ⟨t, p, c 0⟩
theorem args_str {w : World} {hw : Hw} {s : ByteArray} {vs : List Value} (h : RepT w hw [] 0 [str s] vs) : vs = [.string s] := by
  simp only [RepT] at h
  obtain ⟨v, _, rfl, h1, rfl⟩ := h
  rw [(rep_v (rep_of h1)).1]
theorem args_int {w : World} {hw : Hw} {n : Int} {vs : List Value} (h : RepT w hw [] 0 [i64 n] vs) : vs = [.int .i64 n] := by
  simp only [RepT] at h
  obtain ⟨v, _, rfl, h1, rfl⟩ := h
  rw [(rep_v (rep_of h1)).1]
theorem below_drewN (w : World) (k : Nat) (os : Array Obj) : Below w.heap.size w (Sort.grow (w.drewN k) os) :=
  ⟨rfl, rfl, rfl, by show w.heap.size ≤ (w.heap ++ os).size; rw [Array.size_append]; omega, fun k hk => by show (w.heap ++ os)[k]? = _; rw [Array.getElem?_append_left hk]⟩
theorem c_Itoa {n : Int} (h0 : -9223372036854775808 ≤ n) (h1 : n ≤ 9223372036854775807) : XPure Tryz.prog 92 [i64 n] (str ⟨(Lib.itoa n).toArray⟩) false :=
  XPure.ofMem (u := .string ⟨(Lib.itoa n).toArray⟩) ⟨_, Tryz.func92, rfl, by kernel_rfl⟩ rfl rfl (fun w g vs G _ hv => by
    rw [args_int hv]
    refine (Tryz.strconv_Itoa n h0 h1 w (glob_pow G)).mono fun e w' ⟨he, k, os, hw⟩ => ⟨he, ?_⟩
    subst hw
    exact below_drewN w k os) fun _ _ _ _ => rep_v_mk rfl
theorem c_Atoi_ok {s : ByteArray} {v : Int} (hs : s.size ≤ 140737488355328) (h : Lib.atoiAll s.data.toList = .ok v) : XPure Tryz.prog 91 [str s] (.tup [i64 v, .v .nilIface]) false :=
  XPure.ofMem (u := .tuple #[.int .i64 v, .nilIface]) ⟨_, Tryz.func91, rfl, by kernel_rfl⟩ rfl rfl (fun w g vs G _ hv => by
    rw [args_str hv]
    refine (Tryz.strconv_Atoi_ok s (by omega) v h w).mono fun e w' ⟨he, hw⟩ => ⟨he, ?_⟩
    rcases hw with rfl | ⟨t, rfl⟩
    · exact Below.refl _ _
    · exact Go.Proofs.YtepdiooaoegpfaaGreatDoorW.PrintWords.bytes_below (Below.refl _ _) (Nat.le_refl _) _ _) fun w hw bs base => by
    refine ⟨_, rfl, ?_⟩
    simp only [RepT]
    exact ⟨_, _, rfl, rep1_of rfl (rep_v_mk rfl), _, _, rfl, rep1_of rfl (rep_v_mk rfl), rfl⟩
theorem c_Atoi_err {s : ByteArray} (hs : s.size ≤ 140737488355328) (h : ∀ v, Lib.atoiAll s.data.toList ≠ .ok v) : XPure Tryz.prog 91 [str s] (.tup [.top, .ifc 191 .top]) false :=
  XPure.ofMemR ⟨_, Tryz.func91, rfl, by kernel_rfl⟩ rfl rfl (fun w g vs G _ hv => by
    rw [args_str hv]
    have hR : ∀ (m : Int) (N : Nat) (w' : World) (hw : Hw) (bs : List Nat) (base : Nat), Rep w' hw bs base (.tup [.top, .ifc 191 .top]) (.tuple #[.int .i64 m, .iface 191 (.pointer (some ⟨N, 0, none⟩))]) := fun m N w' hw bs base => by
      refine ⟨_, rfl, ?_⟩
      simp only [RepT]
      refine ⟨_, _, rfl, .inl rfl, _, _, rfl, .inr ⟨?_, rfl⟩, rfl⟩
      show RepV w' hw bs base (.ifc 191 .top) [.iface 191 (.pointer (some ⟨N, 0, none⟩))]
      simp only [RepV]
      exact ⟨_, rfl, ⟨_, rfl⟩, rfl⟩
    cases hA : Lib.atoiAll s.data.toList with
    | ok v => exact absurd hA (h v)
    | range =>
      obtain ⟨t, p, hc⟩ := glob_err G (b := 2) (by simp [globP])
      exact (Tryz.strconv_Atoi_range s (by omega) hA _ w hc (.inr ⟨t, p, rfl⟩)).mono fun e w' ⟨N, he, _, _, hb⟩ => ⟨_, he, hb, hR _ N w'⟩
    | _ =>
      obtain ⟨t, p, hc⟩ := glob_err G (b := 1) (by simp [globP])
      exact (Tryz.strconv_Atoi_syntax s (by omega) hA _ w hc (.inr ⟨t, p, rfl⟩)).mono fun e w' ⟨N, he, _, _, hb⟩ => ⟨_, he, hb, hR _ N w'⟩)
end Go.Proofs.YtepdiooaoegpfaaGreatDoor.Fx
end
section
/- A copying command: what it reads and writes. Conditions: those in each statement. -/
namespace Go.Proofs.YtepdiooaoegpfaaGreatDoor.Fx
open Go Go.Proofs Go.Ev Go.RowKit
set_option maxRecDepth 100000
set_option maxHeartbeats 1600000
set_option linter.unusedSimpArgs false
set_option linter.unusedVariables false
theorem c_Line_copy {t a b : ByteArray} (hV : wordsV t = [copyW, a, b]) (hE : wordsE t = 0) (ha : isName a = true) (hb : isName b = true) : XPure Tryz.prog 44 [str t] (.tup [eC 1 b [a] [] 0, i64 0]) false := by
  have hW : XPure Tryz.prog 66 [str t] (.tup [eS [copyW, a, b], i64 0]) false := by
    have h := c_lex_Words (s := t)
    rwa [hV, hE] at h
  refine XPure.body ⟨_, Tryz.func44, rfl, by kernel_rfl⟩ Tryz.func44 rfl (Nat.le_of_ble_eq_true (by rfl)) (pf_of1 rfl) fun env => ?_
  repeat' ((conv => whnf); (fail_if_success refine zC ?_); first | refine zSd ?_ | refine zB (fun h hs => ?_) (fun h hs => ?_) <;> try exact hs.elim | refine .inl ⟨_, _, hW, ?_⟩ | refine .inl ⟨_, _, c_Parse_copy ha hb, ?_⟩ | exact zE | refine zZ ?_ | fail)
theorem c_of_copy {a b : ByteArray} : XPure Tryz.prog 76 [eC 1 b [a] [] 0] (.tup [.ifc 155 (.agg [str a, str b]), i64 0]) false := by
  refine XPure.body ⟨_, Tryz.func76, rfl, by kernel_rfl⟩ Tryz.func76 rfl (Nat.le_of_ble_eq_true (by rfl)) (pf_of1 rfl) fun env => ?_
  repeat' ((conv => whnf); (fail_if_success refine zC ?_); first | refine zSm ?_ | refine zB (fun h hs => ?_) (fun h hs => ?_) <;> try exact hs.elim | exact zE | refine zZ ?_ | fail)
theorem c_told_copy {a b : ByteArray} (ha : isName a = true) (hb : isName b = true) : XPure Tryz.prog 54 [eC 1 b [a] [] 0] (.tup [.ifc 155 (.agg [str a, str b]), i64 0]) false := by
  have hsz : ∀ x : ByteArray, isName x = true → x.size ≤ 140737488355328 := fun x h => by
    unfold isName at h; simp only [Bool.and_eq_true, decide_eq_true_eq] at h; omega
  have hR : XPure Tryz.prog 171 [.agg [str a, str b]] (i64 0) false := by
    have h := c_copying_right (hsz a ha) (hsz b hb)
    rwa [show errIf ([b, a].all isName) 3 = 0 from by simp [errIf, ha, hb]] at h
  refine XPure.body ⟨_, Tryz.func54, rfl, by kernel_rfl⟩ Tryz.func54 rfl (Nat.le_of_ble_eq_true (by rfl)) (pf_of1 rfl) fun env => ?_
  repeat' ((conv => whnf); (fail_if_success refine zC ?_); first | refine zSd ?_ | refine zB (fun h hs => ?_) (fun h hs => ?_) <;> try exact hs.elim | refine .inl ⟨_, _, c_of_copy, ?_⟩ | refine .inl ⟨_, _, hR, ?_⟩ | exact zE | refine zZ ?_ | fail)
theorem c_Reads_copy {a b : ByteArray} (ha : isName a = true) (hb : isName b = true) : XPure Tryz.prog 45 [eC 1 b [a] [] 0] (.tup [eS [a], i64 0]) false := by
  refine XPure.body ⟨_, Tryz.func45, rfl, by kernel_rfl⟩ Tryz.func45 rfl (Nat.le_of_ble_eq_true (by rfl)) (pf_of1 rfl) fun env => ?_
  repeat' ((conv => whnf); (fail_if_success refine zC ?_); first | refine zSd ?_ | refine zB (fun h hs => ?_) (fun h hs => ?_) <;> try exact hs.elim | refine .inl ⟨_, _, c_told_copy ha hb, ?_⟩ | refine .inl ⟨_, _, c_copying_reads, ?_⟩ | exact zE | refine zZ ?_ | fail)
theorem c_Writes_copy {a b : ByteArray} (ha : isName a = true) (hb : isName b = true) : XPure Tryz.prog 31 [eC 1 b [a] [] 0] (.tup [str b, bln true, i64 0]) false := by
  refine XPure.body ⟨_, Tryz.func31, rfl, by kernel_rfl⟩ Tryz.func31 rfl (Nat.le_of_ble_eq_true (by rfl)) (pf_of1 rfl) fun env => ?_
  repeat' ((conv => whnf); (fail_if_success refine zC ?_); first | refine zSd ?_ | refine zB (fun h hs => ?_) (fun h hs => ?_) <;> try exact hs.elim | refine .inl ⟨_, _, c_told_copy ha hb, ?_⟩ | refine .inl ⟨_, _, c_copying_writes, ?_⟩ | exact zE | refine zZ ?_ | fail)
end Go.Proofs.YtepdiooaoegpfaaGreatDoor.Fx
end
section
/- The files that a command reads, joined. Conditions: those in each statement. -/
namespace Go.Proofs.YtepdiooaoegpfaaGreatDoor.Fx
open Go Go.Proofs Go.Ev Go.RowKit Go.Proofs.YtepdiooaoegpfaaGreatDoor.Sup Go.Proofs.YtepdiooaoegpfaaGreatDoorW.PrintWords
set_option linter.unusedSimpArgs false
set_option linter.unusedVariables false
/-- What is read: a fault, or the texts. -/
def readGo (clock : Int) (l : List File) : List ByteArray → List UInt8 → Int × List UInt8
  | [], acc => (0, acc)
  | s :: r, acc => if findE clock l s = 0 then readGo clock l r (acc ++ ((findD clock l s).getD File.none).text.data.toList) else (findE clock l s, [])
def readE (clock : Int) (l : List File) (src : List ByteArray) : Int := (readGo clock l src []).1
def readT (clock : Int) (l : List File) (src : List ByteArray) : ByteArray := ⟨(readGo clock l src []).2.toArray⟩
theorem chk_all {clock : Int} : ∀ (l : List File) (p : Option ByteArray), chkF clock p l = true → ∀ f ∈ l, fileOk clock f = true
  | [], _, _, f, h => absurd h List.not_mem_nil
  | x :: r, p, h, f, hf => by
    simp only [chkF, Bool.and_eq_true] at h
    rcases List.mem_cons.1 hf with rfl | hf
    · exact h.1.1
    · exact chk_all r _ h.2 f hf
theorem findF_mem : ∀ (l : List File) (s : ByteArray) (f : File), findF l s = some f → f ∈ l
  | [], _, _, h => by cases h
  | x :: r, s, f, h => by
    simp only [findF] at h
    split at h
    · cases h; exact List.mem_cons_self ..
    · exact List.mem_cons_of_mem _ (findF_mem r s f h)
theorem find_text {clock : Int} {l : List File} {s : ByteArray} : ((findD clock l s).getD File.none).text.size ≤ 4096 := by
  unfold findD
  cases h : (okD clock l && isName s) with
  | false => exact Nat.zero_le _
  | true =>
    simp only [Bool.and_eq_true] at h
    cases hf : findF l s with
    | none => exact Nat.zero_le _
    | some f =>
      have h1 := h.1
      unfold okD at h1
      simp only [Bool.and_eq_true] at h1
      exact (fileOk_iff.1 (chk_all l _ h1.2 f (findF_mem l s f hf))).2.1
theorem repE_str {w : World} {hw : Hw} : ∀ (l : List ByteArray) (cs : List Value), RepE w hw 1 (l.map fun x => .v (.string x)) cs → cs = l.map Value.string
  | [], cs, h => by simpa only [List.map_nil, RepE] using h
  | x :: l, cs, h => by
    simp only [List.map_cons, RepE] at h
    obtain ⟨h0, h1, h2⟩ := h
    obtain ⟨c, cs, rfl⟩ : ∃ c r, cs = c :: r := by
      cases cs with
      | nil => simp at h0
      | cons c r => exact ⟨c, r, rfl⟩
    have := repE_str l _ h2
    simp only [List.drop_succ_cons, List.drop_zero] at this
    have h1' := h1.1
    simp only [RepV, List.take_succ_cons, List.take_zero, List.cons.injEq, and_true] at h1'
    rw [h1', this]; rfl
theorem owns_below {w w' : World} {B : Nat} {e : TypeId} {size : Nat} {v : Value} {n : Nat} {xs : List Value} (h : w.ownsRow B e size v n xs) (hB : Below w.heap.size w w') : w'.ownsRow B e size v n xs := by
  unfold World.ownsRow at h ⊢
  obtain ⟨h1, h2⟩ := h
  refine ⟨h1, h2.imp id ?_⟩
  rintro ⟨g, cap, cur, e1, e2, e3, e4⟩
  exact ⟨g, cap, cur, e1, e2, (hB.block g (Array.getElem?_eq_some_iff.1 e3).1).trans e3, e4⟩
theorem builder_below {T e : TypeId} {B b : Nat} {bs : List Value} {w w' : World} (h : Lib.IsBuilder T e B b bs w) (hB : Below w.heap.size w w') : Lib.IsBuilder T e B b bs w' := by
  have one : ∀ p, Lib.BuilderAt T e B b p bs w → Lib.BuilderAt T e B b p bs w' := by
    rintro p ⟨h1, v, h2, h3, h4⟩
    exact ⟨h1, v, (hB.block b (Array.getElem?_eq_some_iff.1 h2).1).trans h2, owns_below h3 hB, h4⟩
  exact h.imp (one _) (one _)
theorem readGo_step {clock : Int} {l : List File} {src : List ByteArray} {p : Nat} {s : ByteArray} {acc : List UInt8} (hp : p < src.length) (hs : src[p] = s) : readGo clock l (src.drop p) acc = if findE clock l s = 0 then readGo clock l (src.drop (p + 1)) (acc ++ ((findD clock l s).getD File.none).text.data.toList) else (findE clock l s, []) := by
  rw [List.drop_eq_getElem_cons hp, hs]; rfl
theorem find_mem {clock : Int} {l : List File} {s : ByteArray} {w : World} {g : Gh} {vb : Value} (G : Ev.Good w g [] 0) (ho : g.own = fun _ => none) (hb : Rep w g.hw [] 0 (eD clock l) vb) :
    Calls Tryz.prog 52 #[vb, .string s] w fun e w' => e = .returned (.tuple #[.agg #[.string ((findD clock l s).getD File.none).name, .string ((findD clock l s).getD File.none).text, .int .i64 ((findD clock l s).getD File.none).stamp], .int .i64 (findE clock l s)]) ∧ Below w.heap.size w w' := by
  have hv : RepT w g.hw [] 0 [eD clock l, str s] [vb, .string s] := by
    simp only [RepT]
    exact ⟨_, _, rfl, rep1_of rfl hb, _, _, rfl, rep1_of rfl (rep_v_mk rfl), rfl⟩
  refine ((c_disk_Find (clock := clock) (l := l) (s := s)).toMem G ho hv).mono ?_
  rintro e w' ⟨u, g', rfl, B, _, hr⟩
  refine ⟨?_, B⟩
  obtain ⟨vs, rfl, hr⟩ := hr
  simp only [RepT] at hr
  obtain ⟨u1, _, e1, r1, u2, _, rfl, r2, rfl⟩ := hr
  obtain rfl : vs = #[u1, u2] := Array.toList_inj.1 e1
  obtain ⟨c1, rfl, hc⟩ := rep_agg (rep_of r1)
  simp only [RepL, RepV, List.cons.injEq, and_true] at hc
  obtain ⟨a1, _, e1, ⟨rfl, _⟩, a2, _, rfl, ⟨rfl, _⟩, a3, _, rfl, ⟨rfl, _⟩, rfl⟩ := hc
  obtain rfl : c1 = #[_, _, _] := Array.toList_inj.1 e1
  rw [(rep_v (rep_of r2)).1]
set_option maxHeartbeats 4000000 in
set_option maxRecDepth 100000 in
theorem read_mem {clock : Int} {l : List File} {op st : Int} {dst : ByteArray} {src words : List ByteArray} (hs : src.length ≤ 1000000000) (w : World) (g : Gh) (va vb : Value) (G : Ev.Good w g [] 0) (ho : g.own = fun _ => none)
    (ha : Rep w g.hw [] 0 (eC op dst src words st) va) (hb : Rep w g.hw [] 0 (eD clock l) vb) :
    Calls Tryz.prog 47 #[va, vb] w fun e w' => e = .returned (.tuple #[.string (readT clock l src), .int .i64 (readE clock l src)]) ∧ Below w.heap.size w w' := by
  obtain ⟨ca, rfl, hca⟩ := rep_agg ha
  obtain ⟨cb, rfl, hcb⟩ := rep_agg hb
  simp only [RepL] at hca hcb
  obtain ⟨a1, _, e1, ⟨h1, _⟩, a2, _, rfl, ⟨h2, _⟩, a3, _, rfl, ⟨h3, _⟩, a4, _, rfl, ⟨h4, _⟩, a5, _, rfl, ⟨h5, _⟩, rfl⟩ := hca
  obtain ⟨b1, _, f1, ⟨k1, _⟩, b2, _, rfl, ⟨k2, _⟩, rfl⟩ := hcb
  obtain rfl : ca = #[a1, a2, a3, a4, a5] := Array.toList_inj.1 e1
  obtain rfl : cb = #[b1, b2] := Array.toList_inj.1 f1
  simp only [RepV, List.cons.injEq, and_true] at h1 h2 h5 k1
  subst h1 h2 h5 k1
  simp only [RepV, List.cons.injEq, and_true] at h3
  obtain ⟨A, cp, rfl, hcp, hfit, hsrc⟩ := h3
  rw [List.length_map] at *
  obtain ⟨R, hR⟩ : ∃ R, readGo clock l src [] = R := ⟨_, rfl⟩
  unfold readT readE
  rw [hR]
  have HR := Lib.hid hR
  clear hR
  go_enter Tryz.func47, Tryz.ntmps47
  go_wp2
  obtain ⟨ws, hws⟩ : ∃ ws, (w.alloc (.cells #[.int .i64 op, .string dst, .slice A src.length cp, a4, .int .i64 st] 68)).alloc (.cells #[.int .i64 clock, b2] 27) = ws := ⟨_, rfl⟩
  rw [hws]
  have hwsz : ws.heap.size = w.heap.size + 1 + 1 := by rw [← hws]; exact (Array.size_push ..).trans (congrArg (· + 1) (Array.size_push ..))
  have hbox : ws.heap[w.heap.size + 1]? = some (.cells #[.int .i64 clock, b2] 27 (0, 0)) := by rw [← hws]; exact (congrArg (fun k => (World.alloc _ _).heap[k]?) (Array.size_push ..).symm).trans (heap_alloc_new _ _)
  have hB0 : Below w.heap.size w ws := by rw [← hws]; exact ((Below.refl _ _).alloc (Nat.le_refl _) _).alloc (Nat.le_of_lt (by rw [show (w.alloc _).heap.size = w.heap.size + 1 from Array.size_push ..]; exact Nat.lt_succ_self _)) _
  rw [← hwsz]
  have HW := Aside0.mk hwsz
  have HX := Aside0.mk hbox
  have H0 := Aside0.mk hB0
  clear hws hwsz hbox hB0
  go_loopw [14] (fun i wr => ∃ (p : Nat) (acc : List UInt8), i = .int .i64 p ∧ p ≤ src.length ∧ acc.length ≤ p * 4096 ∧ Aside0 (readGo clock l (src.drop p) acc = R) ∧ Aside0 (Lib.IsBuilder 125 5 ws.heap.size ws.heap.size (Lib.byteCells acc) wr) ∧ Aside0 (Below ws.heap.size ws wr)) (fun i _ => src.length - (intOf i).toNat)
  case atStart => exact ⟨0, [], by go_num, Nat.zero_le _, Nat.zero_le _, ⟨HR.out⟩, ⟨Lib.fresh_isBuilder 125 5 ws⟩, ⟨(Below.refl _ _).alloc (Nat.le_refl _) _⟩⟩
  case round =>
    obtain ⟨p, acc, rfl, hp, hacc, HA, HI, HB⟩ := hrel
    have hBw : ws.heap.size ≤ wr.heap.size := HB.out.size
    by_cases hlt : p < src.length
    · obtain ⟨s, hsp⟩ : ∃ s, src[p] = s := ⟨_, rfl⟩
      have hA : ∃ bk o, A = some ⟨bk, o, none⟩ ∧ wr.cell? ⟨bk, o + p, none⟩ = some (.string s) := by
        rcases hsrc with h | ⟨bk, o, cs, h1, h2, h3⟩
        · have : src = [] := by simpa using h
          subst this; simp at hlt
        · refine ⟨bk, o, h1, ?_⟩
          have hcs := repE_str src cs h3
          subst hcs
          have hcell := h2.at p (.string s) (by simp [hlt, hsp])
          have hbk : bk < w.heap.size := World.block_lt_of_cell? w _ hcell
          have hbel : Below w.heap.size w wr := H0.out.trans (HB.out.mono (by have := HW.out; omega))
          exact (hbel.cell (p := ⟨bk, o + p, none⟩) hbk).trans hcell
      obtain ⟨bk, o, rfl, hcell⟩ := hA
      have hbx : wr.heap[w.heap.size + 1]? = some (.cells #[.int .i64 clock, b2] 27 (0, 0)) := (HB.out.block _ (by have := HW.out; omega)).trans HX.out
      have hd0 : wr.cell? ⟨w.heap.size + 1, 0, none⟩ = some (.int .i64 clock) := by simp [World.cell?, hbx]
      have hd1 : wr.cell? ⟨w.heap.size + 1, 1, none⟩ = some b2 := by simp [World.cell?, hbx]
      have hbel : Below w.heap.size w wr := H0.out.trans (HB.out.mono (by have := HW.out; omega))
      have hFind := find_mem (s := s) (G.below hbel) ho (hb.mono (HwLe.below G hbel) fun _ _ h => h)
      have HF := Aside0.mk hFind
      clear hFind hbel
      obtain ⟨E, hE⟩ : ∃ E, findE clock l s = E := ⟨_, rfl⟩
      obtain ⟨F, hF⟩ : ∃ F, (findD clock l s).getD File.none = F := ⟨_, rfl⟩
      rw [hE, hF] at HF
      have HE := Aside0.mk hE
      have HFF := Aside0.mk hF
      clear hE hF hbx hsrc ha h4 k2 hfit
      have HBB := Aside0.mk hb
      have HSP := Aside0.mk hsp
      clear hb hsp
      cases he : (E == 0)
      · have hne : (E != 0) = true := by simp [bne, he]
        go_wp2_with (go_at_call 52; refine HF.out.mono ?_; rintro e w1 ⟨rfl, hB1⟩)
        go_ret2
        have hstep := (readGo_step (clock := clock) (l := l) (acc := acc) hlt HSP.out).symm.trans HA.out
        rw [HE.out, if_neg (by simpa using he)] at hstep
        subst hstep
        refine ⟨rfl, ?_⟩
        exact (H0.out.trans (HB.out.mono (by have := HW.out; omega))).trans ((hB1.mono (by have := HB.out.size; have := H0.out.size; omega)).alloc (by have := hB1.size; have := HB.out.size; have := H0.out.size; omega) _)
      · have hne : (E != 0) = false := by simp [bne, he]
        have hE0 : E = 0 := by simpa using he
        have hlen : F.text.size ≤ 4096 := by rw [← HFF.out]; exact find_text
        go_wp2_with (first | (go_at_call 52; refine HF.out.mono ?_; rintro e w1 ⟨rfl, hB1⟩) | (go_at_call 69; refine (Tryz.Builder_WriteString ws.heap.size ws.heap.size (Lib.byteCells acc) F.text _ (builder_below HI.out (hB1.alloc hB1.size _)) (by simp only [Lib.byteCells, List.length_map]; omega) (by have := hB1.size; have := HB.out.size; simp only [World.alloc, Array.size_push]; omega)).mono ?_; rintro e w2 ⟨rfl, hI2, hB2⟩))
        have HI2 := Aside0.mk hI2
        have HBE : Aside0 (Below ws.heap.size ws w2) := ⟨(HB.out.trans ((hB1.mono HB.out.size).alloc (by have := hB1.size; have := HB.out.size; omega) _)).trans hB2⟩
        clear hI2 hB2
        go_roundw
        case rel =>
          refine ⟨p + 1, acc ++ F.text.data.toList, by go_num, by omega, ?_, ⟨?_⟩, ⟨.inr ?_⟩, HBE⟩
          · rw [List.length_append]; have : F.text.data.toList.length = F.text.size := by simp
            omega
          · have hstep := (readGo_step (clock := clock) (l := l) (acc := acc) hlt HSP.out).symm.trans HA.out
            rw [HE.out, if_pos hE0, HFF.out] at hstep
            exact hstep
          · have := HI2.out
            rw [Lib.strCells_eq] at this
            simpa only [Lib.byteCells, List.map_append] using this
        case measure => simp [intOf]; omega
    · go_wp2_with (go_at_call 70; refine (Tryz.Builder_String_any ws.heap.size ws.heap.size acc _ HI.out hBw).mono ?_; rintro e w1 ⟨rfl, hB1⟩)
      go_ret2
      have hend : (0, acc) = R := by
        have := HA.out
        rw [List.drop_eq_nil_of_le (by omega)] at this
        exact this
      subst hend
      exact ⟨rfl, (H0.out.trans (HB.out.mono (by have := HW.out; omega))).trans (hB1.mono (by have := HW.out; omega))⟩
theorem c_exec_read {clock : Int} {l : List File} {op st : Int} {dst : ByteArray} {src words : List ByteArray} (hs : src.length ≤ 1000000000) :
    XPure Tryz.prog 47 [eC op dst src words st, eD clock l] (.tup [str (readT clock l src), i64 (readE clock l src)]) false :=
  XPure.ofMem (u := .tuple #[.string (readT clock l src), .int .i64 (readE clock l src)]) ⟨_, Tryz.func47, rfl, by kernel_rfl⟩ rfl rfl (fun w g vs G ho hv => by
    simp only [RepT] at hv
    obtain ⟨va, _, rfl, ha, vb, _, rfl, hb, rfl⟩ := hv
    exact read_mem hs w g va vb G ho (rep_of ha) (rep_of hb)) fun w hw bs base => by
    refine ⟨_, rfl, ?_⟩
    simp only [RepT]
    exact ⟨_, _, rfl, rep1_of rfl (rep_v_mk rfl), _, _, rfl, rep1_of rfl (rep_v_mk rfl), rfl⟩
end Go.Proofs.YtepdiooaoegpfaaGreatDoor.Fx
end
section
/- Texts joined by Go's library. Conditions: those in each statement. -/
namespace Go.Proofs.YtepdiooaoegpfaaGreatDoor.Fx
open Go Go.Proofs Go.Ev Go.RowKit
set_option maxRecDepth 100000
set_option linter.unusedSimpArgs false
set_option linter.unusedVariables false
def joinB (l : List ByteArray) (sep : ByteArray) : ByteArray := ⟨(Lib.join (l.map (·.data.toList)) sep.data.toList).toArray⟩
theorem c_Join {l : List ByteArray} {sep : ByteArray} (hN : l.length ≤ 1000000000) (hlen : (Lib.join (l.map (·.data.toList)) sep.data.toList).length ≤ 140737488355328) : XPure Tryz.prog 53 [eS l, str sep] (str (joinB l sep)) false :=
  XPure.ofMem (u := .string (joinB l sep)) ⟨_, Tryz.func53, rfl, by kernel_rfl⟩ rfl rfl (fun w g vs G _ hv => by
    simp only [RepT] at hv
    obtain ⟨v1, _, rfl, r1, v2, _, rfl, r2, rfl⟩ := hv
    obtain rfl := (rep_v (rep_of r2)).1
    obtain ⟨a, c, rfl, hc, hf, h⟩ := rep_sl (rep_of r1)
    rw [List.length_map] at *
    rcases h with h | ⟨b, o, cs, rfl, h2, h3⟩
    · have : l = [] := by simpa using h
      subst this
      exact (Tryz.strings_Join_none a c sep w).mono fun e w' ⟨he, hw⟩ => ⟨he, hw ▸ Below.refl _ _⟩
    · have hcs := repE_str l cs h3
      subst hcs
      by_cases h0 : l = []
      · subst h0
        exact (Tryz.strings_Join_none _ c sep w).mono fun e w' ⟨he, hw⟩ => ⟨he, hw ▸ Below.refl _ _⟩
      have hpos := List.length_pos_iff.2 h0
      have cell : ∀ (j : Nat) x, l[j]? = some x → w.cell? ⟨b, o + j, none⟩ = some (.string x) := fun j x hj => h2.at j (.string x) (by rw [List.getElem?_map, hj]; rfl)
      exact Tryz.strings_Join b o c l sep w cell (World.block_lt_of_cell? w _ (cell 0 _ (List.getElem?_eq_getElem hpos))) (by omega) hc hlen) fun _ _ _ _ => rep_v_mk rfl
end Go.Proofs.YtepdiooaoegpfaaGreatDoor.Fx
end
section
/- Right commands: what is told of them, what they read and write. Conditions: those in each statement. -/
namespace Go.Proofs.YtepdiooaoegpfaaGreatDoor.Fx
open Go Go.Proofs Go.Ev Go.RowKit
set_option maxRecDepth 100000
set_option maxHeartbeats 1600000
set_option linter.unusedSimpArgs false
set_option linter.unusedVariables false
/-- Right commands. -/
inductive Kind : Cm → Prop
  | copy {a b : ByteArray} (ha : isName a = true) (hb : isName b = true) : Kind ⟨1, b, [a], [], 0⟩
  | concat {d : ByteArray} {l : List ByteArray} (hd : isName d = true) (h1 : 1 ≤ l.length) (h2 : l.length ≤ 64) (hl : l.all isName = true) : Kind ⟨2, d, l, [], 0⟩
  | echo {d : ByteArray} {w : List ByteArray} (hd : isName d = true) (hw : w.length ≤ 512) : Kind ⟨3, d, [], w, 0⟩
  | touch {d : ByteArray} (hd : isName d = true) : Kind ⟨4, d, [], [], 0⟩
  | remove {d : ByteArray} (hd : isName d = true) : Kind ⟨5, d, [], [], 0⟩
  | test {s : ByteArray} (hs : isName s = true) : Kind ⟨6, ⟨#[]⟩, [s], [], 0⟩
  | fail {n : Int} (h1 : 1 ≤ n) (h2 : n ≤ 255) : Kind ⟨7, ⟨#[]⟩, [], [], n⟩
  | say {w : List ByteArray} (hw : w.length ≤ 512) : Kind ⟨8, ⟨#[]⟩, [], w, 0⟩
theorem name_size {x : ByteArray} (h : isName x = true) : x.size ≤ 140737488355328 := by
  unfold isName at h; simp only [Bool.and_eq_true, decide_eq_true_eq] at h; omega
theorem names_size {l : List ByteArray} (h : l.all isName = true) (i : Nat) (hi : i < l.length) : (l.getD i .empty).size ≤ 140737488355328 := by
  rw [List.getD_eq_getElem?_getD, List.getElem?_eq_getElem hi]
  exact name_size (List.all_eq_true.1 h _ (List.getElem_mem hi))
theorem c_joining_right {d : ByteArray} {l : List ByteArray} (hd : isName d = true) (h1 : 1 ≤ l.length) (h2 : l.length ≤ 64) (hl : l.all isName = true) : XPure Tryz.prog 176 [.agg [str d, eS l]] (i64 0) false := by
  have hA : XPure Tryz.prog 93 [eS [d]] (i64 0) false := by
    have h := c_cmd_files (l := [d]) (Nat.le_of_ble_eq_true rfl) (sz1 (name_size hd))
    rwa [show errIf ([d].all isName) 3 = 0 from by simp [errIf, hd]] at h
  have hB : XPure Tryz.prog 93 [eS l] (i64 0) false := by
    have h := c_cmd_files (l := l) (by omega) (names_size hl)
    rwa [hl] at h
  have hF : XPure Tryz.prog 181 [.sl 1 ([0, 0].map i64)] (i64 0) false := c_cmd_first (l := [0, 0]) (Nat.le_of_ble_eq_true rfl)
  refine XPure.body ⟨_, Tryz.func176, rfl, by kernel_rfl⟩ Tryz.func176 rfl (Nat.le_of_ble_eq_true (by rfl)) (pf_of1 rfl) fun env => ?_
  repeat' ((conv => whnf); (fail_if_success refine zC ?_); first | refine zS ?_ | refine zB (fun h hs => ?_) (fun h hs => ?_) <;> try exact hs.elim | refine .inl ⟨_, _, hA, ?_⟩ | refine .inl ⟨_, _, hB, ?_⟩ | refine .inl ⟨_, _, hF, ?_⟩ | refine XW.dr (m := 9) ?_ | refine ⟨_, _, hA, ?_⟩ | refine ⟨_, _, hB, ?_⟩ | refine ⟨_, _, hF, ?_⟩ | exact zE | refine zZ ?_ | fail)
  all_goals omega
theorem c_echoing_right {d : ByteArray} {w : List ByteArray} (hd : isName d = true) (hw : w.length ≤ 512) : XPure Tryz.prog 183 [.agg [str d, eS w]] (i64 0) false := by
  have hA : XPure Tryz.prog 93 [eS [d]] (i64 0) false := by
    have h := c_cmd_files (l := [d]) (Nat.le_of_ble_eq_true rfl) (sz1 (name_size hd))
    rwa [show errIf ([d].all isName) 3 = 0 from by simp [errIf, hd]] at h
  have hB : XPure Tryz.prog 187 [eS w] (i64 0) false := by
    have h := c_cmd_few (l := w)
    rwa [if_neg (by omega)] at h
  have hF : XPure Tryz.prog 181 [.sl 1 ([0, 0].map i64)] (i64 0) false := c_cmd_first (l := [0, 0]) (Nat.le_of_ble_eq_true rfl)
  refine XPure.body ⟨_, Tryz.func183, rfl, by kernel_rfl⟩ Tryz.func183 rfl (Nat.le_of_ble_eq_true (by rfl)) (pf_of1 rfl) fun env => ?_
  repeat' ((conv => whnf); (fail_if_success refine zC ?_); first | refine zS ?_ | refine zB (fun h hs => ?_) (fun h hs => ?_) <;> try exact hs.elim | refine .inl ⟨_, _, hA, ?_⟩ | refine .inl ⟨_, _, hB, ?_⟩ | refine .inl ⟨_, _, hF, ?_⟩ | refine XW.dr (m := 9) ?_ | refine ⟨_, _, hA, ?_⟩ | refine ⟨_, _, hB, ?_⟩ | refine ⟨_, _, hF, ?_⟩ | exact zE | refine zZ ?_ | fail)
end Go.Proofs.YtepdiooaoegpfaaGreatDoor.Fx
end
section
/- The document's reading of words as a command. Conditions: those in each statement. -/
namespace Go.Proofs.YtepdiooaoegpfaaGreatDoor.Fx
open Go Go.Proofs Go.Ev Go.RowKit
set_option maxRecDepth 100000
set_option maxHeartbeats 1600000
set_option linter.unusedSimpArgs false
set_option linter.unusedVariables false
theorem szE : ∀ i, i < ([] : List ByteArray).length → (([] : List ByteArray).getD i .empty).size ≤ 140737488355328 := fun i h => absurd h (by simp)
theorem parseE_k {w : ByteArray} {l : List ByteArray} {op : Int} (hl : l.length ≤ 513) (ho : opFrom w 1 8 = op) (hm : manyOk op l.length = true) (h7 : op ≠ 7) : parseE (w :: l) = if cmFiles (cmOf op l) = true then 0 else 3 := by
  rw [parseE_of hl ho, if_neg (by rw [hm]; simp), if_neg (fun h => h7 h.1)]
theorem parseE_7 {w : ByteArray} {l : List ByteArray} (hl : l.length ≤ 513) (ho : opFrom w 1 8 = 7) (hm : manyOk 7 l.length = true) : parseE (w :: l) = if (cmOf 7 l).st = 0 then 160 else 0 := by
  rw [parseE_of hl ho, if_neg (by rw [hm]; simp)]
  by_cases h : (cmOf 7 l).st = 0
  · rw [if_pos ⟨rfl, h⟩, if_pos h]
  · rw [if_neg (fun q => h q.2), if_neg h]; rfl
theorem leq_sl {k : Nat} {l l' : List AV} (h : l = l') : LeqD (.sl k l) (.sl k l') := h ▸ LeqD.refl _
theorem okL {P : Prop} (h : P := by first | exact okN | ((conv => arg 1; whnf); refine leq_sl ?_; simp [List.take_take, List.take_of_length_le]; first | done | fail)) : P := h
end Go.Proofs.YtepdiooaoegpfaaGreatDoor.Fx
end
section
/- Words as a command, by the program; and both readings whole. Conditions: those in each statement. -/
namespace Go.Proofs.YtepdiooaoegpfaaGreatDoor.Fx
open Go Go.Proofs Go.Ev Go.RowKit
set_option maxRecDepth 100000
set_option maxHeartbeats 1600000
set_option linter.unusedSimpArgs false
set_option linter.unusedVariables false
theorem c_CloneN {l : List ByteArray} {x : AV} (hl : l.length ≤ 1000000000) (h : LeqD x (eS l)) : XPure Tryz.prog 89 [x] (eS l) false := (c_CloneS hl).nils (LeqDL.cons h (LeqDL.refl _))
theorem c_countB {op n : Int} {b : Bool} (h8 : 1 ≤ op ∧ op ≤ 8) (h : manyOk op n = b) : XPure Tryz.prog 90 [i64 op, i64 n] (bln b) false := h ▸ c_cmd_count h8
theorem c_filesB {l : List ByteArray} {x : AV} {b : Bool} (hl : l.length ≤ 1000000000) (hz : ∀ i, i < l.length → (l.getD i .empty).size ≤ 140737488355328) (h : l.all isName = b) (hx : LeqD x (eS l)) : XPure Tryz.prog 93 [x] (i64 (errIf b 3)) false := h ▸ (c_cmd_files hl hz).nils (LeqDL.cons hx (LeqDL.refl _))
theorem c_IndexB {w : ByteArray} {op k : Int} (ho : opFrom w 1 8 = op) (hk : op - 1 = k) : XPure Tryz.prog 68 [eS heads1, str w] (i64 k) false := by
  have h := c_Index (l := heads1) (s := w) (Nat.le_of_ble_eq_true rfl)
  have := find_op w
  rwa [show findN heads1 w 0 = k from by omega] at h
theorem szc {d : ByteArray} {src : List ByteArray} (hd : d.size ≤ 140737488355328) (hz : ∀ i, i < src.length → (src.getD i .empty).size ≤ 140737488355328) : ∀ i, i < (d :: src).length → ((d :: src).getD i .empty).size ≤ 140737488355328
  | 0, _ => hd
  | i + 1, h => hz i (by simpa using h)
theorem parse_badB {ws : List ByteArray} {b : Bool} (h : parseE ws = 3) (hb : b = false) : LeqD (.tup [.agg [i64 0, str ⟨#[]⟩, nilv, nilv, i64 0], i64 (errIf b 3)]) (.tup [(parseC ws).av, i64 (parseE ws)]) := by
  subst hb; exact parse_bad h (by decide)
theorem cP_1 {w a b : ByteArray} (ho : opFrom w 1 8 = 1) (ha : a.size ≤ 140737488355328) (hb : b.size ≤ 140737488355328) : XPure Tryz.prog 67 [eS (w :: [a, b])] (.tup [(parseC (w :: [a, b])).av, i64 (parseE (w :: [a, b]))]) false := by
  have hE := parseE_k (w := w) (l := [a, b]) (Nat.le_of_ble_eq_true rfl) ho rfl (by decide)
  have hB : cmFiles (cmOf 1 [a, b]) = [a, b].all isName := by show (isName b && (isName a && true)) = (isName a && (isName b && true)); cases isName a <;> cases isName b <;> rfl
  refine XPure.bodyN ⟨_, Tryz.func67, rfl, by kernel_rfl⟩ Tryz.func67 rfl (Nat.le_of_ble_eq_true (by rfl)) (pf_of1 rfl) fun env => ?_
  repeat' ((conv => whnf); (fail_if_success refine zC ?_); first | refine zSd ?_ | refine zB (fun h hs => ?_) (fun h hs => ?_) <;> try exact hs.elim | refine .inl ⟨_, _, c_heads, ?_⟩ | refine .inl ⟨_, _, c_IndexB ho rfl, ?_⟩ | refine .inl ⟨_, _, c_CloneN (l := [a, b]) (by first | omega | (simp only [List.length_cons, List.length_nil]; omega)) okL, ?_⟩ | refine .inl ⟨_, _, c_countB (op := 1) (b := true) (by decide) (rfl), ?_⟩ | refine .inl ⟨_, _, c_filesB (l := [a, b]) (b := cmFiles (cmOf 1 [a, b])) (Nat.le_of_ble_eq_true rfl) (sz2 ha hb) hB.symm okL, ?_⟩ | refine ⟨_, _, c_heads, ?_⟩ | refine ⟨_, _, c_IndexB ho rfl, ?_⟩ | refine ⟨_, _, c_CloneN (l := [a, b]) (by first | omega | (simp only [List.length_cons, List.length_nil]; omega)) okL, ?_⟩ | refine ⟨_, _, c_countB (op := 1) (b := true) (by decide) (rfl), ?_⟩ | refine ⟨_, _, c_filesB (l := [a, b]) (b := cmFiles (cmOf 1 [a, b])) (Nat.le_of_ble_eq_true rfl) (sz2 ha hb) hB.symm okL, ?_⟩ | (first | (refine XW.draw (id := 5) (m := 8) (by kernel_rfl) (by kernel_rfl) (by rfl) ?_) | (refine XW.drawW (id := 15) (M := 7) (p := 1) (W := [5, 6]) (by kernel_rfl) (by kernel_rfl) ?_) | ((with_reducible show _ ∧ allW _ _); refine ⟨?_, ?_⟩) | exact trivial) | exact zElw | refine zZlw ?_ | fail)
  all_goals try (exfalso; simp only [List.length_cons, List.length_nil, List.length_append, List.length_map, List.length_drop, List.length_take] at hs; omega)
  · have hq : cmFiles (cmOf 1 [a, b]) = false := by cases hc : cmFiles (cmOf 1 [a, b]); rfl; exact absurd (by rw [hc]; rfl) hs
    exact parse_badB (hE.trans (if_neg (by rw [hq]; simp))) hq
  · have h0 := hE.trans (if_pos (errIf_0.1 hs))
    exact parse_good (c := ⟨1, b, [a], [], 0⟩) h0 (parseC_of ho h0) okL okL
theorem cP_2 {w d : ByteArray} {src : List ByteArray} (ho : opFrom w 1 8 = 2) (h1 : 1 ≤ src.length) (h2 : src.length ≤ 64) (hd : d.size ≤ 140737488355328) (hz : ∀ i, i < src.length → (src.getD i .empty).size ≤ 140737488355328) : XPure Tryz.prog 67 [eS (w :: (d :: src))] (.tup [(parseC (w :: (d :: src))).av, i64 (parseE (w :: (d :: src)))]) false := by
  have hE := parseE_k (w := w) (l := (d :: src)) (by simp only [List.length_cons]; omega) ho (by simp [manyOk]; omega) (by decide)
  have hB : cmFiles (cmOf 2 (d :: src)) = (d :: src).all isName := rfl
  refine XPure.bodyN ⟨_, Tryz.func67, rfl, by kernel_rfl⟩ Tryz.func67 rfl (Nat.le_of_ble_eq_true (by rfl)) (pf_of1 rfl) fun env => ?_
  repeat' ((conv => whnf); (fail_if_success refine zC ?_); first | refine zSd ?_ | refine zB (fun h hs => ?_) (fun h hs => ?_) <;> try exact hs.elim | refine .inl ⟨_, _, c_heads, ?_⟩ | refine .inl ⟨_, _, c_IndexB ho rfl, ?_⟩ | refine .inl ⟨_, _, c_CloneN (l := (d :: src)) (by first | omega | (simp only [List.length_cons, List.length_nil]; omega)) okL, ?_⟩ | refine .inl ⟨_, _, c_countB (op := 2) (b := true) (by decide) (by simp [manyOk]; omega), ?_⟩ | refine .inl ⟨_, _, c_filesB (l := (d :: src)) (b := cmFiles (cmOf 2 (d :: src))) (by simp only [List.length_cons]; omega) (szc hd hz) hB.symm okL, ?_⟩ | refine ⟨_, _, c_heads, ?_⟩ | refine ⟨_, _, c_IndexB ho rfl, ?_⟩ | refine ⟨_, _, c_CloneN (l := (d :: src)) (by first | omega | (simp only [List.length_cons, List.length_nil]; omega)) okL, ?_⟩ | refine ⟨_, _, c_countB (op := 2) (b := true) (by decide) (by simp [manyOk]; omega), ?_⟩ | refine ⟨_, _, c_filesB (l := (d :: src)) (b := cmFiles (cmOf 2 (d :: src))) (by simp only [List.length_cons]; omega) (szc hd hz) hB.symm okL, ?_⟩ | (first | (refine XW.draw (id := 5) (m := 8) (by kernel_rfl) (by kernel_rfl) (by rfl) ?_) | (refine XW.drawW (id := 17) (M := 7) (p := 1) (W := [5, 6]) (by kernel_rfl) (by kernel_rfl) ?_) | ((with_reducible show _ ∧ allW _ _); refine ⟨?_, ?_⟩) | exact trivial) | exact zElw | refine zZlw ?_ | fail)
  all_goals try (exfalso; simp only [List.length_cons, List.length_nil, List.length_append, List.length_map, List.length_drop, List.length_take] at hs; omega)
  · have hq : cmFiles (cmOf 2 (d :: src)) = false := by cases hc : cmFiles (cmOf 2 (d :: src)); rfl; exact absurd (by rw [hc]; rfl) hs
    exact parse_badB (hE.trans (if_neg (by rw [hq]; simp))) hq
  · have h0 := hE.trans (if_pos (errIf_0.1 hs))
    exact parse_good (c := ⟨2, d, src, [], 0⟩) h0 (parseC_of ho h0) okL okL
theorem cP_3 {w d : ByteArray} {ws : List ByteArray} (ho : opFrom w 1 8 = 3) (h2 : ws.length ≤ 512) (hd : d.size ≤ 140737488355328) : XPure Tryz.prog 67 [eS (w :: (d :: ws))] (.tup [(parseC (w :: (d :: ws))).av, i64 (parseE (w :: (d :: ws)))]) false := by
  have hE := parseE_k (w := w) (l := (d :: ws)) (by simp only [List.length_cons]; omega) ho (by simp [manyOk]; omega) (by decide)
  have hB : cmFiles (cmOf 3 (d :: ws)) = [d].all isName := by show (isName d && true) = (isName d && true); rfl
  refine XPure.bodyN ⟨_, Tryz.func67, rfl, by kernel_rfl⟩ Tryz.func67 rfl (Nat.le_of_ble_eq_true (by rfl)) (pf_of1 rfl) fun env => ?_
  repeat' ((conv => whnf); (fail_if_success refine zC ?_); first | refine zSd ?_ | refine zB (fun h hs => ?_) (fun h hs => ?_) <;> try exact hs.elim | refine .inl ⟨_, _, c_heads, ?_⟩ | refine .inl ⟨_, _, c_IndexB ho rfl, ?_⟩ | refine .inl ⟨_, _, c_CloneN (l := (d :: ws)) (by first | omega | (simp only [List.length_cons, List.length_nil]; omega)) okL, ?_⟩ | refine .inl ⟨_, _, c_countB (op := 3) (b := true) (by decide) (by simp [manyOk]; omega), ?_⟩ | refine .inl ⟨_, _, c_filesB (l := [d]) (b := cmFiles (cmOf 3 (d :: ws))) (Nat.le_of_ble_eq_true rfl) (sz1 hd) hB.symm okL, ?_⟩ | refine ⟨_, _, c_heads, ?_⟩ | refine ⟨_, _, c_IndexB ho rfl, ?_⟩ | refine ⟨_, _, c_CloneN (l := (d :: ws)) (by first | omega | (simp only [List.length_cons, List.length_nil]; omega)) okL, ?_⟩ | refine ⟨_, _, c_countB (op := 3) (b := true) (by decide) (by simp [manyOk]; omega), ?_⟩ | refine ⟨_, _, c_filesB (l := [d]) (b := cmFiles (cmOf 3 (d :: ws))) (Nat.le_of_ble_eq_true rfl) (sz1 hd) hB.symm okL, ?_⟩ | (first | (refine XW.draw (id := 5) (m := 8) (by kernel_rfl) (by kernel_rfl) (by rfl) ?_) | (refine XW.drawW (id := 19) (M := 7) (p := 1) (W := [5, 6]) (by kernel_rfl) (by kernel_rfl) ?_) | ((with_reducible show _ ∧ allW _ _); refine ⟨?_, ?_⟩) | exact trivial) | exact zElw | refine zZlw ?_ | fail)
  all_goals try (exfalso; simp only [List.length_cons, List.length_nil, List.length_append, List.length_map, List.length_drop, List.length_take] at hs; omega)
  · have hq : cmFiles (cmOf 3 (d :: ws)) = false := by cases hc : cmFiles (cmOf 3 (d :: ws)); rfl; exact absurd (by rw [hc]; rfl) hs
    exact parse_badB (hE.trans (if_neg (by rw [hq]; simp))) hq
  · have h0 := hE.trans (if_pos (errIf_0.1 hs))
    exact parse_good (c := ⟨3, d, [], ws, 0⟩) h0 (parseC_of ho h0) okL okL
theorem cP_4 {w d : ByteArray} (ho : opFrom w 1 8 = 4) (hd : d.size ≤ 140737488355328) : XPure Tryz.prog 67 [eS (w :: [d])] (.tup [(parseC (w :: [d])).av, i64 (parseE (w :: [d]))]) false := by
  have hE := parseE_k (w := w) (l := [d]) (Nat.le_of_ble_eq_true rfl) ho rfl (by decide)
  have hB : cmFiles (cmOf 4 [d]) = [d].all isName := rfl
  refine XPure.bodyN ⟨_, Tryz.func67, rfl, by kernel_rfl⟩ Tryz.func67 rfl (Nat.le_of_ble_eq_true (by rfl)) (pf_of1 rfl) fun env => ?_
  repeat' ((conv => whnf); (fail_if_success refine zC ?_); first | refine zSd ?_ | refine zB (fun h hs => ?_) (fun h hs => ?_) <;> try exact hs.elim | refine .inl ⟨_, _, c_heads, ?_⟩ | refine .inl ⟨_, _, c_IndexB ho rfl, ?_⟩ | refine .inl ⟨_, _, c_CloneN (l := [d]) (by first | omega | (simp only [List.length_cons, List.length_nil]; omega)) okL, ?_⟩ | refine .inl ⟨_, _, c_countB (op := 4) (b := true) (by decide) (rfl), ?_⟩ | refine .inl ⟨_, _, c_filesB (l := [d]) (b := cmFiles (cmOf 4 [d])) (Nat.le_of_ble_eq_true rfl) (sz1 hd) hB.symm okL, ?_⟩ | refine ⟨_, _, c_heads, ?_⟩ | refine ⟨_, _, c_IndexB ho rfl, ?_⟩ | refine ⟨_, _, c_CloneN (l := [d]) (by first | omega | (simp only [List.length_cons, List.length_nil]; omega)) okL, ?_⟩ | refine ⟨_, _, c_countB (op := 4) (b := true) (by decide) (rfl), ?_⟩ | refine ⟨_, _, c_filesB (l := [d]) (b := cmFiles (cmOf 4 [d])) (Nat.le_of_ble_eq_true rfl) (sz1 hd) hB.symm okL, ?_⟩ | (first | (refine XW.draw (id := 5) (m := 8) (by kernel_rfl) (by kernel_rfl) (by rfl) ?_) | ((with_reducible show _ ∧ allW _ _); refine ⟨?_, ?_⟩) | exact trivial) | exact zElw | refine zZlw ?_ | fail)
  all_goals try (exfalso; simp only [List.length_cons, List.length_nil, List.length_append, List.length_map, List.length_drop, List.length_take] at hs; omega)
  · have hq : cmFiles (cmOf 4 [d]) = false := by cases hc : cmFiles (cmOf 4 [d]); rfl; exact absurd (by rw [hc]; rfl) hs
    exact parse_badB (hE.trans (if_neg (by rw [hq]; simp))) hq
  · have h0 := hE.trans (if_pos (errIf_0.1 hs))
    exact parse_good (c := ⟨4, d, [], [], 0⟩) h0 (parseC_of ho h0) okL okL
theorem cP_5 {w d : ByteArray} (ho : opFrom w 1 8 = 5) (hd : d.size ≤ 140737488355328) : XPure Tryz.prog 67 [eS (w :: [d])] (.tup [(parseC (w :: [d])).av, i64 (parseE (w :: [d]))]) false := by
  have hE := parseE_k (w := w) (l := [d]) (Nat.le_of_ble_eq_true rfl) ho rfl (by decide)
  have hB : cmFiles (cmOf 5 [d]) = [d].all isName := rfl
  refine XPure.bodyN ⟨_, Tryz.func67, rfl, by kernel_rfl⟩ Tryz.func67 rfl (Nat.le_of_ble_eq_true (by rfl)) (pf_of1 rfl) fun env => ?_
  repeat' ((conv => whnf); (fail_if_success refine zC ?_); first | refine zSd ?_ | refine zB (fun h hs => ?_) (fun h hs => ?_) <;> try exact hs.elim | refine .inl ⟨_, _, c_heads, ?_⟩ | refine .inl ⟨_, _, c_IndexB ho rfl, ?_⟩ | refine .inl ⟨_, _, c_CloneN (l := [d]) (by first | omega | (simp only [List.length_cons, List.length_nil]; omega)) okL, ?_⟩ | refine .inl ⟨_, _, c_countB (op := 5) (b := true) (by decide) (rfl), ?_⟩ | refine .inl ⟨_, _, c_filesB (l := [d]) (b := cmFiles (cmOf 5 [d])) (Nat.le_of_ble_eq_true rfl) (sz1 hd) hB.symm okL, ?_⟩ | refine ⟨_, _, c_heads, ?_⟩ | refine ⟨_, _, c_IndexB ho rfl, ?_⟩ | refine ⟨_, _, c_CloneN (l := [d]) (by first | omega | (simp only [List.length_cons, List.length_nil]; omega)) okL, ?_⟩ | refine ⟨_, _, c_countB (op := 5) (b := true) (by decide) (rfl), ?_⟩ | refine ⟨_, _, c_filesB (l := [d]) (b := cmFiles (cmOf 5 [d])) (Nat.le_of_ble_eq_true rfl) (sz1 hd) hB.symm okL, ?_⟩ | (first | (refine XW.draw (id := 5) (m := 8) (by kernel_rfl) (by kernel_rfl) (by rfl) ?_) | ((with_reducible show _ ∧ allW _ _); refine ⟨?_, ?_⟩) | exact trivial) | exact zElw | refine zZlw ?_ | fail)
  all_goals try (exfalso; simp only [List.length_cons, List.length_nil, List.length_append, List.length_map, List.length_drop, List.length_take] at hs; omega)
  · have hq : cmFiles (cmOf 5 [d]) = false := by cases hc : cmFiles (cmOf 5 [d]); rfl; exact absurd (by rw [hc]; rfl) hs
    exact parse_badB (hE.trans (if_neg (by rw [hq]; simp))) hq
  · have h0 := hE.trans (if_pos (errIf_0.1 hs))
    exact parse_good (c := ⟨5, d, [], [], 0⟩) h0 (parseC_of ho h0) okL okL
theorem cP_6 {w s : ByteArray} (ho : opFrom w 1 8 = 6) (hd : s.size ≤ 140737488355328) : XPure Tryz.prog 67 [eS (w :: [s])] (.tup [(parseC (w :: [s])).av, i64 (parseE (w :: [s]))]) false := by
  have hE := parseE_k (w := w) (l := [s]) (Nat.le_of_ble_eq_true rfl) ho rfl (by decide)
  have hB : cmFiles (cmOf 6 [s]) = [s].all isName := rfl
  refine XPure.bodyN ⟨_, Tryz.func67, rfl, by kernel_rfl⟩ Tryz.func67 rfl (Nat.le_of_ble_eq_true (by rfl)) (pf_of1 rfl) fun env => ?_
  repeat' ((conv => whnf); (fail_if_success refine zC ?_); first | refine zSd ?_ | refine zB (fun h hs => ?_) (fun h hs => ?_) <;> try exact hs.elim | refine .inl ⟨_, _, c_heads, ?_⟩ | refine .inl ⟨_, _, c_IndexB ho rfl, ?_⟩ | refine .inl ⟨_, _, c_CloneN (l := [s]) (by first | omega | (simp only [List.length_cons, List.length_nil]; omega)) okL, ?_⟩ | refine .inl ⟨_, _, c_countB (op := 6) (b := true) (by decide) (rfl), ?_⟩ | refine .inl ⟨_, _, c_filesB (l := [s]) (b := cmFiles (cmOf 6 [s])) (Nat.le_of_ble_eq_true rfl) (sz1 hd) hB.symm okL, ?_⟩ | refine ⟨_, _, c_heads, ?_⟩ | refine ⟨_, _, c_IndexB ho rfl, ?_⟩ | refine ⟨_, _, c_CloneN (l := [s]) (by first | omega | (simp only [List.length_cons, List.length_nil]; omega)) okL, ?_⟩ | refine ⟨_, _, c_countB (op := 6) (b := true) (by decide) (rfl), ?_⟩ | refine ⟨_, _, c_filesB (l := [s]) (b := cmFiles (cmOf 6 [s])) (Nat.le_of_ble_eq_true rfl) (sz1 hd) hB.symm okL, ?_⟩ | (first | (refine XW.draw (id := 5) (m := 8) (by kernel_rfl) (by kernel_rfl) (by rfl) ?_) | ((with_reducible show _ ∧ allW _ _); refine ⟨?_, ?_⟩) | exact trivial) | exact zElw | refine zZlw ?_ | fail)
  all_goals try (exfalso; simp only [List.length_cons, List.length_nil, List.length_append, List.length_map, List.length_drop, List.length_take] at hs; omega)
  · have hq : cmFiles (cmOf 6 [s]) = false := by cases hc : cmFiles (cmOf 6 [s]); rfl; exact absurd (by rw [hc]; rfl) hs
    exact parse_badB (hE.trans (if_neg (by rw [hq]; simp))) hq
  · have h0 := hE.trans (if_pos (errIf_0.1 hs))
    exact parse_good (c := ⟨6, ⟨#[]⟩, [s], [], 0⟩) h0 (parseC_of ho h0) okL okL
theorem cP_8 {w : ByteArray} {ws : List ByteArray} (ho : opFrom w 1 8 = 8) (h2 : ws.length ≤ 512) : XPure Tryz.prog 67 [eS (w :: ws)] (.tup [(parseC (w :: ws)).av, i64 (parseE (w :: ws))]) false := by
  have hE := parseE_k (w := w) (l := ws) (by omega) ho (by simp [manyOk]; omega) (by decide)
  have hB : cmFiles (cmOf 8 ws) = [].all isName := rfl
  refine XPure.bodyN ⟨_, Tryz.func67, rfl, by kernel_rfl⟩ Tryz.func67 rfl (Nat.le_of_ble_eq_true (by rfl)) (pf_of1 rfl) fun env => ?_
  repeat' ((conv => whnf); (fail_if_success refine zC ?_); first | refine zSd ?_ | refine zB (fun h hs => ?_) (fun h hs => ?_) <;> try exact hs.elim | refine .inl ⟨_, _, c_heads, ?_⟩ | refine .inl ⟨_, _, c_IndexB ho rfl, ?_⟩ | refine .inl ⟨_, _, c_CloneN (l := ws) (by first | omega | (simp only [List.length_cons, List.length_nil]; omega)) okL, ?_⟩ | refine .inl ⟨_, _, c_countB (op := 8) (b := true) (by decide) (by simp [manyOk]; omega), ?_⟩ | refine .inl ⟨_, _, c_filesB (l := []) (b := cmFiles (cmOf 8 ws)) (Nat.le_of_ble_eq_true rfl) (szE) hB.symm okL, ?_⟩ | refine ⟨_, _, c_heads, ?_⟩ | refine ⟨_, _, c_IndexB ho rfl, ?_⟩ | refine ⟨_, _, c_CloneN (l := ws) (by first | omega | (simp only [List.length_cons, List.length_nil]; omega)) okL, ?_⟩ | refine ⟨_, _, c_countB (op := 8) (b := true) (by decide) (by simp [manyOk]; omega), ?_⟩ | refine ⟨_, _, c_filesB (l := []) (b := cmFiles (cmOf 8 ws)) (Nat.le_of_ble_eq_true rfl) (szE) hB.symm okL, ?_⟩ | (first | (refine XW.draw (id := 5) (m := 8) (by kernel_rfl) (by kernel_rfl) (by rfl) ?_) | ((with_reducible show _ ∧ allW _ _); refine ⟨?_, ?_⟩) | exact trivial) | exact zElw | refine zZlw ?_ | fail)
  all_goals try (exfalso; simp only [List.length_cons, List.length_nil, List.length_append, List.length_map, List.length_drop, List.length_take] at hs; omega)
  · have hq : cmFiles (cmOf 8 ws) = false := by cases hc : cmFiles (cmOf 8 ws); rfl; exact absurd (by rw [hc]; rfl) hs
    exact parse_badB (hE.trans (if_neg (by rw [hq]; simp))) hq
  · have h0 := hE.trans (if_pos (errIf_0.1 hs))
    exact parse_good (c := ⟨8, ⟨#[]⟩, [], ws, 0⟩) h0 (parseC_of ho h0) okL okL
theorem cP_7a {w : ByteArray} (ho : opFrom w 1 8 = 7) : XPure Tryz.prog 67 [eS [w]] (.tup [(parseC [w]).av, i64 (parseE [w])]) false := by
  have hE := parseE_7 (w := w) (l := []) (Nat.le_of_ble_eq_true rfl) ho rfl
  refine XPure.bodyN ⟨_, Tryz.func67, rfl, by kernel_rfl⟩ Tryz.func67 rfl (Nat.le_of_ble_eq_true (by rfl)) (pf_of1 rfl) fun env => ?_
  repeat' ((conv => whnf); (fail_if_success refine zC ?_); first | refine zSd ?_ | refine zB (fun h hs => ?_) (fun h hs => ?_) <;> try exact hs.elim | refine .inl ⟨_, _, c_heads, ?_⟩ | refine .inl ⟨_, _, c_IndexB ho rfl, ?_⟩ | refine .inl ⟨_, _, c_CloneN (l := []) (Nat.le_of_ble_eq_true rfl) okL, ?_⟩ | refine .inl ⟨_, _, c_countB (op := 7) (b := true) (by decide) rfl, ?_⟩ | refine .inl ⟨_, _, c_filesB (l := []) (b := true) (Nat.le_of_ble_eq_true rfl) szE rfl okL, ?_⟩ | refine ⟨_, _, c_heads, ?_⟩ | refine ⟨_, _, c_IndexB ho rfl, ?_⟩ | refine ⟨_, _, c_CloneN (l := []) (Nat.le_of_ble_eq_true rfl) okL, ?_⟩ | refine ⟨_, _, c_countB (op := 7) (b := true) (by decide) rfl, ?_⟩ | refine ⟨_, _, c_filesB (l := []) (b := true) (Nat.le_of_ble_eq_true rfl) szE rfl okL, ?_⟩ | (first | (refine XW.draw (id := 5) (m := 8) (by kernel_rfl) (by kernel_rfl) (by rfl) ?_) | ((with_reducible show _ ∧ allW _ _); refine ⟨?_, ?_⟩) | exact trivial) | exact zElw | refine zZlw ?_ | fail)
  all_goals try (exfalso; simp only [List.length_cons, List.length_nil, List.length_append, List.length_map, List.length_drop, List.length_take] at hs; omega)
  · have h0 : parseE [w] = 0 := hE.trans rfl
    exact parse_good (c := ⟨7, ⟨#[]⟩, [], [], 1⟩) h0 (parseC_of ho h0) okL okL
theorem cP_7e {w s : ByteArray} (ho : opFrom w 1 8 = 7) (hd : s.size ≤ 140737488355328) (hA : ∀ v, Lib.atoiAll s.data.toList ≠ .ok v) : XPure Tryz.prog 67 [eS [w, s]] (.tup [(parseC [w, s]).av, i64 (parseE [w, s])]) false := by
  have hE : parseE [w, s] = 160 := (parseE_7 (w := w) (l := [s]) (Nat.le_of_ble_eq_true rfl) ho rfl).trans (if_pos (failN_err hA))
  refine XPure.bodyN ⟨_, Tryz.func67, rfl, by kernel_rfl⟩ Tryz.func67 rfl (Nat.le_of_ble_eq_true (by rfl)) (pf_of1 rfl) fun env => ?_
  repeat' ((conv => whnf); (fail_if_success refine zC ?_); first | refine zSd ?_ | refine zB (fun h hs => ?_) (fun h hs => ?_) <;> try exact hs.elim | refine .inl ⟨_, _, c_heads, ?_⟩ | refine .inl ⟨_, _, c_IndexB ho rfl, ?_⟩ | refine .inl ⟨_, _, c_CloneN (l := [s]) (Nat.le_of_ble_eq_true rfl) okL, ?_⟩ | refine .inl ⟨_, _, c_countB (op := 7) (b := true) (by decide) rfl, ?_⟩ | refine .inl ⟨_, _, c_Atoi_err hd hA, ?_⟩ | refine ⟨_, _, c_heads, ?_⟩ | refine ⟨_, _, c_IndexB ho rfl, ?_⟩ | refine ⟨_, _, c_CloneN (l := [s]) (Nat.le_of_ble_eq_true rfl) okL, ?_⟩ | refine ⟨_, _, c_countB (op := 7) (b := true) (by decide) rfl, ?_⟩ | refine ⟨_, _, c_Atoi_err hd hA, ?_⟩ | (first | (refine XW.draw (id := 5) (m := 8) (by kernel_rfl) (by kernel_rfl) (by rfl) ?_) | (refine XW.draw (id := 31) (m := 16) (by kernel_rfl) (by kernel_rfl) (by rfl) ?_) | ((with_reducible show _ ∧ allW _ _); refine ⟨?_, ?_⟩) | exact trivial) | exact zElw | refine zZlw ?_ | fail)
  all_goals try (exfalso; simp only [List.length_cons, List.length_nil, List.length_append, List.length_map, List.length_drop, List.length_take] at hs; omega)
  exact parse_bad hE (by decide)
theorem cP_7o {w s : ByteArray} {v : Int} (ho : opFrom w 1 8 = 7) (hd : s.size ≤ 140737488355328) (hA : Lib.atoiAll s.data.toList = .ok v) (h0 : -9223372036854775808 ≤ v) (h1 : v ≤ 9223372036854775807) : XPure Tryz.prog 67 [eS [w, s]] (.tup [(parseC [w, s]).av, i64 (parseE [w, s])]) false := by
  have hE : parseE [w, s] = if failN s = 0 then 160 else 0 := parseE_7 (w := w) (l := [s]) (Nat.le_of_ble_eq_true rfl) ho rfl
  have hF := failN_ok hA
  refine XPure.bodyN ⟨_, Tryz.func67, rfl, by kernel_rfl⟩ Tryz.func67 rfl (Nat.le_of_ble_eq_true (by rfl)) (pf_of1 rfl) fun env => ?_
  repeat' ((conv => whnf); (fail_if_success refine zC ?_); first | refine zSd ?_ | refine zB (fun h hs => ?_) (fun h hs => ?_) <;> try exact hs.elim | refine .inl ⟨_, _, c_heads, ?_⟩ | refine .inl ⟨_, _, c_IndexB ho rfl, ?_⟩ | refine .inl ⟨_, _, c_CloneN (l := [s]) (Nat.le_of_ble_eq_true rfl) okL, ?_⟩ | refine .inl ⟨_, _, c_countB (op := 7) (b := true) (by decide) rfl, ?_⟩ | refine .inl ⟨_, _, c_Atoi_ok hd hA, ?_⟩ | refine .inl ⟨_, _, c_Itoa h0 h1, ?_⟩ | refine .inl ⟨_, _, c_filesB (l := []) (b := true) (Nat.le_of_ble_eq_true rfl) szE rfl okL, ?_⟩ | refine ⟨_, _, c_heads, ?_⟩ | refine ⟨_, _, c_IndexB ho rfl, ?_⟩ | refine ⟨_, _, c_CloneN (l := [s]) (Nat.le_of_ble_eq_true rfl) okL, ?_⟩ | refine ⟨_, _, c_countB (op := 7) (b := true) (by decide) rfl, ?_⟩ | refine ⟨_, _, c_Atoi_ok hd hA, ?_⟩ | refine ⟨_, _, c_Itoa h0 h1, ?_⟩ | refine ⟨_, _, c_filesB (l := []) (b := true) (Nat.le_of_ble_eq_true rfl) szE rfl okL, ?_⟩ | (first | (refine XW.draw (id := 5) (m := 8) (by kernel_rfl) (by kernel_rfl) (by rfl) ?_) | (refine XW.draw (id := 31) (m := 16) (by kernel_rfl) (by kernel_rfl) (by rfl) ?_) | ((with_reducible show _ ∧ allW _ _); refine ⟨?_, ?_⟩) | exact trivial) | exact zElw | refine zZlw ?_ | fail)
  all_goals try (exfalso; simp only [List.length_cons, List.length_nil, List.length_append, List.length_map, List.length_drop, List.length_take] at hs; omega)
  · exact parse_bad (hE.trans (if_pos (hF.trans (if_neg (by rintro ⟨q1, q2, q3⟩; rcases hs with (g | g) | g; exact g q1; omega; omega))))) (by decide)
  · have hv : failN s = v := hF.trans (if_pos ⟨hs.1.1, hs.1.2, hs.2⟩)
    have h0 := hE.trans (if_neg (by rw [hv]; omega))
    exact parse_good (c := ⟨7, ⟨#[]⟩, [], [], v⟩) h0 ((parseC_of ho h0).trans (by show Cm.mk 7 ⟨#[]⟩ [] [] (failN s) = _; rw [hv])) okL okL
  · exact parse_bad (hE.trans (if_pos (hF.trans (if_neg (by rintro ⟨q1, q2, q3⟩; rcases hs with g | g; exact g q1; omega))))) (by decide)
  · exact parse_bad (hE.trans (if_pos (hF.trans (if_neg (by rintro ⟨q1, q2, q3⟩; exact hs q1))))) (by decide)
theorem cP_7b {w s : ByteArray} (ho : opFrom w 1 8 = 7) (hd : s.size ≤ 140737488355328) : XPure Tryz.prog 67 [eS [w, s]] (.tup [(parseC [w, s]).av, i64 (parseE [w, s])]) false := by
  by_cases hA : ∃ v, Lib.atoiAll s.data.toList = .ok v
  · obtain ⟨v, hA⟩ := hA
    obtain ⟨h0, h1⟩ := Lib.atoiAll_bounds hA
    exact cP_7o ho hd hA h0 h1
  · exact cP_7e ho hd (fun v e => hA ⟨v, e⟩)
theorem cP_bad {w : ByteArray} {l : List ByteArray} {op : Int} (hl : l.length ≤ 513) (ho : opFrom w 1 8 = op) (hm : manyOk op l.length = false) : XPure Tryz.prog 67 [eS (w :: l)] (.tup [(parseC (w :: l)).av, i64 (parseE (w :: l))]) false := by
  have hE : parseE (w :: l) = 160 := by rw [parseE_of hl ho, if_pos hm]
  have h8 := opFrom_cases w
  rw [ho] at h8
  have hw : IntKind.i64.wrap ((op - 1) + 1) = op := by rw [wrapId (by omega) (by omega)]; omega
  refine XPure.bodyN ⟨_, Tryz.func67, rfl, by kernel_rfl⟩ Tryz.func67 rfl (Nat.le_of_ble_eq_true (by rfl)) (pf_of1 rfl) fun env => ?_
  repeat' ((conv => whnf); (fail_if_success refine zC ?_); first | refine zSd ?_ | refine zB (fun h hs => ?_) (fun h hs => ?_) <;> try exact hs.elim | refine .inl ⟨_, _, c_heads, ?_⟩ | refine .inl ⟨_, _, c_IndexB ho rfl, ?_⟩ | refine .inl ⟨_, _, c_CloneN (l := l) (by omega) okL, ?_⟩ | refine .inl ⟨_, _, c_countB (op := op) (b := false) (by omega) (by rw [← hm]; congr 1; simp), ?_⟩ | refine ⟨_, _, c_heads, ?_⟩ | refine ⟨_, _, c_IndexB ho rfl, ?_⟩ | refine ⟨_, _, c_CloneN (l := l) (by omega) okL, ?_⟩ | refine ⟨_, _, c_countB (op := op) (b := false) (by omega) (by rw [← hm]; congr 1; simp), ?_⟩ | (first | (refine XW.draw (id := 5) (m := 8) (by kernel_rfl) (by kernel_rfl) (by rfl) ?_) | rw [hw]) | exact zElw | refine zZlw ?_ | fail)
  all_goals try (exfalso; simp only [List.length_cons, List.length_nil, List.length_append, List.length_map, List.length_drop, List.length_take] at hs; omega)
  all_goals exact parse_bad hE (by decide)
theorem cP_long {ws : List ByteArray} (h : 514 < ws.length) : XPure Tryz.prog 67 [eS ws] (.tup [(parseC ws).av, i64 (parseE ws)]) false := by
  have hE : parseE ws = 2 := by unfold parseE; rw [if_pos h]
  refine XPure.bodyN ⟨_, Tryz.func67, rfl, by kernel_rfl⟩ Tryz.func67 rfl (Nat.le_of_ble_eq_true (by rfl)) (pf_of1 rfl) fun env => ?_
  repeat' ((conv => whnf); (fail_if_success refine zC ?_); first | refine zSd ?_ | refine zB (fun h hs => ?_) (fun h hs => ?_) <;> try exact hs.elim | exact zElw | refine zZlw ?_ | fail)
  · exact parse_bad hE (by decide)
  all_goals (exfalso; omega)
theorem cP_nil : XPure Tryz.prog 67 [eS []] (.tup [(parseC []).av, i64 (parseE [])]) false := by
  have hE : parseE [] = 9 := by unfold parseE; rfl
  refine XPure.bodyN ⟨_, Tryz.func67, rfl, by kernel_rfl⟩ Tryz.func67 rfl (Nat.le_of_ble_eq_true (by rfl)) (pf_of1 rfl) fun env => ?_
  repeat' ((conv => whnf); (fail_if_success refine zC ?_); first | refine zSd ?_ | refine zB (fun h hs => ?_) (fun h hs => ?_) <;> try exact hs.elim | exact zElw | refine zZlw ?_ | fail)
  exact parse_bad hE (by decide)
end Go.Proofs.YtepdiooaoegpfaaGreatDoor.Fx
end
section
/- The document's reading of a quoted word. Conditions: those in each statement. -/
namespace Go.Proofs.YtepdiooaoegpfaaGreatDoor.Fx
open Go Go.Proofs Go.Ev Go.RowKit Go.Proofs.YtepdiooaoegpfaaGreatDoor.Sup
set_option maxRecDepth 100000
set_option maxHeartbeats 1600000
set_option linter.unusedSimpArgs false
set_option linter.unusedVariables false
end Go.Proofs.YtepdiooaoegpfaaGreatDoor.Fx
end
section
/- The document's reading of a line's words. Conditions: those in each statement. -/
namespace Go.Proofs.YtepdiooaoegpfaaGreatDoor.Fx
open Go Go.Proofs Go.Ev Go.RowKit Go.Proofs.YtepdiooaoegpfaaGreatDoor.Sup
set_option maxRecDepth 100000
set_option maxHeartbeats 1600000
set_option linter.unusedSimpArgs false
set_option linter.unusedVariables false
end Go.Proofs.YtepdiooaoegpfaaGreatDoor.Fx
end
