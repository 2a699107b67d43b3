/- smithy/lex.Quote walked, the library's Replacer with it. Conditions: those in each statement. -/
import Derived.Test.YtpiafpkpdbknfaaGreatDoorShelf
import Derived.Test.YtpiafpkpdbknfaaGreatDoorSBridge
import Derived.Test.YtpiafpkpdbknfaaGreatDoorWWords
import Derived.Test.YtpiafpkpdbknfaaGreatDoorSQuote
import Derived.BigQuiet
import Derived.ChangeAlike
import Derived.Deep.DeepFit
import Derived.Deep.LoopGhost
import Derived.Deep.OwnRows
import Derived.Deep.QuietTactic
import Derived.Deep.RegionLaw
import Derived.Defers
import Derived.IntWalk
import Derived.Laws.CopyOwn
import Derived.Laws.LoneSync
import Derived.Laws.NewBlocks
import Derived.Laws.Pointers
import Derived.Lib.Hide
import Derived.RegionCalls
import Derived.RegionTactic
import Derived.StillTailTactics
import Derived.Tactics2
import Derived.WalkKit
import Derived.WalkLawsBesides
import Derived.WalkMore
import Derived.WalkSpells
namespace Go.Proofs.YtpiafpkpdbknfaaGreatDoor.Sup
open Go.RowKit Go.Proofs.YtpiafpkpdbknfaaGreatDoorW.PrintWords
set_option linter.unusedVariables false
set_option linter.unusedSimpArgs false


def cnt3 : List UInt8 → Nat
  | [] => 0
  | b :: l => (if b = 34 ∨ b = 92 ∨ b = 10 then 1 else 0) + cnt3 l
theorem escL_length : ∀ l : List UInt8, (escL l).length = l.length + cnt3 l
  | [] => rfl
  | b :: l => by
    have ih := escL_length l
    simp only [escL, cnt3, List.length_append, List.length_cons, ih]
    unfold escB
    by_cases h1 : b = 34
    · simp [h1]; omega
    · by_cases h2 : b = 92
      · simp [h2]; omega
      · by_cases h3 : b = 10
        · simp [h3]; omega
        · simp [h1, h2, h3]; omega
theorem escL_same : ∀ l : List UInt8, cnt3 l = 0 → escL l = l
  | [], _ => rfl
  | b :: l, h => by
    simp only [cnt3] at h
    have h0 : ¬ (b = 34 ∨ b = 92 ∨ b = 10) := fun e => by rw [if_pos e] at h; omega
    have ih := escL_same l (by omega)
    simp only [escL, escB]
    rw [if_neg (fun e => h0 (.inl e)), if_neg (fun e => h0 (.inr (.inl e))), if_neg (fun e => h0 (.inr (.inr e))), ih]
    rfl
theorem escL_append : ∀ (a b : List UInt8), escL (a ++ b) = escL a ++ escL b
  | [], b => rfl
  | x :: a, b => by simp [escL, escL_append a b]
theorem cnt3_append : ∀ (a b : List UInt8), cnt3 (a ++ b) = cnt3 a + cnt3 b
  | [], b => by simp [cnt3]
  | x :: a, b => by simp [cnt3, cnt3_append a b]; omega
theorem cnt3_counts : ∀ l : List UInt8, cnt3 l = l.count 10 + l.count 92 + l.count 34
  | [] => rfl
  | b :: l => by
    have ih := cnt3_counts l
    simp only [cnt3, List.count_cons, ih]
    by_cases h1 : b = 34
    · subst h1; simp; omega
    · by_cases h2 : b = 92
      · subst h2; simp; omega
      · by_cases h3 : b = 10
        · subst h3; simp; omega
        · simp [h1, h2, h3]
theorem cnt3_take_le (l : List UInt8) (i : Nat) : cnt3 (l.take i) ≤ cnt3 l := by
  have := cnt3_append (l.take i) (l.drop i)
  rw [List.take_append_drop] at this
  omega

def repSlice (g1 c1 g2 c2 g3 c3 : Nat) (x : UInt8) : Value :=
  if x = 34 then .slice (some ⟨g1, 0, none⟩) 2 c1 else if x = 92 then .slice (some ⟨g2, 0, none⟩) 2 c2 else if x = 10 then .slice (some ⟨g3, 0, none⟩) 2 c3 else .slice none 0 0
/-- The replacer of Quote, in block b. -/
structure RepAt (b g1 c1 g2 c2 g3 c3 g4 c4 : Nat) (w : World) : Prop where
  cell : ∀ x : UInt8, w.cell? ⟨b, x.toNat, none⟩ = some (repSlice g1 c1 g2 c2 g3 c3 x)
  l1 : 2 ≤ c1
  l2 : 2 ≤ c2
  l3 : 2 ≤ c3
  l4 : 3 ≤ c4
  last : w.cell? ⟨b, 256, none⟩ = some (.slice (some ⟨g4, 0, none⟩) 3 c4)
  q0 : w.cell? ⟨g1, 0, none⟩ = some (.int .u8 92)
  q1 : w.cell? ⟨g1, 1, none⟩ = some (.int .u8 34)
  s0 : w.cell? ⟨g2, 0, none⟩ = some (.int .u8 92)
  s1 : w.cell? ⟨g2, 1, none⟩ = some (.int .u8 92)
  n0 : w.cell? ⟨g3, 0, none⟩ = some (.int .u8 92)
  n1 : w.cell? ⟨g3, 1, none⟩ = some (.int .u8 110)
  t0 : w.cell? ⟨g4, 0, none⟩ = some (.string ⟨#[10]⟩)
  t1 : w.cell? ⟨g4, 1, none⟩ = some (.string ⟨#[92]⟩)
  t2 : w.cell? ⟨g4, 2, none⟩ = some (.string ⟨#[34]⟩)
theorem RepAt.below {b g1 c1 g2 c2 g3 c3 g4 c4 : Nat} {w w' : World} (h : RepAt b g1 c1 g2 c2 g3 c3 g4 c4 w) (hb : Below w.heap.size w w') : RepAt b g1 c1 g2 c2 g3 c3 g4 c4 w' :=
  ⟨fun x => pw_cell_below hb (h.cell x), h.l1, h.l2, h.l3, h.l4, pw_cell_below hb h.last, pw_cell_below hb h.q0, pw_cell_below hb h.q1, pw_cell_below hb h.s0, pw_cell_below hb h.s1, pw_cell_below hb h.n0, pw_cell_below hb h.n1, pw_cell_below hb h.t0, pw_cell_below hb h.t1, pw_cell_below hb h.t2⟩

theorem RepAt.odd_ {b g1 c1 g2 c2 g3 c3 g4 c4 : Nat} {w : World} (h : RepAt b g1 c1 g2 c2 g3 c3 g4 c4 w) (x : UInt8) (hx : x = 34 ∨ x = 92 ∨ x = 10) :
    ∃ (g c : Nat) (e : UInt8), w.cell? ⟨b, x.toNat, none⟩ = some (.slice (some ⟨g, 0, none⟩) 2 c) ∧ 2 ≤ c ∧ w.cell? ⟨g, 0, none⟩ = some (.int .u8 92) ∧ w.cell? ⟨g, 1, none⟩ = some (.int .u8 e.toNat) ∧ escB x = [92, e] := by
  have hc := h.cell x
  rcases hx with rfl | rfl | rfl
  · exact ⟨g1, c1, 34, hc, h.l1, h.q0, h.q1, rfl⟩
  · exact ⟨g2, c2, 92, hc, h.l2, h.s0, h.s1, rfl⟩
  · exact ⟨g3, c3, 110, hc, h.l3, h.n0, h.n1, rfl⟩
theorem RepAt.plain_ {b g1 c1 g2 c2 g3 c3 g4 c4 : Nat} {w : World} (h : RepAt b g1 c1 g2 c2 g3 c3 g4 c4 w) (x : UInt8) (hx : ¬ (x = 34 ∨ x = 92 ∨ x = 10)) :
    w.cell? ⟨b, x.toNat, none⟩ = some (.slice none 0 0) ∧ escB x = [x] := by
  have hc := h.cell x
  have h1 : ¬ x = 34 := fun e => hx (.inl e)
  have h2 : ¬ x = 92 := fun e => hx (.inr (.inl e))
  have h3 : ¬ x = 10 := fun e => hx (.inr (.inr e))
  simp only [repSlice, h1, h2, h3, if_false] at hc
  exact ⟨hc, by simp [escB, h1, h2, h3]⟩
theorem take_at (s : ByteArray) (k : Nat) (h : k < s.size) : s.data.toList.take (k + 1) = s.data.toList.take k ++ [s[k]'h] := by
  rw [List.take_succ_eq_append_getElem (by simpa using h)]; rfl
theorem cnt3_at (s : ByteArray) (k : Nat) (h : k < s.size) : cnt3 (s.data.toList.take (k + 1)) = cnt3 (s.data.toList.take k) + (if s[k]'h = 34 ∨ s[k]'h = 92 ∨ s[k]'h = 10 then 1 else 0) := by
  rw [take_at s k h, cnt3_append]; simp [cnt3]
theorem cnt3_all (s : ByteArray) : s.data.toList.take s.size = s.data.toList := List.take_of_length_le (by simp)
/-- The buffer: its block holds E bytes, of which the first are those written. -/
def BufAt (g E : Nat) (l : List UInt8) (w : World) : Prop := ∃ cur : List Value, w.heap[g]? = some (.cells cur.toArray 5 (0, 0)) ∧ cur.length = E ∧ (∀ v ∈ cur, v.oneCell' = true) ∧ cur.take l.length = Lib.byteCells l ∧ l.length ≤ E
theorem BufAt.set_ {g E : Nat} {l : List UInt8} {w : World} (h : BufAt g E l w) (hlt : l.length < E) (x : UInt8) : BufAt g E (l ++ [x]) (w.setCell ⟨g, l.length, none⟩ (.int .u8 x.toNat)) := by
  obtain ⟨cur, hb, hl, h1, ht, _⟩ := h
  refine ⟨cur.set l.length (.int .u8 x.toNat), ?_, by simpa using hl, fun v hv => ?_, ?_, by simp; omega⟩
  · simp [World.setCell, Array.getElem?_modify, hb]
  · rcases List.mem_or_eq_of_mem_set hv with hv | rfl
    · exact h1 v hv
    · rfl
  · rw [List.length_append, List.length_singleton, List.take_succ_eq_append_getElem (by simp; omega)]
    simp [Lib.byteCells] at ht ⊢
    rw [← ht, List.take_set_of_le (Nat.le_refl _)]
theorem BufAt.splice_ {g E : Nat} {l : List UInt8} {w w' : World} (h : BufAt g E l w) (m : List UInt8) (hlt : l.length + m.length ≤ E)
    (cur : List Value) (hc : w.heap[g]? = some (.cells cur.toArray 5 (0, 0))) (hw : w'.heap[g]? = some (.cells (splice cur l.length (Lib.byteCells m)).toArray 5 (0, 0))) : BufAt g E (l ++ m) w' := by
  obtain ⟨cur', hb, hl, h1, ht, _⟩ := h
  rw [hb] at hc
  injection hc with hc
  injection hc with hc
  have : cur' = cur := by simpa using hc
  subst this
  have hml : (Lib.byteCells m).length = m.length := by simp [Lib.byteCells]
  refine ⟨splice cur' l.length (Lib.byteCells m), hw, by rw [length_splice _ _ _ (by omega), hl], fun v hv => ?_, ?_, by simp; omega⟩
  · unfold splice at hv
    rcases List.mem_append.1 hv with hv | hv
    · exact h1 v (List.mem_of_mem_take hv)
    · rcases List.mem_append.1 hv with hv | hv
      · simp only [Lib.byteCells, List.mem_map] at hv
        obtain ⟨b, _, rfl⟩ := hv
        rfl
      · exact h1 v (List.mem_of_mem_drop hv)
  · unfold splice
    rw [List.length_append, ht]
    have e1 : (Lib.byteCells l).length = l.length := by simp [Lib.byteCells]
    rw [← List.append_assoc, List.take_left' (by rw [List.length_append, e1, hml])]
    simp [Lib.byteCells]
theorem BufAt.new_ (w : World) (E : Nat) : BufAt w.heap.size E [] (w.alloc (.cells (madeCells #[.int .u8 0] E) 5)) := by
  refine ⟨(madeCells #[.int .u8 0] E).toList, by show (w.heap.push _)[w.heap.size]? = _; simp, by simp [size_madeCells], fun v hv => ?_, by simp [Lib.byteCells], by simp⟩
  simp only [madeCells, Array.toList_map, List.mem_map] at hv
  obtain ⟨i, _, rfl⟩ := hv
  have : i % (#[Value.int .u8 0] : Array Value).size = 0 := by show i % 1 = 0; omega
  rw [this]
  rfl
theorem BufAt.cell_ {g E : Nat} {l : List UInt8} {w : World} (h : BufAt g E l w) (j : Nat) (hj : j < E) : (∃ v, w.cell? ⟨g, j, none⟩ = some v) ∧ w.frozen? ⟨g, j, none⟩ = false := by
  obtain ⟨cur, hb, hl, h1, ht, _⟩ := h
  refine ⟨⟨cur[j]'(by omega), ?_⟩, ?_⟩
  · simp [World.cell?, hb, hl, hj]
  · simp [World.frozen?, hb]
theorem add_plain' (g j : Nat) : (⟨g, 0, none⟩ : Addr).add j = ⟨g, j, none⟩ := by unfold Addr.add; split <;> simp_all
theorem BufAt.done_ {g E : Nat} {l : List UInt8} {w : World} (h : BufAt g E l w) (hE : E = l.length) : ∀ j (hj : j < l.length), w.cell? ((⟨g, 0, none⟩ : Addr).add j) = some (.int .u8 (l[j].toNat : Int)) := by
  intro j hj
  obtain ⟨cur, hb, hl, h1, ht, _⟩ := h
  rw [add_plain' g j]
  have : cur = Lib.byteCells l := by rw [← ht, List.take_of_length_le (by omega)]
  subst this
  simp [World.cell?, hb, Lib.byteCells, hj]
set_option maxHeartbeats 8000000 in
set_option maxRecDepth 100000 in
theorem Replace_short (s : ByteArray) (b g1 c1 g2 c2 g3 c3 g4 c4 : Nat) (w : World) (hs : s.size ≤ 1099511627776) (hR : RepAt b g1 c1 g2 c2 g3 c3 g4 c4 w) (h24 : s.size < 24) :
    Calls Tryz.prog 217 #[.pointer (some ⟨b, 0, none⟩), .string s] w fun e w' => e = .returned (.string ⟨(escL s.data.toList).toArray⟩) ∧ Below w.heap.size w w' := by
  have HR := Aside0.mk hR
  have hlast := hR.last
  clear hR
  go_enter Tryz.func217, Tryz.ntmps217
  go_wp2
  clear hlast
  go_loopw [5, 6, 10] (fun n any i wr => ∃ k : Nat, k ≤ s.size ∧ i = .int .i64 k ∧ n = .int .i64 (s.size + cnt3 (s.data.toList.take k) : Nat) ∧ any = .bool (decide (0 < cnt3 (s.data.toList.take k))) ∧ wr = w) (fun _ _ i _ => s.size - (intOf i).toNat)
  case atStart => exact ⟨0, by omega, by go_num, by simp [cnt3], by simp [cnt3], rfl⟩
  case round =>
    obtain ⟨k, hk, rfl, rfl, rfl, rfl⟩ := hrel
    have hn1 := fun (w : World) (A : Option Addr) (n c : Nat) => run_neq_slice_nil_any (P := Tryz.prog) w 98 5 A n c 0 0 Tryz.underlying98
    have hn0 : ∀ w : World, (binOp .neq 98 (.slice none 0 0) (.slice none 0 0)).run Tryz.prog w = .ok (.bool false) w := fun w => hn1 w none 0 0
    have hcl := cnt3_take_le s.data.toList k
    have hcl2 := escL_length s.data.toList
    have hcl3 := escL_len s.data.toList
    have hsl : s.data.toList.length = s.size := by simp
    by_cases hlt : k < s.size
    · obtain ⟨x, hx⟩ : ∃ x : UInt8, s[k]'hlt = x := ⟨_, rfl⟩
      have ht := cnt3_at s k hlt
      rw [hx] at ht
      have hxb : x.toNat < 256 := x.toNat_lt
      have hxb2 : (x.toNat : Int) < 256 := by omega
      by_cases h1 : x = 34 ∨ x = 92 ∨ x = 10
      · obtain ⟨g, c, e, hc0, hc1, _, _, _⟩ := HR.out.odd_ x h1
        rw [if_pos h1] at ht
        have HT := Aside0.mk ht
        clear ht h1
        generalize cnt3 (List.take k s.data.toList) = q at *
        go_wp2
        go_roundw
        case rel => exact ⟨k + 1, by omega, by go_num, by rw [HT.out]; go_num, by rw [HT.out]; simp, by first | rfl | trivial⟩
        case measure => simp [intOf]; omega
      · obtain ⟨hc0, _⟩ := HR.out.plain_ x h1
        rw [if_neg h1] at ht
        have HT := Aside0.mk ht
        clear ht h1
        generalize cnt3 (List.take k s.data.toList) = q at *
        go_wp2
        go_roundw
        case rel => exact ⟨k + 1, by omega, by go_num, by rw [HT.out]; go_num, by rw [HT.out]; simp, by first | rfl | trivial⟩
        case measure => simp [intOf]; omega
    · obtain rfl : k = s.size := by omega
      have hall := cnt3_all s
      rw [hall]
      obtain ⟨q, hq⟩ : ∃ q, cnt3 s.data.toList = q := ⟨_, rfl⟩
      rw [hq] at hcl2
      by_cases hq0 : q = 0
      · subst hq0
        have hz : decide (0 < cnt3 s.data.toList) = false := by simp [hq]
        have HE := Aside0.mk (escL_same s.data.toList hq)
        have HQ := Aside0.mk hq
        clear hq hall
        rw [hz]
        go_wp2
        go_ret
        exact ⟨by rw [HE.out, show (⟨s.data.toList.toArray⟩ : ByteArray) = s by cases s; simp]; rfl, Below.refl _ _⟩
      · have hz : decide (0 < cnt3 s.data.toList) = true := by simp [hq]; omega
        rw [hz, hq]
        have HQ := Aside0.mk hq
        clear hz hq hall
        have hmk := run_make_row' (P := Tryz.prog) 98 5 (.int .u8 0) 1 Tryz.underlying98 (by kernel_rfl) rfl .i64 .i64 (s.size + q) (by omega) (by omega)
        rw [Int.natCast_add] at hmk
        go_wp2
        clear hmk
        obtain ⟨W0, rfl⟩ : ∃ W, W = wr := ⟨_, rfl⟩
        have HB0 := Aside0.mk ((Below.refl W0.heap.size W0).alloc (Nat.le_refl _) (.cells (madeCells #[.int .u8 0] (s.size + q)) 5))
        have HBUF := Aside0.mk (BufAt.new_ W0 (s.size + q))
        go_loopw [13, 14] (fun j i wx => ∃ k : Nat, k ≤ s.size ∧ i = .int .i64 k ∧ j = .int .i64 (escL (s.data.toList.take k)).length ∧ Aside0 (BufAt W0.heap.size (s.size + q) (escL (s.data.toList.take k)) wx) ∧ Aside0 (Below W0.heap.size W0 wx)) (fun _ i _ => s.size - (intOf i).toNat)
        case atStart => exact ⟨0, by omega, by go_num, by go_num, HBUF, HB0⟩
        case round =>
          obtain ⟨k, hk, rfl, rfl, HBF, HBL⟩ := hrel
          have HRx := Aside0.mk (HR.out.below HBL.out)
          have hlen := HBF.out.choose_spec.2.2.2.2
          have hws : W0.heap.size < wr.heap.size := by
            obtain ⟨cur, hb, _⟩ := HBF.out
            exact (Array.getElem?_eq_some_iff.1 hb).1
          by_cases hlt : k < s.size
          · obtain ⟨x, hx⟩ : ∃ x : UInt8, s[k]'hlt = x := ⟨_, rfl⟩
            have htk := take_at s k hlt
            rw [hx] at htk
            have hxb : x.toNat < 256 := x.toNat_lt
            have hxb2 : (x.toNat : Int) < 256 := by omega
            have hes : escL (s.data.toList.take (k + 1)) = escL (s.data.toList.take k) ++ escB x := by rw [htk, escL_append]; simp [escL]
            have hfit : (escL (s.data.toList.take (k + 1))).length ≤ s.size + q := by
              have h1 := escL_append (s.data.toList.take (k + 1)) (s.data.toList.drop (k + 1))
              rw [List.take_append_drop] at h1
              have h2 := congrArg List.length h1
              rw [List.length_append, hcl2, hsl] at h2
              omega
            have hlj : (escL (s.data.toList.take k)).length + (escB x).length ≤ s.size + q := by rw [hes, List.length_append] at hfit; exact hfit
            have HES := Aside0.mk hes
            clear htk hes hfit
            obtain ⟨m, hm⟩ : ∃ m, (escL (s.data.toList.take k)).length = m := ⟨_, rfl⟩
            by_cases h1 : x = 34 ∨ x = 92 ∨ x = 10
            · obtain ⟨g, c, e, hc0, hc1, he1, he2, he0⟩ := HRx.out.odd_ x h1
              rw [he0] at hlj
              have hmlt : m + 2 ≤ s.size + q := by rw [← hm]; simpa using hlj
              have hm2 : (m : Int) ≤ (s.size : Int) + (q : Int) := by omega
              have hm3 : (0 : Int) ≤ (m : Int) := by omega
              have HE0 := Aside0.mk he0
              have HM := Aside0.mk hm
              rw [hm]
              clear he0 hlj h1 hlen hm
              go_wp2
              obtain ⟨cur, hcur, hcl, _, _, _⟩ := HBF.out
              have HCUR := Aside0.mk (show wr.drew.heap[W0.heap.size]? = _ from hcur)
              have HNN := Aside0.mk (show ([.int .u8 92, .int .u8 e.toNat] : List Value).length = Nat.min 2 (s.size + q - m) by show 2 = min 2 (s.size + q - m); omega)
              have HPOS := Aside0.mk (show 0 < ([.int .u8 92, .int .u8 e.toNat] : List Value).length → some (⟨W0.heap.size, m, none⟩ : Addr) = some ⟨W0.heap.size, m, none⟩ ∧ ∃ ad, some (⟨g, 0, none⟩ : Addr) = some ad ∧ ∀ (j : Nat) v, ([.int .u8 92, .int .u8 e.toNat] : List Value)[j]? = some v → wr.drew.cell? (ad.add j) = some v from fun _ => ⟨rfl, _, rfl, fun j v hj => by
                rw [add_plain' g j]
                match j, hj with
                | 0, hj => cases hj; exact he1
                | 1, hj => cases hj; exact he2⟩)
              have HFIT := Aside0.mk (show m + ([.int .u8 92, .int .u8 e.toNat] : List Value).length ≤ cur.length by rw [hcl]; exact hmlt)
              have HONE := Aside0.mk (show ∀ v ∈ ([.int .u8 92, .int .u8 e.toNat] : List Value), v.oneCell' = true from fun v hv => by
                simp at hv
                rcases hv with rfl | rfl <;> rfl)
              have HBD := Aside0.mk (show Below W0.heap.size W0 wr.drew from below_drew1 HBL.out)
              have hnm : ¬ (s.size + q = m) := by omega
              clear hcur
              go_region_law (refine step_copy_splice rfl (.tmp 105) (.tmp 111) 98 98 rfl 5 Tryz.underlying98 (by kernel_rfl) (some ⟨W0.heap.size, m, none⟩) (some ⟨g, 0, none⟩) (s.size + q - m) (s.size + q - m) 2 c (by simp [Act.eval, Act.put, hnm]) (by simp [Act.eval, Act.put]) W0.heap.size m cur 5 HCUR.out [.int .u8 92, .int .u8 e.toNat] HNN.out HPOS.out HFIT.out HONE.out W0.heap.size W0 HBD.out (Nat.le_refl _) ?_; intro w4 hg4 hb4)
              have HSPL := Aside0.mk (HBF.out.splice_ [92, e] (by rw [HM.out]; exact hmlt) cur HCUR.out (by rw [HM.out]; exact hg4.out))
              have HB4 := Aside0.mk hb4
              clear hg4 hb4
              go_wp2
              exact ⟨⟨k + 1, by omega, by omega, by rw [HES.out, HE0.out, List.length_append, HM.out]; simp, ⟨by rw [HES.out, HE0.out]; exact HSPL.out⟩⟩, by simp [intOf]; omega⟩
            · obtain ⟨hc0, he0⟩ := HRx.out.plain_ x h1
              rw [he0] at hlj
              obtain ⟨⟨v0, hv0⟩, hf0⟩ := HBF.out.cell_ m (by rw [← hm]; simp at hlj; omega)
              have hmlt : m < s.size + q := by rw [← hm]; simp at hlj; omega
              have hm2 : (m : Int) < (s.size : Int) + (q : Int) := by omega
              have HX := Aside0.mk (HBF.out.set_ (by rw [hm]; exact hmlt) x)
              have HE0 := Aside0.mk he0
              have HM := Aside0.mk hm
              rw [hm]
              clear he0 hlj h1 hlen hm
              go_wp2
              go_roundw
              case rel => exact ⟨k + 1, by omega, by go_num, by rw [HES.out, HE0.out, List.length_append, HM.out]; go_num, ⟨by rw [HES.out, HE0.out]; have z := HX.out; rw [HM.out] at z; exact z⟩, ⟨HBL.out.setCell (by simp) _⟩⟩
              case measure => simp [intOf]; omega
          · obtain rfl : k = s.size := by omega
            have HD := Aside0.mk HBF.out
            rw [cnt3_all s] at HD
            have hcv := run_convert_bytes_back (P := Tryz.prog) wr 98 9 5 ⟨W0.heap.size, 0, none⟩ (s.size + q) (escL s.data.toList) Tryz.underlying98 Tryz.underlying5 Tryz.underlying9 (HD.out.done_ (by rw [hcl2, hsl]))
            rw [hcl2, hsl] at hcv
            rw [Int.natCast_add] at *
            go_wp2
            go_ret
            exact ⟨rfl, HBL.out⟩
def csum (l : List UInt8) : Nat → Nat
  | 0 => 0
  | 1 => l.count 10
  | 2 => l.count 10 + l.count 92
  | _ => cnt3 l
theorem csum_at {b g1 c1 g2 c2 g3 c3 g4 c4 : Nat} {w : World} (h : RepAt b g1 c1 g2 c2 g3 c3 g4 c4 w) (l : List UInt8) (k : Nat) (hk : k < 3) :
    ∃ y : UInt8, w.cell? ⟨g4, k, none⟩ = some (.string ⟨#[y]⟩) ∧ (y = 34 ∨ y = 92 ∨ y = 10) ∧ csum l (k + 1) = csum l k + l.count y := by
  rcases (by omega : k = 0 ∨ k = 1 ∨ k = 2) with rfl | rfl | rfl
  · exact ⟨10, h.t0, by decide, by simp [csum]⟩
  · exact ⟨92, h.t1, by decide, by simp [csum]⟩
  · exact ⟨34, h.t2, by decide, by simp [csum, cnt3_counts]⟩
theorem csum_le (l : List UInt8) (k : Nat) : csum l k ≤ cnt3 l := by
  have := cnt3_counts l
  match k with
  | 0 => simp [csum]
  | 1 => simp [csum]; omega
  | 2 => simp [csum]; omega
  | _ + 3 => simp [csum]
set_option maxHeartbeats 8000000 in
set_option maxRecDepth 100000 in
theorem Replace_long (s : ByteArray) (b g1 c1 g2 c2 g3 c3 g4 c4 : Nat) (w : World) (hs : s.size ≤ 1099511627776) (hR : RepAt b g1 c1 g2 c2 g3 c3 g4 c4 w) (h24 : 24 ≤ s.size) :
    Calls Tryz.prog 217 #[.pointer (some ⟨b, 0, none⟩), .string s] w fun e w' => e = .returned (.string ⟨(escL s.data.toList).toArray⟩) ∧ Below w.heap.size w w' := by
  have HR := Aside0.mk hR
  have hlast := hR.last
  clear hR
  have h24b : decide ((24 : Int) ≤ (s.size : Int)) = true := decide_eq_true (by omega)
  go_enter Tryz.func217, Tryz.ntmps217
  go_wp2
  clear hlast
  go_loopw [5, 6, 32] (fun n any i wr => ∃ k : Nat, k ≤ 3 ∧ i = .int .i64 k ∧ n = .int .i64 (s.size + csum s.data.toList k : Nat) ∧ any = .bool (decide (0 < csum s.data.toList k)) ∧ Aside0 (RepAt b g1 c1 g2 c2 g3 c3 g4 c4 wr) ∧ Aside0 (Below w.heap.size w wr)) (fun _ _ i _ => 3 - (intOf i).toNat)
  case atStart => exact ⟨0, by omega, by go_num, by simp [csum], by simp [csum], HR, ⟨Below.refl _ _⟩⟩
  case round =>
    clear HR
    obtain ⟨k, hk, rfl, rfl, rfl, HR, HDB⟩ := hrel
    have HR1 := Aside0.mk HR
    have HDB1 := Aside0.mk HDB
    have hn1 := fun (w : World) (A : Option Addr) (n c : Nat) => run_neq_slice_nil_any (P := Tryz.prog) w 98 5 A n c 0 0 Tryz.underlying98
    have hn0 : ∀ w : World, (binOp .neq 98 (.slice none 0 0) (.slice none 0 0)).run Tryz.prog w = .ok (.bool false) w := fun w => hn1 w none 0 0
    have hcl := csum_le s.data.toList k
    have hcl2 := escL_length s.data.toList
    have hcl3 := escL_len s.data.toList
    have hsl : s.data.toList.length = s.size := by simp
    by_cases hlt : k < 3
    · obtain ⟨y, hy0, hy1, hy2⟩ := csum_at HR.out s.data.toList k hlt
      obtain ⟨g, c, e, hc0, hc1, _, _, _⟩ := HR.out.odd_ y hy1
      have hcnt : s.data.toList.count y ≤ s.data.toList.length := List.count_le_length
      have hxb : y.toNat < 256 := y.toNat_lt
      have hxb2 : (y.toNat : Int) < 256 := by omega
      have hi0 : (0 : Int) ≤ (k : Int) := by omega
      have HT := Aside0.mk hy2
      clear hy2 hy1
      generalize csum s.data.toList k = q at *
      generalize hct : List.count y s.data.toList = ct at *
      have hct' : Lib.countByte s.data.toList y = ct := hct
      have HCT := Aside0.mk hct'
      clear hct hct'
      by_cases hz : ct = 0
      · subst hz
        go_wp2_with (go_at_call 219; refine (Tryz.strings_Count_one _ y _).mono ?_; rintro e w1 ⟨rfl, hw⟩; rw [hw, HCT.out])
        go_roundw
        case rel => exact ⟨k + 1, by omega, by go_num, by rw [HT.out]; go_num, by rw [HT.out]; simp, by first | exact HR1.out | trivial, by first | exact HDB1.out | trivial⟩
        case measure => simp [intOf]; omega
      · have hz' : ((ct : Int) != 0) = true := by rw [bne_iff_ne]; omega
        go_wp2_with (go_at_call 219; refine (Tryz.strings_Count_one _ y _).mono ?_; rintro e w1 ⟨rfl, hw⟩; rw [hw, HCT.out])
        have hidx : ∀ h, ((⟨#[y]⟩ : ByteArray)[0]'h) = y := fun _ => rfl
        have hw2 : IntKind.i64.wrap ((ct : Int) * 1) = (ct : Int) := by rw [Int.mul_one]; exact IntWalk.i64_in _ (by omega)
        have hw3 : IntKind.i64.wrap ((s.size : Int) + (q : Int) + (ct : Int)) = (s.size : Int) + (q : Int) + (ct : Int) := IntWalk.i64_in _ (by omega)
        go_quiet (fail)
        clear hw2 hw3
        go_wp2
        go_roundw
        case rel => exact ⟨k + 1, by omega, by go_num, by rw [HT.out]; go_num, by rw [HT.out]; simp; omega, ⟨HR.out.below (pw_below_drewN (Below.refl _ _) _)⟩, ⟨pw_below_drewN HDB.out _⟩⟩
        case measure => simp [intOf]; omega
    · obtain rfl : k = 3 := by omega
      rw [show csum s.data.toList 3 = cnt3 s.data.toList from rfl]
      obtain ⟨q, hq⟩ : ∃ q, cnt3 s.data.toList = q := ⟨_, rfl⟩
      rw [hq] at hcl2
      by_cases hq0 : q = 0
      · subst hq0
        have hz : decide (0 < cnt3 s.data.toList) = false := by simp [hq]
        have HE := Aside0.mk (escL_same s.data.toList hq)
        have HQ := Aside0.mk hq
        clear hq
        rw [hz]
        go_wp2
        go_ret
        exact ⟨by rw [HE.out, show (⟨s.data.toList.toArray⟩ : ByteArray) = s by cases s; simp]; rfl, HDB.out⟩
      · have hz : decide (0 < cnt3 s.data.toList) = true := by simp [hq]; omega
        rw [hz, hq]
        have HQ := Aside0.mk hq
        clear hz hq
        have hmk := run_make_row' (P := Tryz.prog) 98 5 (.int .u8 0) 1 Tryz.underlying98 (by kernel_rfl) rfl .i64 .i64 (s.size + q) (by omega) (by omega)
        rw [Int.natCast_add] at hmk
        go_wp2
        clear hmk
        obtain ⟨W0, rfl⟩ : ∃ W, W = wr := ⟨_, rfl⟩
        have HB0 := Aside0.mk ((Below.refl W0.heap.size W0).alloc (Nat.le_refl _) (.cells (madeCells #[.int .u8 0] (s.size + q)) 5))
        have HBUF := Aside0.mk (BufAt.new_ W0 (s.size + q))
        go_loopw [13, 14] (fun j i wx => ∃ k : Nat, k ≤ s.size ∧ i = .int .i64 k ∧ j = .int .i64 (escL (s.data.toList.take k)).length ∧ Aside0 (BufAt W0.heap.size (s.size + q) (escL (s.data.toList.take k)) wx) ∧ Aside0 (Below W0.heap.size W0 wx)) (fun _ i _ => s.size - (intOf i).toNat)
        case atStart => exact ⟨0, by omega, by go_num, by go_num, HBUF, HB0⟩
        case round =>
          obtain ⟨k, hk, rfl, rfl, HBF, HBL⟩ := hrel
          have HRx := Aside0.mk (HR.out.below HBL.out)
          have hlen := HBF.out.choose_spec.2.2.2.2
          have hws : W0.heap.size < wr.heap.size := by
            obtain ⟨cur, hb, _⟩ := HBF.out
            exact (Array.getElem?_eq_some_iff.1 hb).1
          by_cases hlt : k < s.size
          · obtain ⟨x, hx⟩ : ∃ x : UInt8, s[k]'hlt = x := ⟨_, rfl⟩
            have htk := take_at s k hlt
            rw [hx] at htk
            have hxb : x.toNat < 256 := x.toNat_lt
            have hxb2 : (x.toNat : Int) < 256 := by omega
            have hes : escL (s.data.toList.take (k + 1)) = escL (s.data.toList.take k) ++ escB x := by rw [htk, escL_append]; simp [escL]
            have hfit : (escL (s.data.toList.take (k + 1))).length ≤ s.size + q := by
              have h1 := escL_append (s.data.toList.take (k + 1)) (s.data.toList.drop (k + 1))
              rw [List.take_append_drop] at h1
              have h2 := congrArg List.length h1
              rw [List.length_append, hcl2, hsl] at h2
              omega
            have hlj : (escL (s.data.toList.take k)).length + (escB x).length ≤ s.size + q := by rw [hes, List.length_append] at hfit; exact hfit
            have HES := Aside0.mk hes
            clear htk hes hfit
            obtain ⟨m, hm⟩ : ∃ m, (escL (s.data.toList.take k)).length = m := ⟨_, rfl⟩
            by_cases h1 : x = 34 ∨ x = 92 ∨ x = 10
            · obtain ⟨g, c, e, hc0, hc1, he1, he2, he0⟩ := HRx.out.odd_ x h1
              rw [he0] at hlj
              have hmlt : m + 2 ≤ s.size + q := by rw [← hm]; simpa using hlj
              have hm2 : (m : Int) ≤ (s.size : Int) + (q : Int) := by omega
              have hm3 : (0 : Int) ≤ (m : Int) := by omega
              have HE0 := Aside0.mk he0
              have HM := Aside0.mk hm
              rw [hm]
              clear he0 hlj h1 hlen hm
              go_wp2
              obtain ⟨cur, hcur, hcl, _, _, _⟩ := HBF.out
              have HCUR := Aside0.mk (show wr.drew.heap[W0.heap.size]? = _ from hcur)
              have HNN := Aside0.mk (show ([.int .u8 92, .int .u8 e.toNat] : List Value).length = Nat.min 2 (s.size + q - m) by show 2 = min 2 (s.size + q - m); omega)
              have HPOS := Aside0.mk (show 0 < ([.int .u8 92, .int .u8 e.toNat] : List Value).length → some (⟨W0.heap.size, m, none⟩ : Addr) = some ⟨W0.heap.size, m, none⟩ ∧ ∃ ad, some (⟨g, 0, none⟩ : Addr) = some ad ∧ ∀ (j : Nat) v, ([.int .u8 92, .int .u8 e.toNat] : List Value)[j]? = some v → wr.drew.cell? (ad.add j) = some v from fun _ => ⟨rfl, _, rfl, fun j v hj => by
                rw [add_plain' g j]
                match j, hj with
                | 0, hj => cases hj; exact he1
                | 1, hj => cases hj; exact he2⟩)
              have HFIT := Aside0.mk (show m + ([.int .u8 92, .int .u8 e.toNat] : List Value).length ≤ cur.length by rw [hcl]; exact hmlt)
              have HONE := Aside0.mk (show ∀ v ∈ ([.int .u8 92, .int .u8 e.toNat] : List Value), v.oneCell' = true from fun v hv => by
                simp at hv
                rcases hv with rfl | rfl <;> rfl)
              have HBD := Aside0.mk (show Below W0.heap.size W0 wr.drew from below_drew1 HBL.out)
              have hnm : ¬ (s.size + q = m) := by omega
              clear hcur
              go_region_law (refine step_copy_splice rfl (.tmp 105) (.tmp 111) 98 98 rfl 5 Tryz.underlying98 (by kernel_rfl) (some ⟨W0.heap.size, m, none⟩) (some ⟨g, 0, none⟩) (s.size + q - m) (s.size + q - m) 2 c (by simp [Act.eval, Act.put, hnm]) (by simp [Act.eval, Act.put]) W0.heap.size m cur 5 HCUR.out [.int .u8 92, .int .u8 e.toNat] HNN.out HPOS.out HFIT.out HONE.out W0.heap.size W0 HBD.out (Nat.le_refl _) ?_; intro w4 hg4 hb4)
              have HSPL := Aside0.mk (HBF.out.splice_ [92, e] (by rw [HM.out]; exact hmlt) cur HCUR.out (by rw [HM.out]; exact hg4.out))
              have HB4 := Aside0.mk hb4
              clear hg4 hb4
              go_wp2
              exact ⟨⟨k + 1, by omega, by omega, by rw [HES.out, HE0.out, List.length_append, HM.out]; simp, ⟨by rw [HES.out, HE0.out]; exact HSPL.out⟩⟩, by simp [intOf]; omega⟩
            · obtain ⟨hc0, he0⟩ := HRx.out.plain_ x h1
              rw [he0] at hlj
              obtain ⟨⟨v0, hv0⟩, hf0⟩ := HBF.out.cell_ m (by rw [← hm]; simp at hlj; omega)
              have hmlt : m < s.size + q := by rw [← hm]; simp at hlj; omega
              have hm2 : (m : Int) < (s.size : Int) + (q : Int) := by omega
              have HX := Aside0.mk (HBF.out.set_ (by rw [hm]; exact hmlt) x)
              have HE0 := Aside0.mk he0
              have HM := Aside0.mk hm
              rw [hm]
              clear he0 hlj h1 hlen hm
              go_wp2
              go_roundw
              case rel => exact ⟨k + 1, by omega, by go_num, by rw [HES.out, HE0.out, List.length_append, HM.out]; go_num, ⟨by rw [HES.out, HE0.out]; have z := HX.out; rw [HM.out] at z; exact z⟩, ⟨HBL.out.setCell (by simp) _⟩⟩
              case measure => simp [intOf]; omega
          · obtain rfl : k = s.size := by omega
            have HD := Aside0.mk HBF.out
            rw [cnt3_all s] at HD
            have hcv := run_convert_bytes_back (P := Tryz.prog) wr 98 9 5 ⟨W0.heap.size, 0, none⟩ (s.size + q) (escL s.data.toList) Tryz.underlying98 Tryz.underlying5 Tryz.underlying9 (HD.out.done_ (by rw [hcl2, hsl]))
            rw [hcl2, hsl] at hcv
            rw [Int.natCast_add] at *
            go_wp2
            go_ret
            exact ⟨rfl, HDB.out.trans (HBL.out.mono HDB.out.size)⟩

/-- The bytes that Quote's replacer replaces, in the order in which they are laid. -/
def oB : Nat → UInt8 | 0 => 10 | 1 => 92 | _ => 34
def eB : Nat → UInt8 | 0 => 110 | 1 => 92 | _ => 34
/-- The six texts: those of place k lie at 4 - 2k and 5 - 2k. -/
structure OldAt (ob : Nat) (w : World) : Prop where
  key : ∀ k j : Nat, j + 2 * k = 4 → w.cell? ⟨ob, j, none⟩ = some (.string ⟨#[oB k]⟩)
  val : ∀ k j : Nat, j + 2 * k = 4 → w.cell? ⟨ob, j + 1, none⟩ = some (.string ⟨#[92, eB k]⟩)
theorem OldAt.below {ob : Nat} {w w' : World} (h : OldAt ob w) (hb : Below w.heap.size w w') : OldAt ob w' := ⟨fun k j hj => pw_cell_below hb (h.key k j hj), fun k j hj => pw_cell_below hb (h.val k j hj)⟩

/-- The replacer at work: k of the three are laid. -/
def Stage (k B rb g4 : Nat) (w : World) : Prop :=
  B ≤ rb ∧ B ≤ g4 ∧ rb < w.heap.size ∧ g4 < w.heap.size ∧ g4 ≠ rb ∧ ∃ (cs ds : Array Value),
    w.heap[rb]? = some (.cells cs 180 (0, 0)) ∧ cs.size = 257 ∧ cs[256]? = some (.slice (some ⟨g4, 0, none⟩) k 3) ∧
    w.heap[g4]? = some (.cells ds 9 (0, 0)) ∧ ds.size = 3 ∧ (∀ j, j < k → ds[j]? = some (.string ⟨#[oB j]⟩)) ∧
    (∀ x : UInt8, (∀ j, j < k → x ≠ oB j) → cs[x.toNat]? = some (.slice none 0 0)) ∧
    (∀ j, j < k → ∃ g c, cs[(oB j).toNat]? = some (.slice (some ⟨g, 0, none⟩) 2 c) ∧ 2 ≤ c ∧ g ≠ rb ∧ g ≠ g4 ∧ B ≤ g ∧ w.cell? ⟨g, 0, none⟩ = some (.int .u8 92) ∧ w.cell? ⟨g, 1, none⟩ = some (.int .u8 (eB j).toNat))

theorem zero103 : Tryz.zeroCells180 = Array.replicate 257 (Value.slice none 0 0) := by kernel_rfl
theorem Stage.new_ (B : Nat) (w : World) (hB : B ≤ w.heap.size) :
    Stage 0 B (w.heap.size + 1) w.heap.size ((w.alloc (.cells #[.string ⟨#[]⟩, .string ⟨#[]⟩, .string ⟨#[]⟩] 9)).alloc (.cells (Tryz.zeroCells180.setIfInBounds 256 (.slice (some ⟨w.heap.size, 0, none⟩) 0 3)) 180)) := by
  refine ⟨by omega, by omega, by simp, by simp; omega, by omega, Tryz.zeroCells180.setIfInBounds 256 (.slice (some ⟨w.heap.size, 0, none⟩) 0 3), #[.string ⟨#[]⟩, .string ⟨#[]⟩, .string ⟨#[]⟩], ?_, by rw [zero103]; simp, by rw [zero103]; simp, ?_, rfl, fun j hj => by omega, fun x _ => ?_, fun j hj => by omega⟩
  · show ((w.heap.push _).push _)[w.heap.size + 1]? = _
    rw [Array.getElem?_push, if_pos (by simp)]
  · show ((w.heap.push _).push _)[w.heap.size]? = _
    simp [Array.getElem?_push]
  · have := x.toNat_lt
    rw [zero103, Array.getElem?_setIfInBounds_ne (by omega)]
    rw [Array.getElem?_replicate, if_pos (by omega)]
theorem store103 (w : World) (v : Value) (hv : v.oneCell' = true) (g : Obj) :
    (storeCells ⟨w.heap.size + 1, 0, none⟩ (Tryz.zeroCells180.toList.set 256 v) 0).run Tryz.prog ((w.alloc g).alloc (.cells Tryz.zeroCells180 180)) = .ok () ((w.alloc g).alloc (.cells (Tryz.zeroCells180.setIfInBounds 256 v) 180)) := by
  have := run_storeCells_new (P := Tryz.prog) (w.alloc g) 180 Tryz.zeroCells180 (Tryz.zeroCells180.setIfInBounds 256 v) (by rw [Array.size_setIfInBounds]; kernel_rfl) (by rw [Array.size_setIfInBounds]) (by
    rw [← Array.all_toList, List.all_eq_true]
    intro u hu
    rw [zero103] at hu
    have hu' : u ∈ (List.replicate 257 (Value.slice none 0 0)).set 256 v := by rw [Array.toList_setIfInBounds, Array.toList_replicate] at hu; exact hu
    rcases List.mem_or_eq_of_mem_set hu' with h | rfl
    · rw [List.eq_of_mem_replicate h]; rfl
    · exact hv)
  simpa using this
theorem oB_ne : ∀ k i : Nat, k < 3 → i < k → oB k ≠ oB i := fun k i hk hi => by
  rcases (by omega : (k = 1 ∧ i = 0) ∨ (k = 2 ∧ i = 0) ∨ (k = 2 ∧ i = 1)) with ⟨rfl, rfl⟩ | ⟨rfl, rfl⟩ | ⟨rfl, rfl⟩ <;> decide
theorem heap_set (w : World) (b j : Nat) (v : Value) (cs : Array Value) (T : TypeId) (h : w.heap[b]? = some (.cells cs T (0, 0))) : (w.setCell ⟨b, j, none⟩ v).heap[b]? = some (.cells (cs.setIfInBounds j v) T (0, 0)) := by
  simp [World.setCell, Array.getElem?_modify, h]
theorem heap_set_ne (w : World) (b j c : Nat) (v : Value) (h : c ≠ b) : (w.setCell ⟨b, j, none⟩ v).heap[c]? = w.heap[c]? := Below.heap_setCell w ⟨b, j, none⟩ v c h
theorem setCell_size (w : World) (p : Addr) (v : Value) : (w.setCell p v).heap.size = w.heap.size := by simp [World.setCell]
theorem Stage.step_ {k B rb g4 : Nat} {w w4 : World} (hS : Stage k B rb g4 w) (hk : k < 3) (A C : Obj) (xs : List Value) (hxs : xs = (List.range k).map fun i => Value.string ⟨#[oB i]⟩)
    (hown : w4.ownsRow B 9 1 (.slice (some ⟨g4, 0, none⟩) (k + 1) 3) (k + 1) (xs ++ [.string ⟨#[oB k]⟩])) (hg : ((w.alloc A).alloc C).grownBy w4 (some g4)) (cap : Nat) (hcap : 2 ≤ cap) :
    Stage (k + 1) B rb g4 ((Lib.bytesWorld (w4.setCell ⟨rb, 256, none⟩ (.slice (some ⟨g4, 0, none⟩) (k + 1) 3)) 5 ⟨#[92, eB k]⟩).setCell ⟨rb, (oB k).toNat, none⟩ (.slice (some ⟨w4.heap.size, 0, none⟩) 2 cap)) := by
  obtain ⟨hb1, hb2, hlt1, hlt2, hne, cs, ds, hcs, hsz, h256, hds, hdsz, hdk, hnil, hdone⟩ := hS
  have hsize : w.heap.size + 2 ≤ w4.heap.size := by have := hg.size; simp at this; omega
  have hold : ∀ i, i < w.heap.size → i ≠ g4 → w4.heap[i]? = w.heap[i]? := fun i hi hn => by
    rw [hg.block i (by simp; omega) (fun e => hn (by cases e; rfl))]
    show ((w.heap.push A).push C)[i]? = _
    rw [Array.getElem?_push, if_neg (by simp; omega), Array.getElem?_push, if_neg (by omega)]
  have hrb : w4.heap[rb]? = some (.cells cs 180 (0, 0)) := by rw [hold rb hlt1 (Ne.symm hne)]; exact hcs
  obtain ⟨hxl, hx⟩ := hown
  rcases hx with ⟨e, _⟩ | ⟨g, cap4, cur, e, _, hg4, _, _, hcsz, htk⟩
  · cases e
  injection e with e1 e2 e3
  injection e1 with e1
  injection e1 with e1
  subst e1
  subst e3
  have hbs := Lib.bytesWorld_size (w4.setCell ⟨rb, 256, none⟩ (.slice (some ⟨g4, 0, none⟩) (k + 1) 3)) 5 ⟨#[92, eB k]⟩
  rw [setCell_size] at hbs
  have hbo : ∀ j, j < w4.heap.size → (Lib.bytesWorld (w4.setCell ⟨rb, 256, none⟩ (.slice (some ⟨g4, 0, none⟩) (k + 1) 3)) 5 ⟨#[92, eB k]⟩).heap[j]? = (w4.setCell ⟨rb, 256, none⟩ (.slice (some ⟨g4, 0, none⟩) (k + 1) 3)).heap[j]? := fun j hj => Lib.bytesWorld_at_old _ _ _ _ (by rw [setCell_size]; exact hj)
  have hok : (oB k).toNat < 256 := (oB k).toNat_lt
  refine ⟨hb1, hb2, by rw [setCell_size, hbs]; omega, by rw [setCell_size, hbs]; omega, hne, (cs.setIfInBounds 256 (.slice (some ⟨g4, 0, none⟩) (k + 1) 3)).setIfInBounds (oB k).toNat (.slice (some ⟨w4.heap.size, 0, none⟩) 2 cap), cur, ?_, by simp [hsz], ?_, ?_, by simpa using hcsz, ?_, ?_, ?_⟩
  · refine heap_set _ _ _ _ _ _ ?_
    rw [hbo rb (by omega)]
    exact heap_set _ _ _ _ _ _ hrb
  · rw [Array.getElem?_setIfInBounds_ne (by omega), Array.getElem?_setIfInBounds_self, if_pos (by omega)]
  · rw [heap_set_ne _ _ _ _ _ hne, hbo g4 (by omega), heap_set_ne _ _ _ _ _ hne]
    exact hg4
  · intro j hj
    have hlen : xs.length = k := by rw [hxs]; simp
    have h1 : (cur.toList.take ((k + 1) * 1))[j]? = some (.string ⟨#[oB j]⟩) := by
      rw [htk]
      by_cases hjk : j < k
      · rw [List.getElem?_append_left (by omega), hxs]
        simp [hjk]
      · obtain rfl : j = k := by omega
        rw [List.getElem?_append_right (by omega), hlen]
        simp
    rw [List.getElem?_take, if_pos (by omega)] at h1
    simpa using h1
  · intro x hx
    have hxk : x ≠ oB k := hx k (by omega)
    have hxn : x.toNat < 256 := x.toNat_lt
    have hne2 : (oB k).toNat ≠ x.toNat := fun e => hxk (UInt8.toNat_inj.1 e.symm)
    rw [Array.getElem?_setIfInBounds_ne hne2, Array.getElem?_setIfInBounds_ne (by omega)]
    exact hnil x (fun j hj => hx j (by omega))
  · intro j hj
    by_cases hjk : j < k
    · obtain ⟨g, c, hc, hc2, hgr, hg4', hBg, h0, h1⟩ := hdone j hjk
      have hjne : (oB k).toNat ≠ (oB j).toNat := fun e => oB_ne k j hk hjk (UInt8.toNat_inj.1 e)
      have hjn : (oB j).toNat < 256 := (oB j).toNat_lt
      have hgl : g < w.heap.size := World.block_lt_of_cell? w _ h0
      have hcell : ∀ i, ((Lib.bytesWorld (w4.setCell ⟨rb, 256, none⟩ (.slice (some ⟨g4, 0, none⟩) (k + 1) 3)) 5 ⟨#[92, eB k]⟩).setCell ⟨rb, (oB k).toNat, none⟩ (.slice (some ⟨w4.heap.size, 0, none⟩) 2 cap)).cell? ⟨g, i, none⟩ = w.cell? ⟨g, i, none⟩ := fun i => by
        unfold World.cell?
        simp only
        rw [heap_set_ne _ _ _ _ _ hgr, hbo g (by omega), heap_set_ne _ _ _ _ _ hgr, hold g hgl hg4']
      refine ⟨g, c, ?_, hc2, hgr, hg4', hBg, by rw [hcell]; exact h0, by rw [hcell]; exact h1⟩
      rw [Array.getElem?_setIfInBounds_ne hjne, Array.getElem?_setIfInBounds_ne (by omega)]
      exact hc
    · obtain rfl : j = k := by omega
      have hgr : w4.heap.size ≠ rb := by omega
      have hcell : ∀ i, i < 2 → ((Lib.bytesWorld (w4.setCell ⟨rb, 256, none⟩ (.slice (some ⟨g4, 0, none⟩) (j + 1) 3)) 5 ⟨#[92, eB j]⟩).setCell ⟨rb, (oB j).toNat, none⟩ (.slice (some ⟨w4.heap.size, 0, none⟩) 2 cap)).cell? ⟨w4.heap.size, i, none⟩ = some (.int .u8 (([92, eB j] : List UInt8).getD i 0).toNat) := fun i hi => by
        have h1 := Lib.bytesWorld_cell (w4.setCell ⟨rb, 256, none⟩ (.slice (some ⟨g4, 0, none⟩) (j + 1) 3)) 5 ⟨#[92, eB j]⟩ i hi
        rw [setCell_size] at h1
        unfold World.cell? at h1 ⊢
        simp only at h1 ⊢
        rw [heap_set_ne _ _ _ _ _ hgr]
        exact h1
      refine ⟨w4.heap.size, cap, ?_, hcap, hgr, by omega, by omega, hcell 0 (by omega), hcell 1 (by omega)⟩
      rw [Array.getElem?_setIfInBounds_self, if_pos (by simp [hsz]; omega)]
theorem stage_facts {k B rb g4 : Nat} {w w4 : World} (hS : Stage k B rb g4 w) (hk : k < 3) (A C : Obj) (hg : ((w.alloc A).alloc C).grownBy w4 (some g4)) :
    w4.cell? ⟨rb, 256, none⟩ = some (.slice (some ⟨g4, 0, none⟩) k 3) ∧ (∀ i, w4.frozen? ⟨rb, i, none⟩ = false) ∧
      (∀ v s, (Lib.bytesWorld (w4.setCell ⟨rb, 256, none⟩ v) 5 s).cell? ⟨rb, (oB k).toNat, none⟩ = some (.slice none 0 0)) ∧
      (∀ v s, (Lib.bytesWorld (w4.setCell ⟨rb, 256, none⟩ v) 5 s).frozen? ⟨rb, (oB k).toNat, none⟩ = false) := by
  obtain ⟨hb1, hb2, hlt1, hlt2, hne, cs, ds, hcs, hsz, h256, hds, hdsz, hdk, hnil, hdone⟩ := hS
  have hsize : w.heap.size + 2 ≤ w4.heap.size := by have := hg.size; simp at this; omega
  have hrb : w4.heap[rb]? = some (.cells cs 180 (0, 0)) := by
    rw [hg.block rb (by simp; omega) (fun e => hne (by cases e; rfl))]
    show ((w.heap.push A).push C)[rb]? = _
    rw [Array.getElem?_push, if_neg (by simp; omega), Array.getElem?_push, if_neg (by omega)]
    exact hcs
  have hok : (oB k).toNat < 256 := (oB k).toNat_lt
  have hbw : ∀ v s, (Lib.bytesWorld (w4.setCell ⟨rb, 256, none⟩ v) 5 s).heap[rb]? = some (.cells (cs.setIfInBounds 256 v) 180 (0, 0)) := fun v s => by
    rw [Lib.bytesWorld_at_old _ _ _ _ (by rw [setCell_size]; omega)]
    exact heap_set _ _ _ _ _ _ hrb
  refine ⟨by simpa [World.cell?, hrb] using h256, fun i => by simp [World.frozen?, hrb], fun v s => ?_, fun v s => by simp [World.frozen?, hbw]⟩
  simp only [World.cell?, hbw]
  simp only [Option.isSome_none, Bool.false_eq_true, if_false]
  rw [Array.getElem?_setIfInBounds_ne (by omega)]
  exact hnil (oB k) (fun j hj => oB_ne k j hk hj)
theorem below_step {B rb x : Nat} {w0 w4 : World} (h : Below B w0 w4) (hB : B ≤ rb) (hs : B ≤ w4.heap.size) (v v2 : Value) (s : ByteArray) : Below B w0 ((Lib.bytesWorld (w4.setCell ⟨rb, 256, none⟩ v) 5 s).setCell ⟨rb, x, none⟩ v2) := by
  have h1 : Below B w0 (w4.setCell ⟨rb, 256, none⟩ v) := h.setCell hB _
  have h2 : Below B (w4.setCell ⟨rb, 256, none⟩ v) (Lib.bytesWorld (w4.setCell ⟨rb, 256, none⟩ v) 5 s) :=
    ⟨rfl, rfl, rfl, by rw [Lib.bytesWorld_size]; omega, fun i hi => Lib.bytesWorld_at_old _ _ _ i (by rw [setCell_size]; omega)⟩
  exact (h1.trans h2).setCell hB _
theorem Stage.done_ {B rb g4 : Nat} {w : World} (h : Stage 3 B rb g4 w) : ∃ g1 d1 g2 d2 g3 d3 d4 : Nat, RepAt rb g1 d1 g2 d2 g3 d3 g4 d4 w ∧ B ≤ rb ∧ B ≤ g1 ∧ B ≤ g2 ∧ B ≤ g3 ∧ B ≤ g4 := by
  obtain ⟨hb1, hb2, hlt1, hlt2, hne, cs, ds, hcs, hsz, h256, hds, hdsz, hdk, hnil, hdone⟩ := h
  obtain ⟨g3, d3, hc3, hd3, _, _, i3, a0, a1⟩ := hdone 0 (by omega)
  obtain ⟨g2, d2, hc2, hd2, _, _, i2, b0, b1⟩ := hdone 1 (by omega)
  obtain ⟨g1, d1, hc1, hd1', _, _, i1, e0, e1⟩ := hdone 2 (by omega)
  have hcell : ∀ i, w.cell? ⟨rb, i, none⟩ = cs[i]? := fun i => by simp [World.cell?, hcs]
  have hcelld : ∀ i, w.cell? ⟨g4, i, none⟩ = ds[i]? := fun i => by simp [World.cell?, hds]
  refine ⟨g1, d1, g2, d2, g3, d3, 3, ⟨fun x => ?_, hd1', hd2, hd3, by omega, by rw [hcell]; exact h256, e0, e1, b0, b1, a0, a1, by rw [hcelld]; exact hdk 0 (by omega), by rw [hcelld]; exact hdk 1 (by omega), by rw [hcelld]; exact hdk 2 (by omega)⟩, hb1, i1, i2, i3, hb2⟩
  rw [hcell]
  unfold repSlice
  by_cases h1 : x = 34
  · subst h1; exact hc1
  by_cases h2 : x = 92
  · subst h2; exact hc2
  by_cases h3 : x = 10
  · subst h3; exact hc3
  rw [if_neg h1, if_neg h2, if_neg h3]
  refine hnil x (fun j hj => ?_)
  rcases (by omega : j = 0 ∨ j = 1 ∨ j = 2) with rfl | rfl | rfl
  · exact h3
  · exact h2
  · exact h1
set_option maxHeartbeats 8000000 in
set_option maxRecDepth 100000 in
theorem build_walk (rp ob c : Nat) (w : World) (hO : OldAt ob w) (h4 : w.cell? ⟨rp, 4, none⟩ = some (.slice (some ⟨ob, 0, none⟩) 6 c)) (hc6 : 6 ≤ c) :
    Calls Tryz.prog 109 #[.pointer (some ⟨rp, 0, none⟩)] w fun e w' => ∃ b g1 d1 g2 d2 g3 d3 g4 d4 : Nat, e = .returned (.iface 181 (.pointer (some ⟨b, 0, none⟩))) ∧ (RepAt b g1 d1 g2 d2 g3 d3 g4 d4 w' ∧ w.heap.size ≤ b ∧ w.heap.size ≤ g1 ∧ w.heap.size ≤ g2 ∧ w.heap.size ≤ g3 ∧ w.heap.size ≤ g4) ∧ Below w.heap.size w w' := by
  have HO := Aside0.mk hO
  clear hO
  go_enter Tryz.func109, Tryz.ntmps109
  go_wp2
  clear h4
  go_loopw [4, 5] (fun fl i wr => ∃ q : Nat, q ≤ 3 ∧ i = .int .i64 (2 * q : Nat) ∧ fl = .bool (decide (q = 0)) ∧ wr = w) (fun _ i _ => 6 - (intOf i).toNat)
  case atStart => exact ⟨0, by omega, rfl, rfl, rfl⟩
  case round =>
    obtain ⟨q, hq, rfl, rfl, rfl⟩ := hrel
    by_cases hlt : q < 3
    · obtain ⟨p, hp⟩ : ∃ p : Nat, 2 * q = p := ⟨_, rfl⟩
      have h1 := HO.out.key (2 - q) p (by omega)
      have h2 := HO.out.val (2 - q) p (by omega)
      have hs1 : (⟨#[oB (2 - q)]⟩ : ByteArray).size = 1 := rfl
      have hs2 : (⟨#[92, eB (2 - q)]⟩ : ByteArray).size = 2 := rfl
      have hp6 : p + 1 < 6 := by omega
      rw [hp]
      have HP := Aside0.mk hp
      clear hp
      go_wp2
      go_roundw
      case rel => exact ⟨q + 1, by omega, by have := HP.out; go_num, by simp, by first | rfl | trivial⟩
      case measure => simp [intOf]; omega
    · obtain rfl : q = 3 := by omega
      rw [show (decide ((3 : Nat) = 0)) = false from rfl, show ((2 * 3 : Nat) : Int) = 6 from rfl]
      have hmk : ∀ w : World, (Instr.makeSlice 22 (.int .i64 0) (.int .i64 3)).run Tryz.prog w = .ok (.slice (some ⟨w.heap.size, 0, none⟩) 0 3) (w.alloc (.cells #[.string ⟨#[]⟩, .string ⟨#[]⟩, .string ⟨#[]⟩] 9)) := fun _ => by kernel_rfl
      have hst := store103 wr (.slice (some ⟨wr.heap.size, 0, none⟩) 0 3) rfl (.cells #[.string ⟨#[]⟩, .string ⟨#[]⟩, .string ⟨#[]⟩] 9)
      have HS0 := Aside0.mk (Stage.new_ wr.heap.size wr (Nat.le_refl _))
      have HB0 := Aside0.mk (((Below.refl wr.heap.size wr).alloc (Nat.le_refl _) (.cells #[.string ⟨#[]⟩, .string ⟨#[]⟩, .string ⟨#[]⟩] 9)).alloc (by simp) (.cells (Tryz.zeroCells180.setIfInBounds 256 (.slice (some ⟨wr.heap.size, 0, none⟩) 0 3)) 180))
      go_wp2
      clear hmk hst
      obtain ⟨W0, rfl⟩ : ∃ W, W = wr := ⟨_, rfl⟩
      go_loopw [12] (fun i wr => ∃ k : Nat, k ≤ 3 ∧ i = .int .i64 (4 - 2 * (k : Int)) ∧ Aside0 (Stage k W0.heap.size (W0.heap.size + 1) W0.heap.size wr) ∧ Aside0 (Below W0.heap.size W0 wr)) (fun i _ => (intOf i + 2).toNat)
      case atStart => exact ⟨0, by omega, by go_num, HS0, HB0⟩
      case round =>
        obtain ⟨k, hk, rfl, HS, HB⟩ := hrel
        by_cases hlt : k < 3
        · obtain ⟨hb1, hb2, hlt1, hlt2, hne, cs, ds, hcs, hsz, h256, hds, hdsz, hdk, hnil, hdone⟩ := HS.out
          obtain ⟨j, hj⟩ : ∃ j, j + 2 * k = 4 := ⟨4 - 2 * k, by omega⟩
          have HOx := HO.out.below HB.out
          have hkey := HOx.key k j hj
          have hval := HOx.val k j hj
          have hBs : W0.heap.size ≤ wr.heap.size := HB.out.size
          have hdist : ∀ i, i < k → oB k ≠ oB i := fun i hi => by
            rcases (by omega : (k = 1 ∧ i = 0) ∨ (k = 2 ∧ i = 0) ∨ (k = 2 ∧ i = 1)) with ⟨rfl, rfl⟩ | ⟨rfl, rfl⟩ | ⟨rfl, rfl⟩ <;> decide
          have hc0 : wr.cell? ⟨W0.heap.size + 1, (oB k).toNat, none⟩ = some (.slice none 0 0) := by simpa [World.cell?, hcs] using hnil (oB k) hdist
          have hc1 : wr.cell? ⟨W0.heap.size + 1, 256, none⟩ = some (.slice (some ⟨W0.heap.size, 0, none⟩) k 3) := by simpa [World.cell?, hcs] using h256
          have hf : ∀ i, wr.frozen? ⟨W0.heap.size + 1, i, none⟩ = false := fun i => by simp [World.frozen?, hcs]
          have hown : wr.ownsRow W0.heap.size 9 1 (.slice (some ⟨W0.heap.size, 0, none⟩) k 3) k ((List.range k).map fun i => Value.string ⟨#[oB i]⟩) := by
            refine ⟨by simp, .inr ⟨W0.heap.size, 3, ds, rfl, Nat.le_refl _, hds, by omega, by decide, by omega, ?_⟩⟩
            apply List.ext_getElem?
            intro i
            by_cases hi : i < k
            · have h1 := hdk i hi
              rw [List.getElem?_take_of_lt (by omega), Array.getElem?_toList, h1]
              simp [hi]
            · rw [List.getElem?_eq_none (by rw [List.length_take]; omega), List.getElem?_eq_none (by simp; omega)]
          have HST := Aside0.mk HS.out
          have HOWN := Aside0.mk hown
          have HJ := Aside0.mk hj
          have e1 : (4 : Int) - 2 * (k : Int) = (j : Int) := by omega
          rw [e1]
          have hj6 : j + 1 < 6 := by omega
          have hn1 := fun (w : World) (A : Option Addr) (n c : Nat) => Lib.run_eql_slice_nil (P := Tryz.prog) w 98 5 A n c 0 0 Tryz.underlying98
          have hn0 : ∀ w : World, (binOp .eql 98 (.slice none 0 0) (.slice none 0 0)).run Tryz.prog w = .ok (.bool true) w := fun w => hn1 w none 0 0
          have hkb := fun (W : World) => Lib.run_convert_string_bytes (P := Tryz.prog) W 9 98 5 ⟨#[92, eB k]⟩ Tryz.underlying9 Tryz.underlying98 Tryz.underlying5
          have hs1 : (⟨#[oB k]⟩ : ByteArray).size = 1 := rfl
          have hs2 : (⟨#[92, eB k]⟩ : ByteArray).size = 2 := rfl
          have hix : ∀ h, ((⟨#[oB k]⟩ : ByteArray)[0]'h) = oB k := fun _ => rfl
          have hob : (oB k).toNat < 256 := (oB k).toNat_lt
          have hob2 : ((oB k).toNat : Int) < 256 := by omega
          have hcv : (convert 98 9 (.slice (some ⟨wr.heap.size, 0, none⟩) 1 1)).run Tryz.prog (wr.alloc (.cells #[.int .u8 (oB k).toNat] 5)) = .ok (.string ⟨#[oB k]⟩) (wr.alloc (.cells #[.int .u8 (oB k).toNat] 5)) :=
            run_convert_bytes_back (P := Tryz.prog) _ 98 9 5 ⟨wr.heap.size, 0, none⟩ 1 [oB k] Tryz.underlying98 Tryz.underlying5 Tryz.underlying9 (fun i hi => by
              have : i = 0 := by simp at hi; omega
              subst this
              simp [Addr.add])
          obtain ⟨i9, hi9, hz9⟩ : ∃ i, Tryz.prog.info? 9 = some i ∧ i.size = 1 := by
            have h : (Tryz.prog.info? 9).map (fun i => i.size) = some 1 := by kernel_rfl
            obtain ⟨i, h1, h2⟩ := Option.map_eq_some_iff.1 h
            exact ⟨i, h1, h2⟩
          have HI9 := Aside0.mk hi9
          have HZ9 := Aside0.mk hz9
          have HW3 := Aside0.mk ((hown.alloc (.cells #[.int .u8 (oB k).toNat] 5)).alloc (.cells #[.string ⟨#[oB k]⟩] 9))
          clear hnil hdone hdk hdist hown hj hcs hds h256 e1 hi9 hz9
          go_wp2_with (at_builtin; refine wpList_append_fits _ rfl (.tmp 119) (.tmp 123) 22 rfl W0.heap.size 9 i9 1 Tryz.underlying22 HI9.out HZ9.out W0.heap.size k 3 _ rfl HW3.out ⟨wr.heap.size + 1, 0, none⟩ 1 1 [.string ⟨#[oB k]⟩] rfl rfl ?c1 ?c2 (by omega) ?_; (case c1 => intro i u hu; match i, hu with | 0, hu => (cases hu; simp [Addr.add])); (case c2 => intro u hu; simp at hu; subst hu; rfl); intro w4 hown4 hgrow; obtain ⟨hcA, hfA, hcB, hfB⟩ := stage_facts HST.out hlt _ _ hgrow; have HG4 := Aside0.mk hgrow; have HO4 := Aside0.mk hown4; clear hown4 hgrow)
          have hcap := grownCap_ge (w4.setCell ⟨W0.heap.size + 1, 256, none⟩ (.slice (some ⟨W0.heap.size, 0, none⟩) (k + 1) 3)) 2 0 5
          have HS4 := Aside0.mk (Stage.step_ HST.out hlt _ _ _ rfl HO4.out HG4.out _ hcap)
          have HB4 := Aside0.mk (show Below W0.heap.size W0 _ from Below.grown ((HB.out.alloc hBs (.cells #[.int .u8 (oB k).toNat] 5)).alloc (by simp; omega) (.cells #[.string ⟨#[oB k]⟩] 9)) HG4.out (by simp; omega) (fun g hg => by cases hg; exact Nat.le_refl _))
          have HF := Aside0.mk (below_step (rb := W0.heap.size + 1) (x := (oB k).toNat) HB4.out (by omega) HB4.out.size (.slice (some ⟨W0.heap.size, 0, none⟩) (k + 1) 3) (.slice (some ⟨w4.heap.size, 0, none⟩) 2 (grownCap (w4.setCell ⟨W0.heap.size + 1, 256, none⟩ (.slice (some ⟨W0.heap.size, 0, none⟩) (k + 1) 3)) 2 0 5)) ⟨#[92, eB k]⟩)
          go_roundw
          case rel => exact ⟨k + 1, by omega, by have := HJ.out; go_num, HS4, HF⟩
          case measure => simp [intOf]; omega
        · obtain rfl : k = 3 := by omega
          obtain ⟨g1, d1, g2, d2, g3, d3, d4, hrep⟩ := HS.out.done_
          have HRP := Aside0.mk hrep
          clear hrep
          rw [show (4 : Int) - 2 * ((3 : Nat) : Int) = -2 from rfl]
          go_wp2
          go_ret
          exact ⟨_, _, _, _, _, _, _, _, _, rfl, HRP.out, HB.out⟩

theorem o_disable (w : World) : (callFunc 125 #[]).run Tryz.prog w = .ok (.value (.tuple #[])) w := run_call_mark0 Tryz.func125 (by kernel_rfl) (by kernel_rfl) (by kernel_rfl) .disable (by kernel_rfl) w
theorem o_enable (w : World) : (callFunc 127 #[]).run Tryz.prog w = .ok (.value (.tuple #[])) w := run_call_mark0 Tryz.func127 (by kernel_rfl) (by kernel_rfl) (by kernel_rfl) .enable (by kernel_rfl) w
theorem o_acquire (a : Addr) (w : World) : (callFunc 128 #[.pointer (some a)]).run Tryz.prog w = .ok (.value (.tuple #[])) w := run_call_marked Tryz.func128 (by kernel_rfl) (by kernel_rfl) (by kernel_rfl) .acquire (by kernel_rfl) a w
theorem o_merge (a : Addr) (w : World) : (callFunc 130 #[.pointer (some a)]).run Tryz.prog w = .ok (.value (.tuple #[])) w := run_call_marked Tryz.func130 (by kernel_rfl) (by kernel_rfl) (by kernel_rfl) .releaseMerge (by kernel_rfl) a w

set_option maxRecDepth 100000 in
set_option maxHeartbeats 1600000 in
theorem o_store (a : Addr) (x : Value) (u : FrameMode) (w : World) (hc : w.cell? a = some x) (hz : w.frozen? a = false) :
    CallsD Tryz.prog 116 #[.pointer (some a), .bool true] u w fun e u' w' => u' = u ∧ (e = .returned (.tuple #[]) ∧ w' = w.drew.setCell a (.int .u32 1)) := by
  have hc' : w.drew.cell? a = some x := by go_simp
  have hz' : w.drew.frozen? a = false := by go_simp
  have hst := run_call_store (P := Tryz.prog) Tryz.func121 (by kernel_rfl) (by kernel_rfl) (by kernel_rfl) (by kernel_rfl) (k := .u32) (y := 1) hc' hz'
  go_enter_d Tryz.func116, Tryz.ntmps116
  go_wp2
  go_region_calls
  all_goals (go_end0; exact ⟨rfl, rfl⟩)
set_option maxRecDepth 100000 in
set_option maxHeartbeats 1600000 in
theorem o_unlock (a : Addr) (u : FrameMode) (w : World) (hc : w.cell? a = some (.int .i32 1)) (hz : w.frozen? a = false) :
    CallsD Tryz.prog 115 #[.pointer (some a)] u w fun e u' w' => u' = u ∧ (e = .returned (.tuple #[]) ∧ w' = w.setCell a (.int .i32 0)) := by
  have hd := o_disable
  have he := o_enable
  have hr := o_merge
  have hadd := run_call_add (P := Tryz.prog) Tryz.func131 (by kernel_rfl) (by kernel_rfl) (by kernel_rfl) .i32 (by kernel_rfl) (y := -1) (s := 0) hc hz (by simp [go_sem]; rfl)
  have hcv := run_convert_to_unsafe (P := Tryz.prog) (src := 198) (dst := 161) Tryz.underlying198 Tryz.underlying161 (by kernel_rfl) hc
  go_enter_d Tryz.func115, Tryz.ntmps115
  go_wp2
  go_end0
  go_wp2
  go_end0
  exact ⟨rfl, rfl⟩
set_option maxRecDepth 100000 in
set_option maxHeartbeats 1600000 in
theorem o_lock (a : Addr) (w : World) (hc : w.cell? a = some (.int .i32 0)) (hz : w.frozen? a = false) :
    Calls Tryz.prog 114 #[.pointer (some a)] w fun e w' => e = .returned (.tuple #[]) ∧ w' = w.setCell a (.int .i32 1) := by
  have hd := o_disable
  have he := o_enable
  have ha := o_acquire
  have hcas := run_call_cas_hit (P := Tryz.prog) Tryz.func126 (by kernel_rfl) (by kernel_rfl) (by kernel_rfl) .i32 (by kernel_rfl) (y := 1) hc hz
  have hc' : (w.setCell a (.int .i32 1)).cell? a = some (.int .i32 1) := World.cell?_setCell_same w a _ hc
  have hcv := run_convert_to_unsafe (P := Tryz.prog) (src := 198) (dst := 161) Tryz.underlying198 Tryz.underlying161 (by kernel_rfl) hc'
  go_enter Tryz.func114, Tryz.ntmps114
  go_wp2
  first | go_end0 | (simp only [Exit.inBlock, Exit.then]; refine bodyPost_ret (results_none rfl _ _ _) rfl ?_) | refine bodyPost_ret (results_none rfl _ _ _) rfl ?_
  go_wp2
  go_end0
  exact ⟨rfl, rfl⟩

/-- The Replacer's own block. -/
def RP (rp : Nat) (a b c d e : Value) (w : World) : Prop := w.heap[rp]? = some (.cells #[a, b, c, d, e] 151 (0, 0))
theorem RP.cell {rp : Nat} {a b c d e : Value} {w : World} (h : RP rp a b c d e w) (j : Nat) : w.cell? ⟨rp, j, none⟩ = (#[a, b, c, d, e] : Array Value)[j]? := by
  unfold RP at h; simp [World.cell?, h]
theorem RP.free {rp : Nat} {a b c d e : Value} {w : World} (h : RP rp a b c d e w) (j : Nat) : w.frozen? ⟨rp, j, none⟩ = false := by
  unfold RP at h; simp [World.frozen?, h]
theorem RP.set_ {rp : Nat} {a b c d e : Value} {w : World} (h : RP rp a b c d e w) (j : Nat) (v : Value) : (w.setCell ⟨rp, j, none⟩ v).heap[rp]? = some (.cells ((#[a, b, c, d, e] : Array Value).setIfInBounds j v) 151 (0, 0)) := heap_set _ _ _ _ _ _ h
theorem RP.below {rp : Nat} {a b c d e : Value} {w w' : World} (h : RP rp a b c d e w) (hb : Below w.heap.size w w') : RP rp a b c d e w' := by
  unfold RP at h ⊢
  rw [hb.block rp (Array.getElem?_eq_some_iff.1 h).1]
  exact h
theorem far_cell (w : World) (rp j : Nat) (v : Value) (b i : Nat) (h : b ≠ rp) : (w.setCell ⟨rp, j, none⟩ v).cell? ⟨b, i, none⟩ = w.cell? ⟨b, i, none⟩ := by
  unfold World.cell?
  simp only
  rw [heap_set_ne _ _ _ _ _ h]
theorem RepAt.far {b g1 c1 g2 c2 g3 c3 g4 c4 B : Nat} {w : World} (h : RepAt b g1 c1 g2 c2 g3 c3 g4 c4 w ∧ B ≤ b ∧ B ≤ g1 ∧ B ≤ g2 ∧ B ≤ g3 ∧ B ≤ g4) {rp : Nat} (hrp : rp < B) (j : Nat) (v : Value) :
    RepAt b g1 c1 g2 c2 g3 c3 g4 c4 (w.setCell ⟨rp, j, none⟩ v) ∧ B ≤ b ∧ B ≤ g1 ∧ B ≤ g2 ∧ B ≤ g3 ∧ B ≤ g4 := by
  obtain ⟨h, hb, h1, h2, h3, h4⟩ := h
  have e : ∀ x i, B ≤ x → (w.setCell ⟨rp, j, none⟩ v).cell? ⟨x, i, none⟩ = w.cell? ⟨x, i, none⟩ := fun x i hx => far_cell w rp j v x i (by omega)
  refine ⟨⟨fun x => by rw [e _ _ hb]; exact h.cell x, h.l1, h.l2, h.l3, h.l4, by rw [e _ _ hb]; exact h.last, by rw [e _ _ h1]; exact h.q0, by rw [e _ _ h1]; exact h.q1, by rw [e _ _ h2]; exact h.s0, by rw [e _ _ h2]; exact h.s1, by rw [e _ _ h3]; exact h.n0, by rw [e _ _ h3]; exact h.n1, by rw [e _ _ h4]; exact h.t0, by rw [e _ _ h4]; exact h.t1, by rw [e _ _ h4]; exact h.t2⟩, hb, h1, h2, h3, h4⟩

set_option maxHeartbeats 4000000 in
set_option maxRecDepth 100000 in
theorem buildOnce_walk (rp ob c : Nat) (a0 a1 a2 a3 : Value) (w : World) (hR : RP rp a0 a1 a2 a3 (.slice (some ⟨ob, 0, none⟩) 6 c) w) (hO : OldAt ob w) (hc6 : 6 ≤ c) :
    Calls Tryz.prog 96 #[.pointer (some ⟨rp, 0, none⟩)] w fun e w' => e = .returned (.tuple #[]) ∧ ∃ b g1 d1 g2 d2 g3 d3 g4 d4 : Nat, (RepAt b g1 d1 g2 d2 g3 d3 g4 d4 w' ∧ w.heap.size ≤ b ∧ w.heap.size ≤ g1 ∧ w.heap.size ≤ g2 ∧ w.heap.size ≤ g3 ∧ w.heap.size ≤ g4) ∧ RP rp a0 a1 a2 (.iface 181 (.pointer (some ⟨b, 0, none⟩))) (.slice none 0 0) w' ∧ Below rp w w' ∧ w.heap.size ≤ w'.heap.size := by
  have hlt : rp < w.heap.size := (Array.getElem?_eq_some_iff.1 hR).1
  have h4 : w.cell? ⟨rp, 4, none⟩ = some (.slice (some ⟨ob, 0, none⟩) 6 c) := hR.cell 4
  have HR := Aside0.mk hR
  have HO := Aside0.mk hO
  clear hR hO
  go_enter Tryz.func96, Tryz.ntmps96
  go_wp2_with (go_at_call 109; refine (build_walk rp ob c _ HO.out h4 hc6).mono ?_; rintro e w1 ⟨b, g1, d1, g2, d2, g3, d3, g4, d4, rfl, hRA, hB⟩; have HR1 := Aside0.mk (HR.out.below hB); have HRA := Aside0.mk hRA; have HB := Aside0.mk hB; have hc3 := HR1.out.cell 3; have hf3 := HR1.out.free 3; have hc4 : (w1.setCell ⟨rp, 3, none⟩ (.iface 181 (.pointer (some ⟨b, 0, none⟩)))).cell? ⟨rp, 4, none⟩ = _ := RP.cell (a := a0) (b := a1) (c := a2) (d := .iface 181 (.pointer (some ⟨b, 0, none⟩))) (HR1.out.set_ 3 _) 4; have hf4 : (w1.setCell ⟨rp, 3, none⟩ (.iface 181 (.pointer (some ⟨b, 0, none⟩)))).frozen? ⟨rp, 4, none⟩ = false := RP.free (a := a0) (b := a1) (c := a2) (d := .iface 181 (.pointer (some ⟨b, 0, none⟩))) (HR1.out.set_ 3 _) 4; clear hRA hB)
  go_end0
  have hR2 : RP rp a0 a1 a2 (.iface 181 (.pointer (some ⟨b, 0, none⟩))) (.slice (some ⟨ob, 0, none⟩) 6 c) (w1.setCell ⟨rp, 3, none⟩ (.iface 181 (.pointer (some ⟨b, 0, none⟩)))) := HR1.out.set_ 3 _
  exact ⟨rfl, b, g1, d1, g2, d2, g3, d3, g4, d4, RepAt.far (RepAt.far HRA.out hlt _ _) hlt _ _, hR2.set_ 4 _, ((HB.out.mono (Nat.le_of_lt hlt)).setCell (Nat.le_refl _) _).setCell (Nat.le_refl _) _, by rw [setCell_size, setCell_size]; exact HB.out.size⟩

/-- What a Replacer's once leaves. -/
def Ready (rp : Nat) (w w' : World) : Prop := ∃ b g1 d1 g2 d2 g3 d3 g4 d4 : Nat, (RepAt b g1 d1 g2 d2 g3 d3 g4 d4 w' ∧ w.heap.size ≤ b ∧ w.heap.size ≤ g1 ∧ w.heap.size ≤ g2 ∧ w.heap.size ≤ g3 ∧ w.heap.size ≤ g4) ∧ RP rp (.int .u32 1) (.int .i32 0) (.int .u32 0) (.iface 181 (.pointer (some ⟨b, 0, none⟩))) (.slice none 0 0) w' ∧ Below rp w w' ∧ w.heap.size ≤ w'.heap.size
theorem drewRep {b g1 c1 g2 c2 g3 c3 g4 c4 : Nat} {w : World} (h : RepAt b g1 c1 g2 c2 g3 c3 g4 c4 w) : RepAt b g1 c1 g2 c2 g3 c3 g4 c4 w.drew := h.below (below_drew1 (Below.refl _ _))
set_option maxHeartbeats 4000000 in
set_option maxRecDepth 100000 in
theorem slow_walk (rp ob c : Nat) (w : World) (hR : RP rp (.int .u32 0) (.int .i32 0) (.int .u32 0) .nilIface (.slice (some ⟨ob, 0, none⟩) 6 c) w) (hO : OldAt ob w) (hne : ob ≠ rp) (hc6 : 6 ≤ c) :
    Calls Tryz.prog 108 #[.pointer (some ⟨rp, 0, none⟩), .func (.func 96) #[.pointer (some ⟨rp, 0, none⟩)] #[]] w fun e w' => e = .returned (.tuple #[]) ∧ Ready rp w w' := by
  have hlt : rp < w.heap.size := (Array.getElem?_eq_some_iff.1 hR).1
  have hR1 : RP rp (.int .u32 0) (.int .i32 1) (.int .u32 0) .nilIface (.slice (some ⟨ob, 0, none⟩) 6 c) (w.setCell ⟨rp, 1, none⟩ (.int .i32 1)) := hR.set_ 1 _
  have hO1 : OldAt ob (w.setCell ⟨rp, 1, none⟩ (.int .i32 1)) := ⟨fun k j hj => by rw [far_cell _ _ _ _ _ _ hne]; exact hO.key k j hj, fun k j hj => by rw [far_cell _ _ _ _ _ _ hne]; exact hO.val k j hj⟩
  have hl := run_call_load (P := Tryz.prog) Tryz.func113 (by kernel_rfl) (by kernel_rfl) (by kernel_rfl) .u32 (by kernel_rfl) (w := w.setCell ⟨rp, 1, none⟩ (.int .i32 1)) (a := ⟨rp, 0, none⟩) (x := 0) (hR1.cell 0)
  have hnot : ∀ (x : Bool) (w : World), (Op.unary .not (.bool x)).run Tryz.prog w = .ok (.bool (!x)) w := fun _ _ => rfl
  have h1 := hR.cell 1
  have f1 := hR.free 1
  have HR1 := Aside0.mk hR1
  have HO1 := Aside0.mk hO1
  have hb1 : Below rp w (w.setCell ⟨rp, 1, none⟩ (.int .i32 1)) := (Below.refl _ _).mono (Nat.le_of_lt hlt) |>.setCell (Nat.le_refl _) _
  have HB1 := Aside0.mk hb1
  clear hR hR1 hO hO1 hb1
  go_enter_defers Tryz.func108, Tryz.ntmps108
  go_wp2_with (first | (go_at_call 114; refine (o_lock ⟨rp, 1, none⟩ _ h1 f1).mono ?_; rintro e w' ⟨rfl, rfl⟩) | (go_at_call 107; go_in) | (go_at_call 96; refine (buildOnce_walk rp ob c _ _ _ _ _ HR1.out HO1.out hc6).mono ?_; rintro e w2 ⟨rfl, hrest⟩; have HX := Aside0.mk hrest; clear hrest))
  obtain ⟨b, g1, d1, g2, d2, g3, d3, g4, d4, hrep, hrp2, hb2, hs2⟩ := HX.out
  have hrpd : RP rp (.int .u32 0) (.int .i32 1) (.int .u32 0) (.iface 181 (.pointer (some ⟨b, 0, none⟩))) (.slice none 0 0) w2.drew := hrp2
  have hrp3 : RP rp (.int .u32 1) (.int .i32 1) (.int .u32 0) (.iface 181 (.pointer (some ⟨b, 0, none⟩))) (.slice none 0 0) (w2.drew.setCell ⟨rp, 0, none⟩ (.int .u32 1)) := hrpd.set_ 0 _
  refine leaves_cons (f := 116) (args := #[.pointer (some ⟨rp, 0, none⟩), .bool true]) (by simp) (by simp [go_sem]) ?_
  refine (o_store ⟨rp, 0, none⟩ (.int .u32 0) .returning _ (hrp2.cell 0) (hrp2.free 0)).mono ?_
  rintro e u' w'' ⟨rfl, rfl, rfl⟩
  refine leaves_cons (f := 115) (args := #[.pointer (some ⟨rp, 1, none⟩)]) (by simp [settle]) (by simp [go_sem]) ?_
  refine (o_unlock ⟨rp, 1, none⟩ _ _ (hrp3.cell 1) (hrp3.free 1)).mono ?_
  rintro e u' w'' ⟨rfl, rfl, rfl⟩
  have hs1 : (w.setCell ⟨rp, 1, none⟩ (.int .i32 1)).heap.size = w.heap.size := setCell_size _ _ _
  rw [hs1] at hrep hs2
  have hfin : Ready rp w ((w2.drew.setCell ⟨rp, 0, none⟩ (.int .u32 1)).setCell ⟨rp, 1, none⟩ (.int .i32 0)) :=
    ⟨b, g1, d1, g2, d2, g3, d3, g4, d4, RepAt.far (RepAt.far ⟨drewRep hrep.1, hrep.2⟩ hlt _ _) hlt _ _, hrp3.set_ 1 _, ((below_drew1 (HB1.out.trans hb2)).setCell (Nat.le_refl _) _).setCell (Nat.le_refl _) _, by rw [setCell_size, setCell_size]; exact hs2⟩
  have HF := Aside0.mk hfin
  clear hfin
  simp [Leaves, settle, results, Tryz.results108]
  exact HF.out
set_option maxHeartbeats 4000000 in
set_option maxRecDepth 100000 in
theorem do_walk (rp ob c : Nat) (w : World) (hR : RP rp (.int .u32 0) (.int .i32 0) (.int .u32 0) .nilIface (.slice (some ⟨ob, 0, none⟩) 6 c) w) (hO : OldAt ob w) (hne : ob ≠ rp) (hc6 : 6 ≤ c) :
    Calls Tryz.prog 95 #[.pointer (some ⟨rp, 0, none⟩), .func (.func 96) #[.pointer (some ⟨rp, 0, none⟩)] #[]] w fun e w' => e = .returned (.tuple #[]) ∧ Ready rp w w' := by
  have hl := run_call_load (P := Tryz.prog) Tryz.func113 (by kernel_rfl) (by kernel_rfl) (by kernel_rfl) .u32 (by kernel_rfl) (w := w) (a := ⟨rp, 0, none⟩) (x := 0) (hR.cell 0)
  have hnot : ∀ (x : Bool) (w : World), (Op.unary .not (.bool x)).run Tryz.prog w = .ok (.bool (!x)) w := fun _ _ => rfl
  have HC := Aside0.mk (slow_walk rp ob c w hR hO hne hc6)
  clear hR hO
  go_enter Tryz.func95, Tryz.ntmps95
  go_wp2_with (first | (go_at_call 108; refine HC.out.mono ?_; rintro e w' ⟨rfl, hrest⟩; have HX := Aside0.mk hrest; clear hrest) | (go_at_call 107; go_in))
  go_end0
  exact ⟨rfl, HX.out⟩
theorem Ready.rep {rp : Nat} {w w' : World} (h : Ready rp w w') : ∃ b, w'.cell? ⟨rp, 3, none⟩ = some (.iface 181 (.pointer (some ⟨b, 0, none⟩))) ∧ ∃ g1 d1 g2 d2 g3 d3 g4 d4, RepAt b g1 d1 g2 d2 g3 d3 g4 d4 w' := by
  obtain ⟨b, g1, d1, g2, d2, g3, d3, g4, d4, hrep, hrp, _, _⟩ := h
  exact ⟨b, hrp.cell 3, g1, d1, g2, d2, g3, d3, g4, d4, hrep.1⟩
theorem nilA (a : Addr) (w : World) : (nilAhead 342 181 (.pointer (some a)) "Replace").run Tryz.prog w = .ok (some false) w := by kernel_rfl
theorem methA (a : Addr) (w : World) : (method 342 181 (.pointer (some a)) "Replace").run Tryz.prog w = .ok (217, .pointer (some a)) w := by kernel_rfl
theorem Replace_any (s : ByteArray) (b g1 c1 g2 c2 g3 c3 g4 c4 : Nat) (w : World) (hs : s.size ≤ 1099511627776) (hR : RepAt b g1 c1 g2 c2 g3 c3 g4 c4 w) :
    Calls Tryz.prog 217 #[.pointer (some ⟨b, 0, none⟩), .string s] w fun e w' => e = .returned (.string ⟨(escL s.data.toList).toArray⟩) ∧ Below w.heap.size w w' := by
  by_cases h : s.size < 24
  · exact Replace_short s b g1 c1 g2 c2 g3 c3 g4 c4 w hs hR h
  · exact Replace_long s b g1 c1 g2 c2 g3 c3 g4 c4 w hs hR (by omega)
set_option maxHeartbeats 4000000 in
set_option maxRecDepth 100000 in
theorem ReplacerReplace (s : ByteArray) (rp ob c : Nat) (w : World) (hs : s.size ≤ 1099511627776) (hR : RP rp (.int .u32 0) (.int .i32 0) (.int .u32 0) .nilIface (.slice (some ⟨ob, 0, none⟩) 6 c) w) (hO : OldAt ob w) (hne : ob ≠ rp) (hc6 : 6 ≤ c) :
    Calls Tryz.prog 80 #[.pointer (some ⟨rp, 0, none⟩), .string s] w fun e w' => e = .returned (.string ⟨(escL s.data.toList).toArray⟩) ∧ Below rp w w' := by
  have hmf : ∀ (fn : Fn) (first cap : Array Value) (w : World), (Instr.makeFunc fn first cap).run Tryz.prog w = .ok (.func fn first cap) w := fun _ _ _ _ => rfl
  have HC := Aside0.mk (do_walk rp ob c w hR hO hne hc6)
  have hltw : rp < w.heap.size := (Array.getElem?_eq_some_iff.1 hR).1
  have hna := nilA
  have hma := methA
  clear hR hO
  go_enter Tryz.func80, Tryz.ntmps80
  go_wp2_with (first | (go_at_call 95; refine HC.out.mono ?_; rintro e w1 ⟨rfl, hrest⟩; have HX := Aside0.mk hrest; clear hrest; obtain ⟨b, hcell, hrep⟩ := HX.out.rep; have HREP := Aside0.mk hrep; clear hrep) | (go_at_call 217; obtain ⟨g1, d1, g2, d2, g3, d3, g4, d4, hrep⟩ := HREP.out; refine (Replace_any s b g1 d1 g2 d2 g3 d3 g4 d4 _ hs hrep).mono ?_; rintro e w2 ⟨rfl, hb2⟩; have HB2 := Aside0.mk hb2; clear hb2 hrep))
  go_ret
  obtain ⟨_, _, _, _, _, _, _, _, _, _, _, hb1, hs1⟩ := HX.out
  have hlt : rp ≤ w1.heap.size := by omega
  exact ⟨rfl, hb1.trans (HB2.out.mono hlt)⟩

theorem own_six {w : World} {B e : Nat} {v : Value} {xs : List Value} (h : w.ownsRow B e 1 v (0 + 6) xs) : ∃ g cap cur, v = .slice (some ⟨g, 0, none⟩) 6 cap ∧ Aside0 (B ≤ g ∧ w.heap[g]? = some (.cells cur e (0, 0)) ∧ 6 ≤ cap ∧ cur.toList.take 6 = xs) := by
  obtain ⟨hl, hx⟩ := h
  rcases hx with ⟨_, e⟩ | ⟨g, cap, cur, rfl, hg1, hg2, hg3, _, hg5, hg6⟩
  · omega
  · exact ⟨g, cap, cur, rfl, ⟨hg1, hg2, by omega, hg6⟩⟩
def NewPost (w : World) (e : Ending) (w' : World) : Prop := ∃ rp ob c : Nat, e = .returned (.pointer (some ⟨rp, 0, none⟩)) ∧ RP rp (.int .u32 0) (.int .i32 0) (.int .u32 0) .nilIface (.slice (some ⟨ob, 0, none⟩) 6 c) w' ∧ OldAt ob w' ∧ ob ≠ rp ∧ 6 ≤ c ∧ w.heap.size ≤ rp ∧ Below w.heap.size w w'
def sixV : List Value := [.string ⟨#[34]⟩, .string ⟨#[92, 34]⟩, .string ⟨#[92]⟩, .string ⟨#[92, 92]⟩, .string ⟨#[10]⟩, .string ⟨#[92, 110]⟩]
set_option maxHeartbeats 4000000 in
set_option maxRecDepth 100000 in
theorem New_walk (o0 : Nat) (w : World) (h : ∀ j u, sixV[j]? = some u → w.cell? ⟨o0, j, none⟩ = some u) :
    Calls Tryz.prog 79 #[.slice (some ⟨o0, 0, none⟩) 6 6] w (NewPost w) := by
  have H6 := Aside0.mk h
  clear h
  obtain ⟨i9, hi9, hz9, hs9, hb9⟩ : ∃ i, Tryz.prog.info? 9 = some i ∧ i.zero = some (.string ⟨#[]⟩) ∧ i.size = 1 ∧ i.bytes = 16 := by
    have h : (Tryz.prog.info? 9).map (fun i => (i.zero, i.size, i.bytes)) = some (some (.string ⟨#[]⟩), 1, 16) := by kernel_rfl
    obtain ⟨i, h1, h2⟩ := Option.map_eq_some_iff.1 h
    simp only [Prod.mk.injEq] at h2
    exact ⟨i, h1, h2.1, h2.2.1, h2.2.2⟩
  have HI := Aside0.mk hi9
  have HZ := Aside0.mk hz9
  have HS := Aside0.mk hs9
  have HBY := Aside0.mk hb9
  clear hi9 hz9 hs9 hb9
  go_enter Tryz.func79, Tryz.ntmps79
  go_wp2_with (at_builtin; go_must (refine wpList_append_own _ rfl (.const (.slice none 0 0)) (.tmp 8) 22 rfl w.heap.size 9 i9 (.string ⟨#[]⟩) 1 16 Tryz.underlying22 HI.out HZ.out HS.out HBY.out rfl (by decide) (.slice none 0 0) 0 [] rfl ⟨rfl, .inl ⟨rfl, rfl⟩⟩ ⟨o0, 0, none⟩ 6 6 sixV rfl rfl ?c1 ?c2 (by decide) (by decide) (Nat.le_refl _) ?_); (case c1 => intro j u hu; rw [add_plain' o0 j]; exact H6.out j u hu); (case c2 => intro u hu; simp [sixV] at hu; rcases hu with rfl | rfl | rfl | rfl | rfl | rfl <;> rfl); intro v1 w1 hown hgrow _; have HG1 := Aside0.mk hgrow; clear hgrow; obtain ⟨g, cap, cur, rfl, HO1⟩ := own_six hown; clear hown)
  obtain ⟨hg1, hg2, hg3, hg6⟩ := HO1.out
  have hB1 : Below w.heap.size w w1 := Below.grown (Below.refl _ _) HG1.out (Nat.le_refl _) (fun k hk => by cases hk)
  have hgl : g < w1.heap.size := (Array.getElem?_eq_some_iff.1 hg2).1
  have hz := hB1.size
  have hat : ∀ (i : Nat) (v : Value), sixV[i]? = some v → cur[i]? = some v := fun i v hv => by
    have h1 : (cur.toList.take 6)[i]? = some v := by rw [hg6]; exact hv
    have hi : i < 6 := by
      rcases Nat.lt_or_ge i 6 with h | h
      · exact h
      · rw [List.getElem?_eq_none (by simpa [sixV] using h)] at hv; cases hv
    rw [List.getElem?_take_of_lt (by omega)] at h1
    simpa using h1
  have hfin : OldAt g (w1.alloc (.cells #[.int .u32 0, .int .i32 0, .int .u32 0, .nilIface, .slice (some ⟨g, 0, none⟩) 6 cap] 151)) := by
    have hc : ∀ (i : Nat) (v : Value), sixV[i]? = some v → (w1.alloc (.cells #[.int .u32 0, .int .i32 0, .int .u32 0, .nilIface, .slice (some ⟨g, 0, none⟩) 6 cap] 151)).cell? ⟨g, i, none⟩ = some v := fun i v hv => by
      rw [World.cell?_alloc_past _ _ _ hgl]
      simpa [World.cell?, hg2] using hat i v hv
    refine ⟨fun k j hj => ?_, fun k j hj => ?_⟩
    · rcases (by omega : (k = 0 ∧ j = 4) ∨ (k = 1 ∧ j = 2) ∨ (k = 2 ∧ j = 0)) with ⟨rfl, rfl⟩ | ⟨rfl, rfl⟩ | ⟨rfl, rfl⟩ <;> exact hc _ _ rfl
    · rcases (by omega : (k = 0 ∧ j = 4) ∨ (k = 1 ∧ j = 2) ∨ (k = 2 ∧ j = 0)) with ⟨rfl, rfl⟩ | ⟨rfl, rfl⟩ | ⟨rfl, rfl⟩ <;> exact hc _ _ rfl
  have hrp : RP w1.heap.size (.int .u32 0) (.int .i32 0) (.int .u32 0) .nilIface (.slice (some ⟨g, 0, none⟩) 6 cap) (w1.alloc (.cells #[.int .u32 0, .int .i32 0, .int .u32 0, .nilIface, .slice (some ⟨g, 0, none⟩) 6 cap] 151)) := by
    show (w1.heap.push _)[w1.heap.size]? = _
    simp
  have HF := Aside0.mk hfin
  have HRP := Aside0.mk hrp
  have HBB := Aside0.mk (hB1.alloc hz (.cells #[.int .u32 0, .int .i32 0, .int .u32 0, .nilIface, .slice (some ⟨g, 0, none⟩) 6 cap] 151))
  have hgne : g ≠ w1.heap.size := by omega
  clear hfin hrp hat hg6 hg2 hB1
  go_ret
  exact ⟨w1.heap.size, g, cap, rfl, HRP.out, HF.out, hgne, by omega, hz, HBB.out⟩
theorem quote_plain {l : List UInt8} (h : plainL l = true) : quoteL l = l := by unfold quoteL; rw [if_pos h]
theorem quote_odd {l : List UInt8} (h : plainL l = false) : quoteL l = 34 :: (escL l ++ [34]) := by unfold quoteL; rw [if_neg (by simp [h])]

theorem six_at (w : World) : ∀ (j : Nat) (u : Value), sixV[j]? = some u → (w.alloc (.cells #[.string ⟨#[34]⟩, .string ⟨#[92, 34]⟩, .string ⟨#[92]⟩, .string ⟨#[92, 92]⟩, .string ⟨#[10]⟩, .string ⟨#[92, 110]⟩] 9)).cell? ⟨w.heap.size, j, none⟩ = some u := fun j u hu => by
  have h : (w.alloc (.cells #[.string ⟨#[34]⟩, .string ⟨#[92, 34]⟩, .string ⟨#[92]⟩, .string ⟨#[92, 92]⟩, .string ⟨#[10]⟩, .string ⟨#[92, 110]⟩] 9)).heap[w.heap.size]? = some (.cells sixV.toArray 9 (0, 0)) := by
    show (w.heap.push _)[w.heap.size]? = _
    simp
    rfl
  simp only [World.cell?, h]
  simpa using hu
theorem quote_bytes (l : List UInt8) : (⟨#[34]⟩ : ByteArray) ++ (⟨l.toArray⟩ : ByteArray) ++ (⟨#[34]⟩ : ByteArray) = ⟨(34 :: (l ++ [34])).toArray⟩ := by
  apply ByteArray.ext
  simp [ByteArray.data_append]
set_option maxHeartbeats 4000000 in
set_option maxRecDepth 100000 in
theorem Quote_odd (s : ByteArray) (w : World) (hs : s.size ≤ 1099511627776) (hp : plainL s.data.toList = false)
    (hca : ∀ w : World, s.data.toList ≠ [] → Calls Tryz.prog 59 #[.string s, .string ⟨#[32, 9, 10, 34, 92]⟩] w fun e w' => e = .returned (.bool true) ∧ Below w.heap.size w w') :
    Calls Tryz.prog 62 #[.string s] w fun e w' => e = .returned (.string ⟨(quoteL s.data.toList).toArray⟩) ∧ Below w.heap.size w w' := by
  have HQ := Aside0.mk (quote_odd hp)
  clear hp
  have HCA := Aside0.mk hca
  clear hca
  have hl := escL_len s.data.toList
  have hl2 : s.data.toList.length = s.size := by simp
  have hl3 : (⟨(escL s.data.toList).toArray⟩ : ByteArray).size ≤ 2 * s.size := by show (escL s.data.toList).toArray.size ≤ _; rw [List.size_toArray]; omega
  have hl4 : ((⟨#[34]⟩ : ByteArray) ++ (⟨(escL s.data.toList).toArray⟩ : ByteArray)).size ≤ 2 * s.size + 1 := by rw [ByteArray.size_append]; show 1 + _ ≤ _; omega
  have h34 : (⟨#[34]⟩ : ByteArray).size = 1 := rfl
  have h1 : s.toList.isEmpty = s.data.toList.isEmpty := by rw [Lib.toList_data]
  obtain ⟨E, hE⟩ : ∃ E : ByteArray, (⟨(escL s.data.toList).toArray⟩ : ByteArray) = E := ⟨_, rfl⟩
  have HE := Aside0.mk hE
  rw [hE] at hl3 hl4
  clear hE hl
  go_enter Tryz.func62, Tryz.ntmps62
  by_cases hem : s.data.toList = []
  · have hemp : s.toList.isEmpty = true := by rw [h1, hem]; rfl
    clear h1
    go_wp2_with (first | (go_at_call 79; refine (New_walk w.heap.size _ (six_at w)).mono ?_; rintro e w2 ⟨rp, ob, c, rfl, hR, hO, hne, hc, hge, hb2⟩; have HR := Aside0.mk hR; have HO := Aside0.mk hO; have HB2 := Aside0.mk hb2; clear hR hO hb2) | (go_at_call 80; refine (ReplacerReplace s rp ob c _ hs HR.out HO.out hne hc).mono ?_; rintro e w3 ⟨rfl, hb3⟩; have HB3 := Aside0.mk hb3; clear hb3; rw [HE.out]))
    go_ret
    exact ⟨by rw [HQ.out, ← HE.out, quote_bytes]; rfl, ((Below.refl _ _).alloc (Nat.le_refl _) _).trans ((HB2.out.mono (by simp)).trans (HB3.out.mono (by simp at hge; omega)))⟩
  · have hemp : s.toList.isEmpty = false := by rw [h1]; simpa using hem
    clear h1
    go_wp2_with (first | (go_at_call 59; refine (HCA.out _ hem).mono ?_; rintro e w1 ⟨rfl, hb1⟩; have HB1 := Aside0.mk hb1; clear hb1) | (go_at_call 79; refine (New_walk w1.heap.size _ (six_at w1)).mono ?_; rintro e w2 ⟨rp, ob, c, rfl, hR, hO, hne, hc, hge, hb2⟩; have HR := Aside0.mk hR; have HO := Aside0.mk hO; have HB2 := Aside0.mk hb2; clear hR hO hb2) | (go_at_call 80; refine (ReplacerReplace s rp ob c _ hs HR.out HO.out hne hc).mono ?_; rintro e w3 ⟨rfl, hb3⟩; have HB3 := Aside0.mk hb3; clear hb3; rw [HE.out]))
    go_ret
    have hz := HB1.out.size
    exact ⟨by rw [HQ.out, ← HE.out, quote_bytes]; rfl, (HB1.out.alloc hz _).trans ((HB2.out.mono (by simp; omega)).trans (HB3.out.mono (by simp at hge; omega)))⟩

set_option maxHeartbeats 4000000 in
set_option maxRecDepth 100000 in
theorem Quote_plain (s : ByteArray) (w : World) (hp : plainL s.data.toList = true)
    (hca : ∀ w : World, Calls Tryz.prog 59 #[.string s, .string ⟨#[32, 9, 10, 34, 92]⟩] w fun e w' => e = .returned (.bool false) ∧ Below w.heap.size w w') :
    Calls Tryz.prog 62 #[.string s] w fun e w' => e = .returned (.string ⟨(quoteL s.data.toList).toArray⟩) ∧ Below w.heap.size w w' := by
  have HQ := Aside0.mk (quote_plain hp)
  have HCA := Aside0.mk hca
  have hemp : s.toList.isEmpty = false := by
    rw [Lib.toList_data]
    simp only [plainL, Bool.and_eq_true] at hp
    simpa using hp.1
  clear hp hca
  go_enter Tryz.func62, Tryz.ntmps62
  go_wp2_with (first | (go_at_call 59; refine (HCA.out _).mono ?_; rintro e w1 ⟨rfl, hb1⟩; have HB1 := Aside0.mk hb1; clear hb1))
  go_ret
  exact ⟨by rw [HQ.out, show (⟨s.data.toList.toArray⟩ : ByteArray) = s by cases s; simp]; rfl, HB1.out⟩
theorem any_contains : ∀ (l cs : List UInt8), decide (0 ≤ Lib.indexAny l cs) = l.any (fun b => cs.contains b)
  | [], cs => rfl
  | b :: l, cs => by
    have ih := any_contains l cs
    have hge := Lib.indexAny_ge cs l
    rw [Lib.indexAny, List.any_cons, ← ih]
    cases hb : cs.contains b
    · simp only [Bool.false_eq_true, if_false, Bool.false_or]
      by_cases h : Lib.indexAny l cs = -1
      · rw [h]; rfl
      · rw [if_neg (by simpa using h)]
        exact decide_eq_decide.2 (by omega)
    · simp

end Go.Proofs.YtpiafpkpdbknfaaGreatDoor.Sup
