/- cmd.of: other fields are set, or there is no such operation. Conditions: those in each statement. -/
import Derived.Test.YtpiafpkpdbknfaaGreatDoorSOfBase
namespace Go.Proofs.YtpiafpkpdbknfaaGreatDoor.Sup
open Go.RowKit Go.Proofs.YtpiafpkpdbknfaaGreatDoorW.PrintWords Go.Proofs.YtpiafpkpdbknfaaGreatDoorW.PrintLast Go.Proofs.YtpiafpkpdbknfaaGreatDoorW.PrintMore
attribute [local go_sem] max2_int min2_int max_two min_two max_three min_three max_four min_four
set_option linter.unusedVariables false
set_option linter.unusedSimpArgs false
set_option maxHeartbeats 1000000 in
set_option maxRecDepth 100000 in
theorem of_7_n1 (dst : ByteArray) (st : Int) (s : ByteArray) (q : Nat) (A2 : Option Addr) (c2 : Nat) (A3 : Option Addr) (c3 : Nat) (w : World) (hr2 : Kd.C Kd.string w A2 [s].length [s]) :
    Calls Tryz.prog 43 #[(.agg #[.int .i64 7, .string dst, .slice A2 1 c2, .slice A3 q c3, .int .i64 st])] w fun e w' => e = .returned (.tuple #[.nilIface, .int .i64 160]) ∧ Below w.heap.size w w' := by
  have HR := Aside0.mk hr2
  obtain ⟨ad, rfl, hcell⟩ := c_first hr2
  have hlt := World.block_lt_of_cell? _ _ hcell
  have hnew := World.new_ne w ad hcell
  have q01 : (0 : Int) < (1 : Int) := by decide
  clear hr2
  go_enter Tryz.func43, Tryz.ntmps43
  go_wp2
  go_ret2
  exact ⟨rfl, by repeat (first | exact Below.refl _ _ | exact HB1.out | exact hB3 | apply below_alloc | apply pw_below_drewN | apply below_drew1)⟩
set_option maxHeartbeats 1000000 in
set_option maxRecDepth 100000 in
theorem of_7_nM (dst : ByteArray) (st : Int) (n : Nat) (q : Nat) (A2 : Option Addr) (c2 : Nat) (A3 : Option Addr) (c3 : Nat) (w : World) (h2 : n ≠ 1) (h20 : n ≠ 0) :
    Calls Tryz.prog 43 #[(.agg #[.int .i64 7, .string dst, .slice A2 n c2, .slice A3 q c3, .int .i64 st])] w fun e w' => e = .returned (.tuple #[.nilIface, .int .i64 160]) ∧ Below w.heap.size w w' := by
  have b21 : ((n : Int) == 1) = false := beq_eq_false_iff_ne.2 (by omega)
  have b20 : ((n : Int) == 0) = false := beq_eq_false_iff_ne.2 (by omega)
  go_enter Tryz.func43, Tryz.ntmps43
  go_wp2
  go_ret2
  exact ⟨rfl, by repeat (first | exact Below.refl _ _ | exact HB1.out | exact hB3 | apply below_alloc | apply pw_below_drewN | apply below_drew1)⟩
set_option maxHeartbeats 1000000 in
set_option maxRecDepth 100000 in
theorem of_7_d (dst : ByteArray) (st : Int) (q : Nat) (A2 : Option Addr) (c2 : Nat) (A3 : Option Addr) (c3 : Nat) (w : World) (hdst : dst ≠ ByteArray.empty) :
    Calls Tryz.prog 43 #[(.agg #[.int .i64 7, .string dst, .slice A2 0 c2, .slice A3 q c3, .int .i64 st])] w fun e w' => e = .returned (.tuple #[.nilIface, .int .i64 160]) ∧ Below w.heap.size w w' := by
  have bd : (dst.toList == []) = false := dst_ne hdst
  go_enter Tryz.func43, Tryz.ntmps43
  go_wp2
  go_ret2
  exact ⟨rfl, by repeat (first | exact Below.refl _ _ | exact HB1.out | exact hB3 | apply below_alloc | apply pw_below_drewN | apply below_drew1)⟩
set_option maxHeartbeats 1000000 in
set_option maxRecDepth 100000 in
theorem of_7_w (st : Int) (q : Nat) (A2 : Option Addr) (c2 : Nat) (A3 : Option Addr) (c3 : Nat) (w : World) (h3 : 0 < q) :
    Calls Tryz.prog 43 #[(.agg #[.int .i64 7, .string ⟨#[]⟩, .slice A2 0 c2, .slice A3 q c3, .int .i64 st])] w fun e w' => e = .returned (.tuple #[.nilIface, .int .i64 160]) ∧ Below w.heap.size w w' := by
  have b30 : decide ((q : Int) > 0) = true := decide_eq_true (by omega)
  go_enter Tryz.func43, Tryz.ntmps43
  go_wp2
  go_ret2
  exact ⟨rfl, by repeat (first | exact Below.refl _ _ | exact HB1.out | exact hB3 | apply below_alloc | apply pw_below_drewN | apply below_drew1)⟩
set_option maxHeartbeats 1000000 in
set_option maxRecDepth 100000 in
theorem of_2_w1 (dst : ByteArray) (st : Int) (s : ByteArray) (q : Nat) (A2 : Option Addr) (c2 : Nat) (A3 : Option Addr) (c3 : Nat) (w : World) (hr2 : Kd.C Kd.string w A2 [s].length [s]) (hc2 : 1 ≤ c2) (h3 : 0 < q) (HL : CloneOk) :
    Calls Tryz.prog 43 #[(.agg #[.int .i64 2, .string dst, .slice A2 1 c2, .slice A3 q c3, .int .i64 st])] w fun e w' => e = .returned (.tuple #[.nilIface, .int .i64 160]) ∧ Below w.heap.size w w' := by
  have HR := Aside0.mk hr2
  obtain ⟨ad, rfl, hcell⟩ := c_first hr2
  have hlt := World.block_lt_of_cell? _ _ hcell
  have hnew := World.new_ne w ad hcell
  have q01 : (0 : Int) < (1 : Int) := by decide
  clear hr2
  have HC := Aside0.mk hc2
  have HS := Aside0.mk (show 1 ≤ 8796093022200 by decide)
  have HN := Aside0.mk (show [s].length = 1 from rfl)
  clear hc2
  have b30 : decide ((q : Int) > 0) = true := decide_eq_true (by omega)
  go_enter Tryz.func43, Tryz.ntmps43
  go_upto_region 14 with (fail)
  obtain ⟨gc, hgc⟩ : ∃ gc, gc = w.heap.size + 1 := ⟨_, rfl⟩
  rw [← hgc]
  obtain ⟨W1, hW1⟩ : ∃ W1, W1 = (w.alloc (Obj.cells #[.int .i64 2, .string dst, .slice (some ad) 1 c2, .slice A3 q c3, .int .i64 st] 24)).alloc (Obj.cells #[.int .i64 0, .string dst, .slice (some ad) 1 c2, .slice A3 q c3, .int .i64 st] 24) := ⟨_, rfl⟩
  rw [← hW1]
  have hs1 : (w.alloc (Obj.cells #[.int .i64 2, .string dst, .slice (some ad) 1 c2, .slice A3 q c3, .int .i64 st] 24)).heap.size = w.heap.size + 1 := by show (w.heap.push _).size = _; rw [Array.size_push]
  have hP1 : W1.heap[w.heap.size]? = some (.cells #[.int .i64 2, .string dst, .slice (some ad) 1 c2, .slice A3 q c3, .int .i64 st] 24 (0, 0)) := by
    rw [hW1]
    show ((w.alloc (Obj.cells #[.int .i64 2, .string dst, .slice (some ad) 1 c2, .slice A3 q c3, .int .i64 st] 24)).heap.push _)[w.heap.size]? = _
    rw [Array.getElem?_push_lt (by rw [hs1]; omega), ← Array.getElem?_eq_getElem]
    exact alloc_top w _
  have hR1 : W1.heap[gc]? = some (.cells #[.int .i64 0, .string dst, .slice (some ad) 1 c2, .slice A3 q c3, .int .i64 st] 24 (0, 0)) := by
    rw [hW1, hgc, ← hs1]
    exact alloc_top (w.alloc (Obj.cells #[.int .i64 2, .string dst, .slice (some ad) 1 c2, .slice A3 q c3, .int .i64 st] 24)) _
  have hB1 : Below w.heap.size w W1 := by
    rw [hW1]
    exact ((Below.refl w.heap.size w).alloc (Nat.le_refl _) _).alloc (by rw [hs1]; omega) _
  obtain ⟨x0, y0⟩ := box_cell (j := 0) hP1
  obtain ⟨x1, y1⟩ := box_cell (j := 1) hP1
  obtain ⟨x2, y2⟩ := box_cell (j := 2) hP1
  obtain ⟨x3, y3⟩ := box_cell (j := 3) hP1
  obtain ⟨x4, y4⟩ := box_cell (j := 4) hP1
  obtain ⟨u0, v0⟩ := box_cell (j := 0) hR1
  obtain ⟨u1, v1⟩ := box_cell (j := 1) hR1
  obtain ⟨u2, v2⟩ := box_cell (j := 2) hR1
  obtain ⟨u3, v3⟩ := box_cell (j := 3) hR1
  obtain ⟨u4, v4⟩ := box_cell (j := 4) hR1
  simp only [List.getElem?_toArray, List.getElem?_cons_zero, List.getElem?_cons_succ] at x0 x1 x2 x3 x4 u0 u1 u2 u3 u4
  have HP1 := Aside0.mk hP1
  have HR1 := Aside0.mk hR1
  have HB1 := Aside0.mk hB1
  have HGC := Aside0.mk hgc
  have hgne : (gc = w.heap.size) = False := eq_false (by omega)
  have hgne' : (w.heap.size = gc) = False := eq_false (by omega)
  clear hP1 hR1 hB1 hgc hs1 hW1
  go_wp2_with (first
    | (go_at_call 32; refine (HL _ _ _ _ _ HN.out HC.out HS.out (Kd.C_below HR.out HB1.out)).mono ?_; rintro e w3 ⟨A, c, rfl, ho, hb3⟩; have hP3 := (hb3.out.block w.heap.size (Array.getElem?_eq_some_iff.1 HP1.out).1).trans HP1.out; have hR3 := (hb3.out.block gc (Array.getElem?_eq_some_iff.1 HR1.out).1).trans HR1.out; clear x0 x1 x2 x3 x4 u0 u1 u2 u3 u4 y0 y1 y2 y3 y4 v0 v1 v2 v3 v4; obtain ⟨x0, y0⟩ := box_cell (j := 0) hP3; obtain ⟨x1, y1⟩ := box_cell (j := 1) hP3; obtain ⟨x2, y2⟩ := box_cell (j := 2) hP3; obtain ⟨x3, y3⟩ := box_cell (j := 3) hP3; obtain ⟨x4, y4⟩ := box_cell (j := 4) hP3; obtain ⟨u0, v0⟩ := box_cell (j := 0) hR3; obtain ⟨u1, v1⟩ := box_cell (j := 1) hR3; obtain ⟨u2, v2⟩ := box_cell (j := 2) hR3; obtain ⟨u3, v3⟩ := box_cell (j := 3) hR3; obtain ⟨u4, v4⟩ := box_cell (j := 4) hR3; simp only [List.getElem?_toArray, List.getElem?_cons_zero, List.getElem?_cons_succ] at x0 x1 x2 x3 x4 u0 u1 u2 u3 u4; clear hP3 hR3))
  have hB3 : Below w.heap.size w w3 := HB1.out.trans (hb3.out.mono HB1.out.size)
  have hgl : w.heap.size ≤ gc := by have := HGC.out; omega
  go_ret2
  exact ⟨rfl, by repeat (first | exact hB3 | refine Below.setCell ?_ hgl _)⟩
set_option maxHeartbeats 1000000 in
set_option maxRecDepth 100000 in
theorem of_2_s1 (dst : ByteArray) (st : Int) (s : ByteArray) (A2 : Option Addr) (c2 : Nat) (A3 : Option Addr) (c3 : Nat) (w : World) (hr2 : Kd.C Kd.string w A2 [s].length [s]) (hc2 : 1 ≤ c2) (hst : st ≠ 0) (HL : CloneOk) :
    Calls Tryz.prog 43 #[(.agg #[.int .i64 2, .string dst, .slice A2 1 c2, .slice A3 0 c3, .int .i64 st])] w fun e w' => e = .returned (.tuple #[.nilIface, .int .i64 160]) ∧ Below w.heap.size w w' := by
  have HR := Aside0.mk hr2
  obtain ⟨ad, rfl, hcell⟩ := c_first hr2
  have hlt := World.block_lt_of_cell? _ _ hcell
  have hnew := World.new_ne w ad hcell
  have q01 : (0 : Int) < (1 : Int) := by decide
  clear hr2
  have HC := Aside0.mk hc2
  have HS := Aside0.mk (show 1 ≤ 8796093022200 by decide)
  have HN := Aside0.mk (show [s].length = 1 from rfl)
  clear hc2
  have bs : (st == 0) = false := beq_eq_false_iff_ne.2 hst
  go_enter Tryz.func43, Tryz.ntmps43
  go_upto_region 14 with (fail)
  obtain ⟨gc, hgc⟩ : ∃ gc, gc = w.heap.size + 1 := ⟨_, rfl⟩
  rw [← hgc]
  obtain ⟨W1, hW1⟩ : ∃ W1, W1 = (w.alloc (Obj.cells #[.int .i64 2, .string dst, .slice (some ad) 1 c2, .slice A3 0 c3, .int .i64 st] 24)).alloc (Obj.cells #[.int .i64 0, .string dst, .slice (some ad) 1 c2, .slice A3 0 c3, .int .i64 st] 24) := ⟨_, rfl⟩
  rw [← hW1]
  have hs1 : (w.alloc (Obj.cells #[.int .i64 2, .string dst, .slice (some ad) 1 c2, .slice A3 0 c3, .int .i64 st] 24)).heap.size = w.heap.size + 1 := by show (w.heap.push _).size = _; rw [Array.size_push]
  have hP1 : W1.heap[w.heap.size]? = some (.cells #[.int .i64 2, .string dst, .slice (some ad) 1 c2, .slice A3 0 c3, .int .i64 st] 24 (0, 0)) := by
    rw [hW1]
    show ((w.alloc (Obj.cells #[.int .i64 2, .string dst, .slice (some ad) 1 c2, .slice A3 0 c3, .int .i64 st] 24)).heap.push _)[w.heap.size]? = _
    rw [Array.getElem?_push_lt (by rw [hs1]; omega), ← Array.getElem?_eq_getElem]
    exact alloc_top w _
  have hR1 : W1.heap[gc]? = some (.cells #[.int .i64 0, .string dst, .slice (some ad) 1 c2, .slice A3 0 c3, .int .i64 st] 24 (0, 0)) := by
    rw [hW1, hgc, ← hs1]
    exact alloc_top (w.alloc (Obj.cells #[.int .i64 2, .string dst, .slice (some ad) 1 c2, .slice A3 0 c3, .int .i64 st] 24)) _
  have hB1 : Below w.heap.size w W1 := by
    rw [hW1]
    exact ((Below.refl w.heap.size w).alloc (Nat.le_refl _) _).alloc (by rw [hs1]; omega) _
  obtain ⟨x0, y0⟩ := box_cell (j := 0) hP1
  obtain ⟨x1, y1⟩ := box_cell (j := 1) hP1
  obtain ⟨x2, y2⟩ := box_cell (j := 2) hP1
  obtain ⟨x3, y3⟩ := box_cell (j := 3) hP1
  obtain ⟨x4, y4⟩ := box_cell (j := 4) hP1
  obtain ⟨u0, v0⟩ := box_cell (j := 0) hR1
  obtain ⟨u1, v1⟩ := box_cell (j := 1) hR1
  obtain ⟨u2, v2⟩ := box_cell (j := 2) hR1
  obtain ⟨u3, v3⟩ := box_cell (j := 3) hR1
  obtain ⟨u4, v4⟩ := box_cell (j := 4) hR1
  simp only [List.getElem?_toArray, List.getElem?_cons_zero, List.getElem?_cons_succ] at x0 x1 x2 x3 x4 u0 u1 u2 u3 u4
  have HP1 := Aside0.mk hP1
  have HR1 := Aside0.mk hR1
  have HB1 := Aside0.mk hB1
  have HGC := Aside0.mk hgc
  have hgne : (gc = w.heap.size) = False := eq_false (by omega)
  have hgne' : (w.heap.size = gc) = False := eq_false (by omega)
  clear hP1 hR1 hB1 hgc hs1 hW1
  go_wp2_with (first
    | (go_at_call 32; refine (HL _ _ _ _ _ HN.out HC.out HS.out (Kd.C_below HR.out HB1.out)).mono ?_; rintro e w3 ⟨A, c, rfl, ho, hb3⟩; have hP3 := (hb3.out.block w.heap.size (Array.getElem?_eq_some_iff.1 HP1.out).1).trans HP1.out; have hR3 := (hb3.out.block gc (Array.getElem?_eq_some_iff.1 HR1.out).1).trans HR1.out; clear x0 x1 x2 x3 x4 u0 u1 u2 u3 u4 y0 y1 y2 y3 y4 v0 v1 v2 v3 v4; obtain ⟨x0, y0⟩ := box_cell (j := 0) hP3; obtain ⟨x1, y1⟩ := box_cell (j := 1) hP3; obtain ⟨x2, y2⟩ := box_cell (j := 2) hP3; obtain ⟨x3, y3⟩ := box_cell (j := 3) hP3; obtain ⟨x4, y4⟩ := box_cell (j := 4) hP3; obtain ⟨u0, v0⟩ := box_cell (j := 0) hR3; obtain ⟨u1, v1⟩ := box_cell (j := 1) hR3; obtain ⟨u2, v2⟩ := box_cell (j := 2) hR3; obtain ⟨u3, v3⟩ := box_cell (j := 3) hR3; obtain ⟨u4, v4⟩ := box_cell (j := 4) hR3; simp only [List.getElem?_toArray, List.getElem?_cons_zero, List.getElem?_cons_succ] at x0 x1 x2 x3 x4 u0 u1 u2 u3 u4; clear hP3 hR3))
  have hB3 : Below w.heap.size w w3 := HB1.out.trans (hb3.out.mono HB1.out.size)
  have hgl : w.heap.size ≤ gc := by have := HGC.out; omega
  go_ret2
  exact ⟨rfl, by repeat (first | exact hB3 | refine Below.setCell ?_ hgl _)⟩
set_option maxHeartbeats 1000000 in
set_option maxRecDepth 100000 in
theorem of_2_wM (dst : ByteArray) (st : Int) (src : List ByteArray) (q : Nat) (A2 : Option Addr) (c2 : Nat) (A3 : Option Addr) (c3 : Nat) (w : World) (hr2 : Kd.C Kd.string w A2 src.length src) (hc2 : src.length ≤ c2) (hs2 : src.length ≤ 8796093022200) (h2 : src.length ≠ 1) (h3 : 0 < q) (HL : CloneOk) :
    Calls Tryz.prog 43 #[(.agg #[.int .i64 2, .string dst, .slice A2 src.length c2, .slice A3 q c3, .int .i64 st])] w fun e w' => e = .returned (.tuple #[.nilIface, .int .i64 160]) ∧ Below w.heap.size w w' := by
  have HR := Aside0.mk hr2
  have HC := Aside0.mk hc2
  have HS := Aside0.mk hs2
  clear hr2 hc2 hs2
  obtain ⟨m, hm⟩ : ∃ m, src.length = m := ⟨_, rfl⟩
  rw [hm] at HC HS h2
  have HN := Aside0.mk hm
  rw [hm]
  clear hm
  have b21 : ((m : Int) == 1) = false := beq_eq_false_iff_ne.2 (by omega)
  have b30 : decide ((q : Int) > 0) = true := decide_eq_true (by omega)
  go_enter Tryz.func43, Tryz.ntmps43
  go_upto_region 14 with (fail)
  obtain ⟨gc, hgc⟩ : ∃ gc, gc = w.heap.size + 1 := ⟨_, rfl⟩
  rw [← hgc]
  obtain ⟨W1, hW1⟩ : ∃ W1, W1 = (w.alloc (Obj.cells #[.int .i64 2, .string dst, .slice A2 m c2, .slice A3 q c3, .int .i64 st] 24)).alloc (Obj.cells #[.int .i64 0, .string dst, .slice A2 m c2, .slice A3 q c3, .int .i64 st] 24) := ⟨_, rfl⟩
  rw [← hW1]
  have hs1 : (w.alloc (Obj.cells #[.int .i64 2, .string dst, .slice A2 m c2, .slice A3 q c3, .int .i64 st] 24)).heap.size = w.heap.size + 1 := by show (w.heap.push _).size = _; rw [Array.size_push]
  have hP1 : W1.heap[w.heap.size]? = some (.cells #[.int .i64 2, .string dst, .slice A2 m c2, .slice A3 q c3, .int .i64 st] 24 (0, 0)) := by
    rw [hW1]
    show ((w.alloc (Obj.cells #[.int .i64 2, .string dst, .slice A2 m c2, .slice A3 q c3, .int .i64 st] 24)).heap.push _)[w.heap.size]? = _
    rw [Array.getElem?_push_lt (by rw [hs1]; omega), ← Array.getElem?_eq_getElem]
    exact alloc_top w _
  have hR1 : W1.heap[gc]? = some (.cells #[.int .i64 0, .string dst, .slice A2 m c2, .slice A3 q c3, .int .i64 st] 24 (0, 0)) := by
    rw [hW1, hgc, ← hs1]
    exact alloc_top (w.alloc (Obj.cells #[.int .i64 2, .string dst, .slice A2 m c2, .slice A3 q c3, .int .i64 st] 24)) _
  have hB1 : Below w.heap.size w W1 := by
    rw [hW1]
    exact ((Below.refl w.heap.size w).alloc (Nat.le_refl _) _).alloc (by rw [hs1]; omega) _
  obtain ⟨x0, y0⟩ := box_cell (j := 0) hP1
  obtain ⟨x1, y1⟩ := box_cell (j := 1) hP1
  obtain ⟨x2, y2⟩ := box_cell (j := 2) hP1
  obtain ⟨x3, y3⟩ := box_cell (j := 3) hP1
  obtain ⟨x4, y4⟩ := box_cell (j := 4) hP1
  obtain ⟨u0, v0⟩ := box_cell (j := 0) hR1
  obtain ⟨u1, v1⟩ := box_cell (j := 1) hR1
  obtain ⟨u2, v2⟩ := box_cell (j := 2) hR1
  obtain ⟨u3, v3⟩ := box_cell (j := 3) hR1
  obtain ⟨u4, v4⟩ := box_cell (j := 4) hR1
  simp only [List.getElem?_toArray, List.getElem?_cons_zero, List.getElem?_cons_succ] at x0 x1 x2 x3 x4 u0 u1 u2 u3 u4
  have HP1 := Aside0.mk hP1
  have HR1 := Aside0.mk hR1
  have HB1 := Aside0.mk hB1
  have HGC := Aside0.mk hgc
  have hgne : (gc = w.heap.size) = False := eq_false (by omega)
  have hgne' : (w.heap.size = gc) = False := eq_false (by omega)
  clear hP1 hR1 hB1 hgc hs1 hW1
  go_wp2_with (first
    | (go_at_call 32; refine (HL _ _ _ _ _ HN.out HC.out HS.out (Kd.C_below HR.out HB1.out)).mono ?_; rintro e w3 ⟨A, c, rfl, ho, hb3⟩; have hP3 := (hb3.out.block w.heap.size (Array.getElem?_eq_some_iff.1 HP1.out).1).trans HP1.out; have hR3 := (hb3.out.block gc (Array.getElem?_eq_some_iff.1 HR1.out).1).trans HR1.out; clear x0 x1 x2 x3 x4 u0 u1 u2 u3 u4 y0 y1 y2 y3 y4 v0 v1 v2 v3 v4; obtain ⟨x0, y0⟩ := box_cell (j := 0) hP3; obtain ⟨x1, y1⟩ := box_cell (j := 1) hP3; obtain ⟨x2, y2⟩ := box_cell (j := 2) hP3; obtain ⟨x3, y3⟩ := box_cell (j := 3) hP3; obtain ⟨x4, y4⟩ := box_cell (j := 4) hP3; obtain ⟨u0, v0⟩ := box_cell (j := 0) hR3; obtain ⟨u1, v1⟩ := box_cell (j := 1) hR3; obtain ⟨u2, v2⟩ := box_cell (j := 2) hR3; obtain ⟨u3, v3⟩ := box_cell (j := 3) hR3; obtain ⟨u4, v4⟩ := box_cell (j := 4) hR3; simp only [List.getElem?_toArray, List.getElem?_cons_zero, List.getElem?_cons_succ] at x0 x1 x2 x3 x4 u0 u1 u2 u3 u4; clear hP3 hR3))
  have hB3 : Below w.heap.size w w3 := HB1.out.trans (hb3.out.mono HB1.out.size)
  have hgl : w.heap.size ≤ gc := by have := HGC.out; omega
  go_ret2
  exact ⟨rfl, by repeat (first | exact hB3 | refine Below.setCell ?_ hgl _)⟩
set_option maxHeartbeats 1000000 in
set_option maxRecDepth 100000 in
theorem of_2_sM (dst : ByteArray) (st : Int) (src : List ByteArray) (A2 : Option Addr) (c2 : Nat) (A3 : Option Addr) (c3 : Nat) (w : World) (hr2 : Kd.C Kd.string w A2 src.length src) (hc2 : src.length ≤ c2) (hs2 : src.length ≤ 8796093022200) (h2 : src.length ≠ 1) (hst : st ≠ 0) (HL : CloneOk) :
    Calls Tryz.prog 43 #[(.agg #[.int .i64 2, .string dst, .slice A2 src.length c2, .slice A3 0 c3, .int .i64 st])] w fun e w' => e = .returned (.tuple #[.nilIface, .int .i64 160]) ∧ Below w.heap.size w w' := by
  have HR := Aside0.mk hr2
  have HC := Aside0.mk hc2
  have HS := Aside0.mk hs2
  clear hr2 hc2 hs2
  obtain ⟨m, hm⟩ : ∃ m, src.length = m := ⟨_, rfl⟩
  rw [hm] at HC HS h2
  have HN := Aside0.mk hm
  rw [hm]
  clear hm
  have b21 : ((m : Int) == 1) = false := beq_eq_false_iff_ne.2 (by omega)
  have bs : (st == 0) = false := beq_eq_false_iff_ne.2 hst
  go_enter Tryz.func43, Tryz.ntmps43
  go_upto_region 14 with (fail)
  obtain ⟨gc, hgc⟩ : ∃ gc, gc = w.heap.size + 1 := ⟨_, rfl⟩
  rw [← hgc]
  obtain ⟨W1, hW1⟩ : ∃ W1, W1 = (w.alloc (Obj.cells #[.int .i64 2, .string dst, .slice A2 m c2, .slice A3 0 c3, .int .i64 st] 24)).alloc (Obj.cells #[.int .i64 0, .string dst, .slice A2 m c2, .slice A3 0 c3, .int .i64 st] 24) := ⟨_, rfl⟩
  rw [← hW1]
  have hs1 : (w.alloc (Obj.cells #[.int .i64 2, .string dst, .slice A2 m c2, .slice A3 0 c3, .int .i64 st] 24)).heap.size = w.heap.size + 1 := by show (w.heap.push _).size = _; rw [Array.size_push]
  have hP1 : W1.heap[w.heap.size]? = some (.cells #[.int .i64 2, .string dst, .slice A2 m c2, .slice A3 0 c3, .int .i64 st] 24 (0, 0)) := by
    rw [hW1]
    show ((w.alloc (Obj.cells #[.int .i64 2, .string dst, .slice A2 m c2, .slice A3 0 c3, .int .i64 st] 24)).heap.push _)[w.heap.size]? = _
    rw [Array.getElem?_push_lt (by rw [hs1]; omega), ← Array.getElem?_eq_getElem]
    exact alloc_top w _
  have hR1 : W1.heap[gc]? = some (.cells #[.int .i64 0, .string dst, .slice A2 m c2, .slice A3 0 c3, .int .i64 st] 24 (0, 0)) := by
    rw [hW1, hgc, ← hs1]
    exact alloc_top (w.alloc (Obj.cells #[.int .i64 2, .string dst, .slice A2 m c2, .slice A3 0 c3, .int .i64 st] 24)) _
  have hB1 : Below w.heap.size w W1 := by
    rw [hW1]
    exact ((Below.refl w.heap.size w).alloc (Nat.le_refl _) _).alloc (by rw [hs1]; omega) _
  obtain ⟨x0, y0⟩ := box_cell (j := 0) hP1
  obtain ⟨x1, y1⟩ := box_cell (j := 1) hP1
  obtain ⟨x2, y2⟩ := box_cell (j := 2) hP1
  obtain ⟨x3, y3⟩ := box_cell (j := 3) hP1
  obtain ⟨x4, y4⟩ := box_cell (j := 4) hP1
  obtain ⟨u0, v0⟩ := box_cell (j := 0) hR1
  obtain ⟨u1, v1⟩ := box_cell (j := 1) hR1
  obtain ⟨u2, v2⟩ := box_cell (j := 2) hR1
  obtain ⟨u3, v3⟩ := box_cell (j := 3) hR1
  obtain ⟨u4, v4⟩ := box_cell (j := 4) hR1
  simp only [List.getElem?_toArray, List.getElem?_cons_zero, List.getElem?_cons_succ] at x0 x1 x2 x3 x4 u0 u1 u2 u3 u4
  have HP1 := Aside0.mk hP1
  have HR1 := Aside0.mk hR1
  have HB1 := Aside0.mk hB1
  have HGC := Aside0.mk hgc
  have hgne : (gc = w.heap.size) = False := eq_false (by omega)
  have hgne' : (w.heap.size = gc) = False := eq_false (by omega)
  clear hP1 hR1 hB1 hgc hs1 hW1
  go_wp2_with (first
    | (go_at_call 32; refine (HL _ _ _ _ _ HN.out HC.out HS.out (Kd.C_below HR.out HB1.out)).mono ?_; rintro e w3 ⟨A, c, rfl, ho, hb3⟩; have hP3 := (hb3.out.block w.heap.size (Array.getElem?_eq_some_iff.1 HP1.out).1).trans HP1.out; have hR3 := (hb3.out.block gc (Array.getElem?_eq_some_iff.1 HR1.out).1).trans HR1.out; clear x0 x1 x2 x3 x4 u0 u1 u2 u3 u4 y0 y1 y2 y3 y4 v0 v1 v2 v3 v4; obtain ⟨x0, y0⟩ := box_cell (j := 0) hP3; obtain ⟨x1, y1⟩ := box_cell (j := 1) hP3; obtain ⟨x2, y2⟩ := box_cell (j := 2) hP3; obtain ⟨x3, y3⟩ := box_cell (j := 3) hP3; obtain ⟨x4, y4⟩ := box_cell (j := 4) hP3; obtain ⟨u0, v0⟩ := box_cell (j := 0) hR3; obtain ⟨u1, v1⟩ := box_cell (j := 1) hR3; obtain ⟨u2, v2⟩ := box_cell (j := 2) hR3; obtain ⟨u3, v3⟩ := box_cell (j := 3) hR3; obtain ⟨u4, v4⟩ := box_cell (j := 4) hR3; simp only [List.getElem?_toArray, List.getElem?_cons_zero, List.getElem?_cons_succ] at x0 x1 x2 x3 x4 u0 u1 u2 u3 u4; clear hP3 hR3))
  have hB3 : Below w.heap.size w w3 := HB1.out.trans (hb3.out.mono HB1.out.size)
  have hgl : w.heap.size ≤ gc := by have := HGC.out; omega
  go_ret2
  exact ⟨rfl, by repeat (first | exact hB3 | refine Below.setCell ?_ hgl _)⟩
set_option maxHeartbeats 1000000 in
set_option maxRecDepth 100000 in
theorem of_3_n1 (dst : ByteArray) (st : Int) (s : ByteArray) (words : List ByteArray) (A2 : Option Addr) (c2 : Nat) (A3 : Option Addr) (c3 : Nat) (w : World) (hr2 : Kd.C Kd.string w A2 [s].length [s]) (hr3 : Kd.C Kd.string w A3 words.length words) (hc3 : words.length ≤ c3) (hs3 : words.length ≤ 8796093022200) (HL : CloneOk) :
    Calls Tryz.prog 43 #[(.agg #[.int .i64 3, .string dst, .slice A2 1 c2, .slice A3 words.length c3, .int .i64 st])] w fun e w' => e = .returned (.tuple #[.nilIface, .int .i64 160]) ∧ Below w.heap.size w w' := by
  have HR := Aside0.mk hr2
  obtain ⟨ad, rfl, hcell⟩ := c_first hr2
  have hlt := World.block_lt_of_cell? _ _ hcell
  have hnew := World.new_ne w ad hcell
  have q01 : (0 : Int) < (1 : Int) := by decide
  clear hr2
  have HR := Aside0.mk hr3
  have HC := Aside0.mk hc3
  have HS := Aside0.mk hs3
  clear hr3 hc3 hs3
  obtain ⟨m, hm⟩ : ∃ m, words.length = m := ⟨_, rfl⟩
  rw [hm] at HC HS
  have HN := Aside0.mk hm
  rw [hm]
  clear hm
  go_enter Tryz.func43, Tryz.ntmps43
  go_upto_region 18 with (fail)
  obtain ⟨gc, hgc⟩ : ∃ gc, gc = w.heap.size + 1 := ⟨_, rfl⟩
  rw [← hgc]
  obtain ⟨W1, hW1⟩ : ∃ W1, W1 = (w.alloc (Obj.cells #[.int .i64 3, .string dst, .slice (some ad) 1 c2, .slice A3 m c3, .int .i64 st] 24)).alloc (Obj.cells #[.int .i64 0, .string dst, .slice (some ad) 1 c2, .slice A3 m c3, .int .i64 st] 24) := ⟨_, rfl⟩
  rw [← hW1]
  have hs1 : (w.alloc (Obj.cells #[.int .i64 3, .string dst, .slice (some ad) 1 c2, .slice A3 m c3, .int .i64 st] 24)).heap.size = w.heap.size + 1 := by show (w.heap.push _).size = _; rw [Array.size_push]
  have hP1 : W1.heap[w.heap.size]? = some (.cells #[.int .i64 3, .string dst, .slice (some ad) 1 c2, .slice A3 m c3, .int .i64 st] 24 (0, 0)) := by
    rw [hW1]
    show ((w.alloc (Obj.cells #[.int .i64 3, .string dst, .slice (some ad) 1 c2, .slice A3 m c3, .int .i64 st] 24)).heap.push _)[w.heap.size]? = _
    rw [Array.getElem?_push_lt (by rw [hs1]; omega), ← Array.getElem?_eq_getElem]
    exact alloc_top w _
  have hR1 : W1.heap[gc]? = some (.cells #[.int .i64 0, .string dst, .slice (some ad) 1 c2, .slice A3 m c3, .int .i64 st] 24 (0, 0)) := by
    rw [hW1, hgc, ← hs1]
    exact alloc_top (w.alloc (Obj.cells #[.int .i64 3, .string dst, .slice (some ad) 1 c2, .slice A3 m c3, .int .i64 st] 24)) _
  have hB1 : Below w.heap.size w W1 := by
    rw [hW1]
    exact ((Below.refl w.heap.size w).alloc (Nat.le_refl _) _).alloc (by rw [hs1]; omega) _
  obtain ⟨x0, y0⟩ := box_cell (j := 0) hP1
  obtain ⟨x1, y1⟩ := box_cell (j := 1) hP1
  obtain ⟨x2, y2⟩ := box_cell (j := 2) hP1
  obtain ⟨x3, y3⟩ := box_cell (j := 3) hP1
  obtain ⟨x4, y4⟩ := box_cell (j := 4) hP1
  obtain ⟨u0, v0⟩ := box_cell (j := 0) hR1
  obtain ⟨u1, v1⟩ := box_cell (j := 1) hR1
  obtain ⟨u2, v2⟩ := box_cell (j := 2) hR1
  obtain ⟨u3, v3⟩ := box_cell (j := 3) hR1
  obtain ⟨u4, v4⟩ := box_cell (j := 4) hR1
  simp only [List.getElem?_toArray, List.getElem?_cons_zero, List.getElem?_cons_succ] at x0 x1 x2 x3 x4 u0 u1 u2 u3 u4
  have HP1 := Aside0.mk hP1
  have HR1 := Aside0.mk hR1
  have HB1 := Aside0.mk hB1
  have HGC := Aside0.mk hgc
  have hgne : (gc = w.heap.size) = False := eq_false (by omega)
  have hgne' : (w.heap.size = gc) = False := eq_false (by omega)
  clear hP1 hR1 hB1 hgc hs1 hW1
  go_wp2_with (first
    | (go_at_call 32; refine (HL _ _ _ _ _ HN.out HC.out HS.out (Kd.C_below HR.out HB1.out)).mono ?_; rintro e w3 ⟨A, c, rfl, ho, hb3⟩; have hP3 := (hb3.out.block w.heap.size (Array.getElem?_eq_some_iff.1 HP1.out).1).trans HP1.out; have hR3 := (hb3.out.block gc (Array.getElem?_eq_some_iff.1 HR1.out).1).trans HR1.out; clear x0 x1 x2 x3 x4 u0 u1 u2 u3 u4 y0 y1 y2 y3 y4 v0 v1 v2 v3 v4; obtain ⟨x0, y0⟩ := box_cell (j := 0) hP3; obtain ⟨x1, y1⟩ := box_cell (j := 1) hP3; obtain ⟨x2, y2⟩ := box_cell (j := 2) hP3; obtain ⟨x3, y3⟩ := box_cell (j := 3) hP3; obtain ⟨x4, y4⟩ := box_cell (j := 4) hP3; obtain ⟨u0, v0⟩ := box_cell (j := 0) hR3; obtain ⟨u1, v1⟩ := box_cell (j := 1) hR3; obtain ⟨u2, v2⟩ := box_cell (j := 2) hR3; obtain ⟨u3, v3⟩ := box_cell (j := 3) hR3; obtain ⟨u4, v4⟩ := box_cell (j := 4) hR3; simp only [List.getElem?_toArray, List.getElem?_cons_zero, List.getElem?_cons_succ] at x0 x1 x2 x3 x4 u0 u1 u2 u3 u4; clear hP3 hR3))
  have hB3 : Below w.heap.size w w3 := HB1.out.trans (hb3.out.mono HB1.out.size)
  have hgl : w.heap.size ≤ gc := by have := HGC.out; omega
  go_ret2
  exact ⟨rfl, by repeat (first | exact hB3 | refine Below.setCell ?_ hgl _)⟩
set_option maxHeartbeats 1000000 in
set_option maxRecDepth 100000 in
theorem of_3_nM (dst : ByteArray) (st : Int) (n : Nat) (words : List ByteArray) (A2 : Option Addr) (c2 : Nat) (A3 : Option Addr) (c3 : Nat) (w : World) (h2 : n ≠ 1) (h20 : n ≠ 0) (hr3 : Kd.C Kd.string w A3 words.length words) (hc3 : words.length ≤ c3) (hs3 : words.length ≤ 8796093022200) (HL : CloneOk) :
    Calls Tryz.prog 43 #[(.agg #[.int .i64 3, .string dst, .slice A2 n c2, .slice A3 words.length c3, .int .i64 st])] w fun e w' => e = .returned (.tuple #[.nilIface, .int .i64 160]) ∧ Below w.heap.size w w' := by
  have HR := Aside0.mk hr3
  have HC := Aside0.mk hc3
  have HS := Aside0.mk hs3
  clear hr3 hc3 hs3
  obtain ⟨m, hm⟩ : ∃ m, words.length = m := ⟨_, rfl⟩
  rw [hm] at HC HS
  have HN := Aside0.mk hm
  rw [hm]
  clear hm
  have b21 : ((n : Int) == 1) = false := beq_eq_false_iff_ne.2 (by omega)
  have b20 : ((n : Int) == 0) = false := beq_eq_false_iff_ne.2 (by omega)
  go_enter Tryz.func43, Tryz.ntmps43
  go_upto_region 18 with (fail)
  obtain ⟨gc, hgc⟩ : ∃ gc, gc = w.heap.size + 1 := ⟨_, rfl⟩
  rw [← hgc]
  obtain ⟨W1, hW1⟩ : ∃ W1, W1 = (w.alloc (Obj.cells #[.int .i64 3, .string dst, .slice A2 n c2, .slice A3 m c3, .int .i64 st] 24)).alloc (Obj.cells #[.int .i64 0, .string dst, .slice A2 n c2, .slice A3 m c3, .int .i64 st] 24) := ⟨_, rfl⟩
  rw [← hW1]
  have hs1 : (w.alloc (Obj.cells #[.int .i64 3, .string dst, .slice A2 n c2, .slice A3 m c3, .int .i64 st] 24)).heap.size = w.heap.size + 1 := by show (w.heap.push _).size = _; rw [Array.size_push]
  have hP1 : W1.heap[w.heap.size]? = some (.cells #[.int .i64 3, .string dst, .slice A2 n c2, .slice A3 m c3, .int .i64 st] 24 (0, 0)) := by
    rw [hW1]
    show ((w.alloc (Obj.cells #[.int .i64 3, .string dst, .slice A2 n c2, .slice A3 m c3, .int .i64 st] 24)).heap.push _)[w.heap.size]? = _
    rw [Array.getElem?_push_lt (by rw [hs1]; omega), ← Array.getElem?_eq_getElem]
    exact alloc_top w _
  have hR1 : W1.heap[gc]? = some (.cells #[.int .i64 0, .string dst, .slice A2 n c2, .slice A3 m c3, .int .i64 st] 24 (0, 0)) := by
    rw [hW1, hgc, ← hs1]
    exact alloc_top (w.alloc (Obj.cells #[.int .i64 3, .string dst, .slice A2 n c2, .slice A3 m c3, .int .i64 st] 24)) _
  have hB1 : Below w.heap.size w W1 := by
    rw [hW1]
    exact ((Below.refl w.heap.size w).alloc (Nat.le_refl _) _).alloc (by rw [hs1]; omega) _
  obtain ⟨x0, y0⟩ := box_cell (j := 0) hP1
  obtain ⟨x1, y1⟩ := box_cell (j := 1) hP1
  obtain ⟨x2, y2⟩ := box_cell (j := 2) hP1
  obtain ⟨x3, y3⟩ := box_cell (j := 3) hP1
  obtain ⟨x4, y4⟩ := box_cell (j := 4) hP1
  obtain ⟨u0, v0⟩ := box_cell (j := 0) hR1
  obtain ⟨u1, v1⟩ := box_cell (j := 1) hR1
  obtain ⟨u2, v2⟩ := box_cell (j := 2) hR1
  obtain ⟨u3, v3⟩ := box_cell (j := 3) hR1
  obtain ⟨u4, v4⟩ := box_cell (j := 4) hR1
  simp only [List.getElem?_toArray, List.getElem?_cons_zero, List.getElem?_cons_succ] at x0 x1 x2 x3 x4 u0 u1 u2 u3 u4
  have HP1 := Aside0.mk hP1
  have HR1 := Aside0.mk hR1
  have HB1 := Aside0.mk hB1
  have HGC := Aside0.mk hgc
  have hgne : (gc = w.heap.size) = False := eq_false (by omega)
  have hgne' : (w.heap.size = gc) = False := eq_false (by omega)
  clear hP1 hR1 hB1 hgc hs1 hW1
  go_wp2_with (first
    | (go_at_call 32; refine (HL _ _ _ _ _ HN.out HC.out HS.out (Kd.C_below HR.out HB1.out)).mono ?_; rintro e w3 ⟨A, c, rfl, ho, hb3⟩; have hP3 := (hb3.out.block w.heap.size (Array.getElem?_eq_some_iff.1 HP1.out).1).trans HP1.out; have hR3 := (hb3.out.block gc (Array.getElem?_eq_some_iff.1 HR1.out).1).trans HR1.out; clear x0 x1 x2 x3 x4 u0 u1 u2 u3 u4 y0 y1 y2 y3 y4 v0 v1 v2 v3 v4; obtain ⟨x0, y0⟩ := box_cell (j := 0) hP3; obtain ⟨x1, y1⟩ := box_cell (j := 1) hP3; obtain ⟨x2, y2⟩ := box_cell (j := 2) hP3; obtain ⟨x3, y3⟩ := box_cell (j := 3) hP3; obtain ⟨x4, y4⟩ := box_cell (j := 4) hP3; obtain ⟨u0, v0⟩ := box_cell (j := 0) hR3; obtain ⟨u1, v1⟩ := box_cell (j := 1) hR3; obtain ⟨u2, v2⟩ := box_cell (j := 2) hR3; obtain ⟨u3, v3⟩ := box_cell (j := 3) hR3; obtain ⟨u4, v4⟩ := box_cell (j := 4) hR3; simp only [List.getElem?_toArray, List.getElem?_cons_zero, List.getElem?_cons_succ] at x0 x1 x2 x3 x4 u0 u1 u2 u3 u4; clear hP3 hR3))
  have hB3 : Below w.heap.size w w3 := HB1.out.trans (hb3.out.mono HB1.out.size)
  have hgl : w.heap.size ≤ gc := by have := HGC.out; omega
  go_ret2
  exact ⟨rfl, by repeat (first | exact hB3 | refine Below.setCell ?_ hgl _)⟩
set_option maxHeartbeats 1000000 in
set_option maxRecDepth 100000 in
theorem of_3_s (dst : ByteArray) (st : Int) (words : List ByteArray) (A2 : Option Addr) (c2 : Nat) (A3 : Option Addr) (c3 : Nat) (w : World) (hr3 : Kd.C Kd.string w A3 words.length words) (hc3 : words.length ≤ c3) (hs3 : words.length ≤ 8796093022200) (hst : st ≠ 0) (HL : CloneOk) :
    Calls Tryz.prog 43 #[(.agg #[.int .i64 3, .string dst, .slice A2 0 c2, .slice A3 words.length c3, .int .i64 st])] w fun e w' => e = .returned (.tuple #[.nilIface, .int .i64 160]) ∧ Below w.heap.size w w' := by
  have HR := Aside0.mk hr3
  have HC := Aside0.mk hc3
  have HS := Aside0.mk hs3
  clear hr3 hc3 hs3
  obtain ⟨m, hm⟩ : ∃ m, words.length = m := ⟨_, rfl⟩
  rw [hm] at HC HS
  have HN := Aside0.mk hm
  rw [hm]
  clear hm
  have bs : (st == 0) = false := beq_eq_false_iff_ne.2 hst
  go_enter Tryz.func43, Tryz.ntmps43
  go_upto_region 18 with (fail)
  obtain ⟨gc, hgc⟩ : ∃ gc, gc = w.heap.size + 1 := ⟨_, rfl⟩
  rw [← hgc]
  obtain ⟨W1, hW1⟩ : ∃ W1, W1 = (w.alloc (Obj.cells #[.int .i64 3, .string dst, .slice A2 0 c2, .slice A3 m c3, .int .i64 st] 24)).alloc (Obj.cells #[.int .i64 0, .string dst, .slice A2 0 c2, .slice A3 m c3, .int .i64 st] 24) := ⟨_, rfl⟩
  rw [← hW1]
  have hs1 : (w.alloc (Obj.cells #[.int .i64 3, .string dst, .slice A2 0 c2, .slice A3 m c3, .int .i64 st] 24)).heap.size = w.heap.size + 1 := by show (w.heap.push _).size = _; rw [Array.size_push]
  have hP1 : W1.heap[w.heap.size]? = some (.cells #[.int .i64 3, .string dst, .slice A2 0 c2, .slice A3 m c3, .int .i64 st] 24 (0, 0)) := by
    rw [hW1]
    show ((w.alloc (Obj.cells #[.int .i64 3, .string dst, .slice A2 0 c2, .slice A3 m c3, .int .i64 st] 24)).heap.push _)[w.heap.size]? = _
    rw [Array.getElem?_push_lt (by rw [hs1]; omega), ← Array.getElem?_eq_getElem]
    exact alloc_top w _
  have hR1 : W1.heap[gc]? = some (.cells #[.int .i64 0, .string dst, .slice A2 0 c2, .slice A3 m c3, .int .i64 st] 24 (0, 0)) := by
    rw [hW1, hgc, ← hs1]
    exact alloc_top (w.alloc (Obj.cells #[.int .i64 3, .string dst, .slice A2 0 c2, .slice A3 m c3, .int .i64 st] 24)) _
  have hB1 : Below w.heap.size w W1 := by
    rw [hW1]
    exact ((Below.refl w.heap.size w).alloc (Nat.le_refl _) _).alloc (by rw [hs1]; omega) _
  obtain ⟨x0, y0⟩ := box_cell (j := 0) hP1
  obtain ⟨x1, y1⟩ := box_cell (j := 1) hP1
  obtain ⟨x2, y2⟩ := box_cell (j := 2) hP1
  obtain ⟨x3, y3⟩ := box_cell (j := 3) hP1
  obtain ⟨x4, y4⟩ := box_cell (j := 4) hP1
  obtain ⟨u0, v0⟩ := box_cell (j := 0) hR1
  obtain ⟨u1, v1⟩ := box_cell (j := 1) hR1
  obtain ⟨u2, v2⟩ := box_cell (j := 2) hR1
  obtain ⟨u3, v3⟩ := box_cell (j := 3) hR1
  obtain ⟨u4, v4⟩ := box_cell (j := 4) hR1
  simp only [List.getElem?_toArray, List.getElem?_cons_zero, List.getElem?_cons_succ] at x0 x1 x2 x3 x4 u0 u1 u2 u3 u4
  have HP1 := Aside0.mk hP1
  have HR1 := Aside0.mk hR1
  have HB1 := Aside0.mk hB1
  have HGC := Aside0.mk hgc
  have hgne : (gc = w.heap.size) = False := eq_false (by omega)
  have hgne' : (w.heap.size = gc) = False := eq_false (by omega)
  clear hP1 hR1 hB1 hgc hs1 hW1
  go_wp2_with (first
    | (go_at_call 32; refine (HL _ _ _ _ _ HN.out HC.out HS.out (Kd.C_below HR.out HB1.out)).mono ?_; rintro e w3 ⟨A, c, rfl, ho, hb3⟩; have hP3 := (hb3.out.block w.heap.size (Array.getElem?_eq_some_iff.1 HP1.out).1).trans HP1.out; have hR3 := (hb3.out.block gc (Array.getElem?_eq_some_iff.1 HR1.out).1).trans HR1.out; clear x0 x1 x2 x3 x4 u0 u1 u2 u3 u4 y0 y1 y2 y3 y4 v0 v1 v2 v3 v4; obtain ⟨x0, y0⟩ := box_cell (j := 0) hP3; obtain ⟨x1, y1⟩ := box_cell (j := 1) hP3; obtain ⟨x2, y2⟩ := box_cell (j := 2) hP3; obtain ⟨x3, y3⟩ := box_cell (j := 3) hP3; obtain ⟨x4, y4⟩ := box_cell (j := 4) hP3; obtain ⟨u0, v0⟩ := box_cell (j := 0) hR3; obtain ⟨u1, v1⟩ := box_cell (j := 1) hR3; obtain ⟨u2, v2⟩ := box_cell (j := 2) hR3; obtain ⟨u3, v3⟩ := box_cell (j := 3) hR3; obtain ⟨u4, v4⟩ := box_cell (j := 4) hR3; simp only [List.getElem?_toArray, List.getElem?_cons_zero, List.getElem?_cons_succ] at x0 x1 x2 x3 x4 u0 u1 u2 u3 u4; clear hP3 hR3))
  have hB3 : Below w.heap.size w w3 := HB1.out.trans (hb3.out.mono HB1.out.size)
  have hgl : w.heap.size ≤ gc := by have := HGC.out; omega
  go_ret2
  exact ⟨rfl, by repeat (first | exact hB3 | refine Below.setCell ?_ hgl _)⟩
set_option maxHeartbeats 1000000 in
set_option maxRecDepth 100000 in
theorem of_8_n1 (dst : ByteArray) (st : Int) (s : ByteArray) (words : List ByteArray) (A2 : Option Addr) (c2 : Nat) (A3 : Option Addr) (c3 : Nat) (w : World) (hr2 : Kd.C Kd.string w A2 [s].length [s]) (hr3 : Kd.C Kd.string w A3 words.length words) (hc3 : words.length ≤ c3) (hs3 : words.length ≤ 8796093022200) (HL : CloneOk) :
    Calls Tryz.prog 43 #[(.agg #[.int .i64 8, .string dst, .slice A2 1 c2, .slice A3 words.length c3, .int .i64 st])] w fun e w' => e = .returned (.tuple #[.nilIface, .int .i64 160]) ∧ Below w.heap.size w w' := by
  have HR := Aside0.mk hr2
  obtain ⟨ad, rfl, hcell⟩ := c_first hr2
  have hlt := World.block_lt_of_cell? _ _ hcell
  have hnew := World.new_ne w ad hcell
  have q01 : (0 : Int) < (1 : Int) := by decide
  clear hr2
  have HR := Aside0.mk hr3
  have HC := Aside0.mk hc3
  have HS := Aside0.mk hs3
  clear hr3 hc3 hs3
  obtain ⟨m, hm⟩ : ∃ m, words.length = m := ⟨_, rfl⟩
  rw [hm] at HC HS
  have HN := Aside0.mk hm
  rw [hm]
  clear hm
  go_enter Tryz.func43, Tryz.ntmps43
  go_upto_region 37 with (fail)
  obtain ⟨gc, hgc⟩ : ∃ gc, gc = w.heap.size + 1 := ⟨_, rfl⟩
  rw [← hgc]
  obtain ⟨W1, hW1⟩ : ∃ W1, W1 = (w.alloc (Obj.cells #[.int .i64 8, .string dst, .slice (some ad) 1 c2, .slice A3 m c3, .int .i64 st] 24)).alloc (Obj.cells #[.int .i64 0, .string dst, .slice (some ad) 1 c2, .slice A3 m c3, .int .i64 st] 24) := ⟨_, rfl⟩
  rw [← hW1]
  have hs1 : (w.alloc (Obj.cells #[.int .i64 8, .string dst, .slice (some ad) 1 c2, .slice A3 m c3, .int .i64 st] 24)).heap.size = w.heap.size + 1 := by show (w.heap.push _).size = _; rw [Array.size_push]
  have hP1 : W1.heap[w.heap.size]? = some (.cells #[.int .i64 8, .string dst, .slice (some ad) 1 c2, .slice A3 m c3, .int .i64 st] 24 (0, 0)) := by
    rw [hW1]
    show ((w.alloc (Obj.cells #[.int .i64 8, .string dst, .slice (some ad) 1 c2, .slice A3 m c3, .int .i64 st] 24)).heap.push _)[w.heap.size]? = _
    rw [Array.getElem?_push_lt (by rw [hs1]; omega), ← Array.getElem?_eq_getElem]
    exact alloc_top w _
  have hR1 : W1.heap[gc]? = some (.cells #[.int .i64 0, .string dst, .slice (some ad) 1 c2, .slice A3 m c3, .int .i64 st] 24 (0, 0)) := by
    rw [hW1, hgc, ← hs1]
    exact alloc_top (w.alloc (Obj.cells #[.int .i64 8, .string dst, .slice (some ad) 1 c2, .slice A3 m c3, .int .i64 st] 24)) _
  have hB1 : Below w.heap.size w W1 := by
    rw [hW1]
    exact ((Below.refl w.heap.size w).alloc (Nat.le_refl _) _).alloc (by rw [hs1]; omega) _
  obtain ⟨x0, y0⟩ := box_cell (j := 0) hP1
  obtain ⟨x1, y1⟩ := box_cell (j := 1) hP1
  obtain ⟨x2, y2⟩ := box_cell (j := 2) hP1
  obtain ⟨x3, y3⟩ := box_cell (j := 3) hP1
  obtain ⟨x4, y4⟩ := box_cell (j := 4) hP1
  obtain ⟨u0, v0⟩ := box_cell (j := 0) hR1
  obtain ⟨u1, v1⟩ := box_cell (j := 1) hR1
  obtain ⟨u2, v2⟩ := box_cell (j := 2) hR1
  obtain ⟨u3, v3⟩ := box_cell (j := 3) hR1
  obtain ⟨u4, v4⟩ := box_cell (j := 4) hR1
  simp only [List.getElem?_toArray, List.getElem?_cons_zero, List.getElem?_cons_succ] at x0 x1 x2 x3 x4 u0 u1 u2 u3 u4
  have HP1 := Aside0.mk hP1
  have HR1 := Aside0.mk hR1
  have HB1 := Aside0.mk hB1
  have HGC := Aside0.mk hgc
  have hgne : (gc = w.heap.size) = False := eq_false (by omega)
  have hgne' : (w.heap.size = gc) = False := eq_false (by omega)
  clear hP1 hR1 hB1 hgc hs1 hW1
  go_wp2_with (first
    | (go_at_call 32; refine (HL _ _ _ _ _ HN.out HC.out HS.out (Kd.C_below HR.out HB1.out)).mono ?_; rintro e w3 ⟨A, c, rfl, ho, hb3⟩; have hP3 := (hb3.out.block w.heap.size (Array.getElem?_eq_some_iff.1 HP1.out).1).trans HP1.out; have hR3 := (hb3.out.block gc (Array.getElem?_eq_some_iff.1 HR1.out).1).trans HR1.out; clear x0 x1 x2 x3 x4 u0 u1 u2 u3 u4 y0 y1 y2 y3 y4 v0 v1 v2 v3 v4; obtain ⟨x0, y0⟩ := box_cell (j := 0) hP3; obtain ⟨x1, y1⟩ := box_cell (j := 1) hP3; obtain ⟨x2, y2⟩ := box_cell (j := 2) hP3; obtain ⟨x3, y3⟩ := box_cell (j := 3) hP3; obtain ⟨x4, y4⟩ := box_cell (j := 4) hP3; obtain ⟨u0, v0⟩ := box_cell (j := 0) hR3; obtain ⟨u1, v1⟩ := box_cell (j := 1) hR3; obtain ⟨u2, v2⟩ := box_cell (j := 2) hR3; obtain ⟨u3, v3⟩ := box_cell (j := 3) hR3; obtain ⟨u4, v4⟩ := box_cell (j := 4) hR3; simp only [List.getElem?_toArray, List.getElem?_cons_zero, List.getElem?_cons_succ] at x0 x1 x2 x3 x4 u0 u1 u2 u3 u4; clear hP3 hR3))
  have hB3 : Below w.heap.size w w3 := HB1.out.trans (hb3.out.mono HB1.out.size)
  have hgl : w.heap.size ≤ gc := by have := HGC.out; omega
  go_ret2
  exact ⟨rfl, by repeat (first | exact hB3 | refine Below.setCell ?_ hgl _)⟩
set_option maxHeartbeats 1000000 in
set_option maxRecDepth 100000 in
theorem of_8_nM (dst : ByteArray) (st : Int) (n : Nat) (words : List ByteArray) (A2 : Option Addr) (c2 : Nat) (A3 : Option Addr) (c3 : Nat) (w : World) (h2 : n ≠ 1) (h20 : n ≠ 0) (hr3 : Kd.C Kd.string w A3 words.length words) (hc3 : words.length ≤ c3) (hs3 : words.length ≤ 8796093022200) (HL : CloneOk) :
    Calls Tryz.prog 43 #[(.agg #[.int .i64 8, .string dst, .slice A2 n c2, .slice A3 words.length c3, .int .i64 st])] w fun e w' => e = .returned (.tuple #[.nilIface, .int .i64 160]) ∧ Below w.heap.size w w' := by
  have HR := Aside0.mk hr3
  have HC := Aside0.mk hc3
  have HS := Aside0.mk hs3
  clear hr3 hc3 hs3
  obtain ⟨m, hm⟩ : ∃ m, words.length = m := ⟨_, rfl⟩
  rw [hm] at HC HS
  have HN := Aside0.mk hm
  rw [hm]
  clear hm
  have b21 : ((n : Int) == 1) = false := beq_eq_false_iff_ne.2 (by omega)
  have b20 : ((n : Int) == 0) = false := beq_eq_false_iff_ne.2 (by omega)
  go_enter Tryz.func43, Tryz.ntmps43
  go_upto_region 37 with (fail)
  obtain ⟨gc, hgc⟩ : ∃ gc, gc = w.heap.size + 1 := ⟨_, rfl⟩
  rw [← hgc]
  obtain ⟨W1, hW1⟩ : ∃ W1, W1 = (w.alloc (Obj.cells #[.int .i64 8, .string dst, .slice A2 n c2, .slice A3 m c3, .int .i64 st] 24)).alloc (Obj.cells #[.int .i64 0, .string dst, .slice A2 n c2, .slice A3 m c3, .int .i64 st] 24) := ⟨_, rfl⟩
  rw [← hW1]
  have hs1 : (w.alloc (Obj.cells #[.int .i64 8, .string dst, .slice A2 n c2, .slice A3 m c3, .int .i64 st] 24)).heap.size = w.heap.size + 1 := by show (w.heap.push _).size = _; rw [Array.size_push]
  have hP1 : W1.heap[w.heap.size]? = some (.cells #[.int .i64 8, .string dst, .slice A2 n c2, .slice A3 m c3, .int .i64 st] 24 (0, 0)) := by
    rw [hW1]
    show ((w.alloc (Obj.cells #[.int .i64 8, .string dst, .slice A2 n c2, .slice A3 m c3, .int .i64 st] 24)).heap.push _)[w.heap.size]? = _
    rw [Array.getElem?_push_lt (by rw [hs1]; omega), ← Array.getElem?_eq_getElem]
    exact alloc_top w _
  have hR1 : W1.heap[gc]? = some (.cells #[.int .i64 0, .string dst, .slice A2 n c2, .slice A3 m c3, .int .i64 st] 24 (0, 0)) := by
    rw [hW1, hgc, ← hs1]
    exact alloc_top (w.alloc (Obj.cells #[.int .i64 8, .string dst, .slice A2 n c2, .slice A3 m c3, .int .i64 st] 24)) _
  have hB1 : Below w.heap.size w W1 := by
    rw [hW1]
    exact ((Below.refl w.heap.size w).alloc (Nat.le_refl _) _).alloc (by rw [hs1]; omega) _
  obtain ⟨x0, y0⟩ := box_cell (j := 0) hP1
  obtain ⟨x1, y1⟩ := box_cell (j := 1) hP1
  obtain ⟨x2, y2⟩ := box_cell (j := 2) hP1
  obtain ⟨x3, y3⟩ := box_cell (j := 3) hP1
  obtain ⟨x4, y4⟩ := box_cell (j := 4) hP1
  obtain ⟨u0, v0⟩ := box_cell (j := 0) hR1
  obtain ⟨u1, v1⟩ := box_cell (j := 1) hR1
  obtain ⟨u2, v2⟩ := box_cell (j := 2) hR1
  obtain ⟨u3, v3⟩ := box_cell (j := 3) hR1
  obtain ⟨u4, v4⟩ := box_cell (j := 4) hR1
  simp only [List.getElem?_toArray, List.getElem?_cons_zero, List.getElem?_cons_succ] at x0 x1 x2 x3 x4 u0 u1 u2 u3 u4
  have HP1 := Aside0.mk hP1
  have HR1 := Aside0.mk hR1
  have HB1 := Aside0.mk hB1
  have HGC := Aside0.mk hgc
  have hgne : (gc = w.heap.size) = False := eq_false (by omega)
  have hgne' : (w.heap.size = gc) = False := eq_false (by omega)
  clear hP1 hR1 hB1 hgc hs1 hW1
  go_wp2_with (first
    | (go_at_call 32; refine (HL _ _ _ _ _ HN.out HC.out HS.out (Kd.C_below HR.out HB1.out)).mono ?_; rintro e w3 ⟨A, c, rfl, ho, hb3⟩; have hP3 := (hb3.out.block w.heap.size (Array.getElem?_eq_some_iff.1 HP1.out).1).trans HP1.out; have hR3 := (hb3.out.block gc (Array.getElem?_eq_some_iff.1 HR1.out).1).trans HR1.out; clear x0 x1 x2 x3 x4 u0 u1 u2 u3 u4 y0 y1 y2 y3 y4 v0 v1 v2 v3 v4; obtain ⟨x0, y0⟩ := box_cell (j := 0) hP3; obtain ⟨x1, y1⟩ := box_cell (j := 1) hP3; obtain ⟨x2, y2⟩ := box_cell (j := 2) hP3; obtain ⟨x3, y3⟩ := box_cell (j := 3) hP3; obtain ⟨x4, y4⟩ := box_cell (j := 4) hP3; obtain ⟨u0, v0⟩ := box_cell (j := 0) hR3; obtain ⟨u1, v1⟩ := box_cell (j := 1) hR3; obtain ⟨u2, v2⟩ := box_cell (j := 2) hR3; obtain ⟨u3, v3⟩ := box_cell (j := 3) hR3; obtain ⟨u4, v4⟩ := box_cell (j := 4) hR3; simp only [List.getElem?_toArray, List.getElem?_cons_zero, List.getElem?_cons_succ] at x0 x1 x2 x3 x4 u0 u1 u2 u3 u4; clear hP3 hR3))
  have hB3 : Below w.heap.size w w3 := HB1.out.trans (hb3.out.mono HB1.out.size)
  have hgl : w.heap.size ≤ gc := by have := HGC.out; omega
  go_ret2
  exact ⟨rfl, by repeat (first | exact hB3 | refine Below.setCell ?_ hgl _)⟩
set_option maxHeartbeats 1000000 in
set_option maxRecDepth 100000 in
theorem of_8_d (dst : ByteArray) (st : Int) (words : List ByteArray) (A2 : Option Addr) (c2 : Nat) (A3 : Option Addr) (c3 : Nat) (w : World) (hr3 : Kd.C Kd.string w A3 words.length words) (hc3 : words.length ≤ c3) (hs3 : words.length ≤ 8796093022200) (hdst : dst ≠ ByteArray.empty) (HL : CloneOk) :
    Calls Tryz.prog 43 #[(.agg #[.int .i64 8, .string dst, .slice A2 0 c2, .slice A3 words.length c3, .int .i64 st])] w fun e w' => e = .returned (.tuple #[.nilIface, .int .i64 160]) ∧ Below w.heap.size w w' := by
  have HR := Aside0.mk hr3
  have HC := Aside0.mk hc3
  have HS := Aside0.mk hs3
  clear hr3 hc3 hs3
  obtain ⟨m, hm⟩ : ∃ m, words.length = m := ⟨_, rfl⟩
  rw [hm] at HC HS
  have HN := Aside0.mk hm
  rw [hm]
  clear hm
  have bd : (dst.toList == []) = false := dst_ne hdst
  go_enter Tryz.func43, Tryz.ntmps43
  go_upto_region 37 with (fail)
  obtain ⟨gc, hgc⟩ : ∃ gc, gc = w.heap.size + 1 := ⟨_, rfl⟩
  rw [← hgc]
  obtain ⟨W1, hW1⟩ : ∃ W1, W1 = (w.alloc (Obj.cells #[.int .i64 8, .string dst, .slice A2 0 c2, .slice A3 m c3, .int .i64 st] 24)).alloc (Obj.cells #[.int .i64 0, .string dst, .slice A2 0 c2, .slice A3 m c3, .int .i64 st] 24) := ⟨_, rfl⟩
  rw [← hW1]
  have hs1 : (w.alloc (Obj.cells #[.int .i64 8, .string dst, .slice A2 0 c2, .slice A3 m c3, .int .i64 st] 24)).heap.size = w.heap.size + 1 := by show (w.heap.push _).size = _; rw [Array.size_push]
  have hP1 : W1.heap[w.heap.size]? = some (.cells #[.int .i64 8, .string dst, .slice A2 0 c2, .slice A3 m c3, .int .i64 st] 24 (0, 0)) := by
    rw [hW1]
    show ((w.alloc (Obj.cells #[.int .i64 8, .string dst, .slice A2 0 c2, .slice A3 m c3, .int .i64 st] 24)).heap.push _)[w.heap.size]? = _
    rw [Array.getElem?_push_lt (by rw [hs1]; omega), ← Array.getElem?_eq_getElem]
    exact alloc_top w _
  have hR1 : W1.heap[gc]? = some (.cells #[.int .i64 0, .string dst, .slice A2 0 c2, .slice A3 m c3, .int .i64 st] 24 (0, 0)) := by
    rw [hW1, hgc, ← hs1]
    exact alloc_top (w.alloc (Obj.cells #[.int .i64 8, .string dst, .slice A2 0 c2, .slice A3 m c3, .int .i64 st] 24)) _
  have hB1 : Below w.heap.size w W1 := by
    rw [hW1]
    exact ((Below.refl w.heap.size w).alloc (Nat.le_refl _) _).alloc (by rw [hs1]; omega) _
  obtain ⟨x0, y0⟩ := box_cell (j := 0) hP1
  obtain ⟨x1, y1⟩ := box_cell (j := 1) hP1
  obtain ⟨x2, y2⟩ := box_cell (j := 2) hP1
  obtain ⟨x3, y3⟩ := box_cell (j := 3) hP1
  obtain ⟨x4, y4⟩ := box_cell (j := 4) hP1
  obtain ⟨u0, v0⟩ := box_cell (j := 0) hR1
  obtain ⟨u1, v1⟩ := box_cell (j := 1) hR1
  obtain ⟨u2, v2⟩ := box_cell (j := 2) hR1
  obtain ⟨u3, v3⟩ := box_cell (j := 3) hR1
  obtain ⟨u4, v4⟩ := box_cell (j := 4) hR1
  simp only [List.getElem?_toArray, List.getElem?_cons_zero, List.getElem?_cons_succ] at x0 x1 x2 x3 x4 u0 u1 u2 u3 u4
  have HP1 := Aside0.mk hP1
  have HR1 := Aside0.mk hR1
  have HB1 := Aside0.mk hB1
  have HGC := Aside0.mk hgc
  have hgne : (gc = w.heap.size) = False := eq_false (by omega)
  have hgne' : (w.heap.size = gc) = False := eq_false (by omega)
  clear hP1 hR1 hB1 hgc hs1 hW1
  go_wp2_with (first
    | (go_at_call 32; refine (HL _ _ _ _ _ HN.out HC.out HS.out (Kd.C_below HR.out HB1.out)).mono ?_; rintro e w3 ⟨A, c, rfl, ho, hb3⟩; have hP3 := (hb3.out.block w.heap.size (Array.getElem?_eq_some_iff.1 HP1.out).1).trans HP1.out; have hR3 := (hb3.out.block gc (Array.getElem?_eq_some_iff.1 HR1.out).1).trans HR1.out; clear x0 x1 x2 x3 x4 u0 u1 u2 u3 u4 y0 y1 y2 y3 y4 v0 v1 v2 v3 v4; obtain ⟨x0, y0⟩ := box_cell (j := 0) hP3; obtain ⟨x1, y1⟩ := box_cell (j := 1) hP3; obtain ⟨x2, y2⟩ := box_cell (j := 2) hP3; obtain ⟨x3, y3⟩ := box_cell (j := 3) hP3; obtain ⟨x4, y4⟩ := box_cell (j := 4) hP3; obtain ⟨u0, v0⟩ := box_cell (j := 0) hR3; obtain ⟨u1, v1⟩ := box_cell (j := 1) hR3; obtain ⟨u2, v2⟩ := box_cell (j := 2) hR3; obtain ⟨u3, v3⟩ := box_cell (j := 3) hR3; obtain ⟨u4, v4⟩ := box_cell (j := 4) hR3; simp only [List.getElem?_toArray, List.getElem?_cons_zero, List.getElem?_cons_succ] at x0 x1 x2 x3 x4 u0 u1 u2 u3 u4; clear hP3 hR3))
  have hB3 : Below w.heap.size w w3 := HB1.out.trans (hb3.out.mono HB1.out.size)
  have hgl : w.heap.size ≤ gc := by have := HGC.out; omega
  go_ret2
  exact ⟨rfl, by repeat (first | exact hB3 | refine Below.setCell ?_ hgl _)⟩
set_option maxHeartbeats 1000000 in
set_option maxRecDepth 100000 in
theorem of_8_s (st : Int) (words : List ByteArray) (A2 : Option Addr) (c2 : Nat) (A3 : Option Addr) (c3 : Nat) (w : World) (hr3 : Kd.C Kd.string w A3 words.length words) (hc3 : words.length ≤ c3) (hs3 : words.length ≤ 8796093022200) (hst : st ≠ 0) (HL : CloneOk) :
    Calls Tryz.prog 43 #[(.agg #[.int .i64 8, .string ⟨#[]⟩, .slice A2 0 c2, .slice A3 words.length c3, .int .i64 st])] w fun e w' => e = .returned (.tuple #[.nilIface, .int .i64 160]) ∧ Below w.heap.size w w' := by
  have HR := Aside0.mk hr3
  have HC := Aside0.mk hc3
  have HS := Aside0.mk hs3
  clear hr3 hc3 hs3
  obtain ⟨m, hm⟩ : ∃ m, words.length = m := ⟨_, rfl⟩
  rw [hm] at HC HS
  have HN := Aside0.mk hm
  rw [hm]
  clear hm
  have bs : (st == 0) = false := beq_eq_false_iff_ne.2 hst
  go_enter Tryz.func43, Tryz.ntmps43
  go_upto_region 37 with (fail)
  obtain ⟨gc, hgc⟩ : ∃ gc, gc = w.heap.size + 1 := ⟨_, rfl⟩
  rw [← hgc]
  obtain ⟨W1, hW1⟩ : ∃ W1, W1 = (w.alloc (Obj.cells #[.int .i64 8, .string ⟨#[]⟩, .slice A2 0 c2, .slice A3 m c3, .int .i64 st] 24)).alloc (Obj.cells #[.int .i64 0, .string ⟨#[]⟩, .slice A2 0 c2, .slice A3 m c3, .int .i64 st] 24) := ⟨_, rfl⟩
  rw [← hW1]
  have hs1 : (w.alloc (Obj.cells #[.int .i64 8, .string ⟨#[]⟩, .slice A2 0 c2, .slice A3 m c3, .int .i64 st] 24)).heap.size = w.heap.size + 1 := by show (w.heap.push _).size = _; rw [Array.size_push]
  have hP1 : W1.heap[w.heap.size]? = some (.cells #[.int .i64 8, .string ⟨#[]⟩, .slice A2 0 c2, .slice A3 m c3, .int .i64 st] 24 (0, 0)) := by
    rw [hW1]
    show ((w.alloc (Obj.cells #[.int .i64 8, .string ⟨#[]⟩, .slice A2 0 c2, .slice A3 m c3, .int .i64 st] 24)).heap.push _)[w.heap.size]? = _
    rw [Array.getElem?_push_lt (by rw [hs1]; omega), ← Array.getElem?_eq_getElem]
    exact alloc_top w _
  have hR1 : W1.heap[gc]? = some (.cells #[.int .i64 0, .string ⟨#[]⟩, .slice A2 0 c2, .slice A3 m c3, .int .i64 st] 24 (0, 0)) := by
    rw [hW1, hgc, ← hs1]
    exact alloc_top (w.alloc (Obj.cells #[.int .i64 8, .string ⟨#[]⟩, .slice A2 0 c2, .slice A3 m c3, .int .i64 st] 24)) _
  have hB1 : Below w.heap.size w W1 := by
    rw [hW1]
    exact ((Below.refl w.heap.size w).alloc (Nat.le_refl _) _).alloc (by rw [hs1]; omega) _
  obtain ⟨x0, y0⟩ := box_cell (j := 0) hP1
  obtain ⟨x1, y1⟩ := box_cell (j := 1) hP1
  obtain ⟨x2, y2⟩ := box_cell (j := 2) hP1
  obtain ⟨x3, y3⟩ := box_cell (j := 3) hP1
  obtain ⟨x4, y4⟩ := box_cell (j := 4) hP1
  obtain ⟨u0, v0⟩ := box_cell (j := 0) hR1
  obtain ⟨u1, v1⟩ := box_cell (j := 1) hR1
  obtain ⟨u2, v2⟩ := box_cell (j := 2) hR1
  obtain ⟨u3, v3⟩ := box_cell (j := 3) hR1
  obtain ⟨u4, v4⟩ := box_cell (j := 4) hR1
  simp only [List.getElem?_toArray, List.getElem?_cons_zero, List.getElem?_cons_succ] at x0 x1 x2 x3 x4 u0 u1 u2 u3 u4
  have HP1 := Aside0.mk hP1
  have HR1 := Aside0.mk hR1
  have HB1 := Aside0.mk hB1
  have HGC := Aside0.mk hgc
  have hgne : (gc = w.heap.size) = False := eq_false (by omega)
  have hgne' : (w.heap.size = gc) = False := eq_false (by omega)
  clear hP1 hR1 hB1 hgc hs1 hW1
  go_wp2_with (first
    | (go_at_call 32; refine (HL _ _ _ _ _ HN.out HC.out HS.out (Kd.C_below HR.out HB1.out)).mono ?_; rintro e w3 ⟨A, c, rfl, ho, hb3⟩; have hP3 := (hb3.out.block w.heap.size (Array.getElem?_eq_some_iff.1 HP1.out).1).trans HP1.out; have hR3 := (hb3.out.block gc (Array.getElem?_eq_some_iff.1 HR1.out).1).trans HR1.out; clear x0 x1 x2 x3 x4 u0 u1 u2 u3 u4 y0 y1 y2 y3 y4 v0 v1 v2 v3 v4; obtain ⟨x0, y0⟩ := box_cell (j := 0) hP3; obtain ⟨x1, y1⟩ := box_cell (j := 1) hP3; obtain ⟨x2, y2⟩ := box_cell (j := 2) hP3; obtain ⟨x3, y3⟩ := box_cell (j := 3) hP3; obtain ⟨x4, y4⟩ := box_cell (j := 4) hP3; obtain ⟨u0, v0⟩ := box_cell (j := 0) hR3; obtain ⟨u1, v1⟩ := box_cell (j := 1) hR3; obtain ⟨u2, v2⟩ := box_cell (j := 2) hR3; obtain ⟨u3, v3⟩ := box_cell (j := 3) hR3; obtain ⟨u4, v4⟩ := box_cell (j := 4) hR3; simp only [List.getElem?_toArray, List.getElem?_cons_zero, List.getElem?_cons_succ] at x0 x1 x2 x3 x4 u0 u1 u2 u3 u4; clear hP3 hR3))
  have hB3 : Below w.heap.size w w3 := HB1.out.trans (hb3.out.mono HB1.out.size)
  have hgl : w.heap.size ≤ gc := by have := HGC.out; omega
  go_ret2
  exact ⟨rfl, by repeat (first | exact hB3 | refine Below.setCell ?_ hgl _)⟩
set_option maxHeartbeats 1000000 in
set_option maxRecDepth 100000 in
theorem of_0_n0 (dst : ByteArray) (st : Int) (q : Nat) (op : Int) (A2 : Option Addr) (c2 : Nat) (A3 : Option Addr) (c3 : Nat) (w : World) (ho1 : (op == 1) = false) (ho2 : (op == 2) = false) (ho3 : (op == 3) = false) (ho4 : (op == 4) = false) (ho5 : (op == 5) = false) (ho6 : (op == 6) = false) (ho7 : (op == 7) = false) (ho8 : (op == 8) = false) :
    Calls Tryz.prog 43 #[(.agg #[.int .i64 op, .string dst, .slice A2 0 c2, .slice A3 q c3, .int .i64 st])] w fun e w' => e = .returned (.tuple #[.nilIface, .int .i64 160]) ∧ Below w.heap.size w w' := by
  go_enter Tryz.func43, Tryz.ntmps43
  go_wp2
  go_ret2
  exact ⟨rfl, by repeat (first | exact Below.refl _ _ | exact HB1.out | exact hB3 | apply below_alloc | apply pw_below_drewN | apply below_drew1)⟩
set_option maxHeartbeats 1000000 in
set_option maxRecDepth 100000 in
theorem of_0_n1 (dst : ByteArray) (st : Int) (s : ByteArray) (q : Nat) (op : Int) (A2 : Option Addr) (c2 : Nat) (A3 : Option Addr) (c3 : Nat) (w : World) (hr2 : Kd.C Kd.string w A2 [s].length [s]) (ho1 : (op == 1) = false) (ho2 : (op == 2) = false) (ho3 : (op == 3) = false) (ho4 : (op == 4) = false) (ho5 : (op == 5) = false) (ho6 : (op == 6) = false) (ho7 : (op == 7) = false) (ho8 : (op == 8) = false) :
    Calls Tryz.prog 43 #[(.agg #[.int .i64 op, .string dst, .slice A2 1 c2, .slice A3 q c3, .int .i64 st])] w fun e w' => e = .returned (.tuple #[.nilIface, .int .i64 160]) ∧ Below w.heap.size w w' := by
  have HR := Aside0.mk hr2
  obtain ⟨ad, rfl, hcell⟩ := c_first hr2
  have hlt := World.block_lt_of_cell? _ _ hcell
  have hnew := World.new_ne w ad hcell
  have q01 : (0 : Int) < (1 : Int) := by decide
  clear hr2
  go_enter Tryz.func43, Tryz.ntmps43
  go_wp2
  go_ret2
  exact ⟨rfl, by repeat (first | exact Below.refl _ _ | exact HB1.out | exact hB3 | apply below_alloc | apply pw_below_drewN | apply below_drew1)⟩
set_option maxHeartbeats 1000000 in
set_option maxRecDepth 100000 in
theorem of_0_nM (dst : ByteArray) (st : Int) (n : Nat) (q : Nat) (op : Int) (A2 : Option Addr) (c2 : Nat) (A3 : Option Addr) (c3 : Nat) (w : World) (h2 : n ≠ 1) (h20 : n ≠ 0) (ho1 : (op == 1) = false) (ho2 : (op == 2) = false) (ho3 : (op == 3) = false) (ho4 : (op == 4) = false) (ho5 : (op == 5) = false) (ho6 : (op == 6) = false) (ho7 : (op == 7) = false) (ho8 : (op == 8) = false) :
    Calls Tryz.prog 43 #[(.agg #[.int .i64 op, .string dst, .slice A2 n c2, .slice A3 q c3, .int .i64 st])] w fun e w' => e = .returned (.tuple #[.nilIface, .int .i64 160]) ∧ Below w.heap.size w w' := by
  have b21 : ((n : Int) == 1) = false := beq_eq_false_iff_ne.2 (by omega)
  have b20 : ((n : Int) == 0) = false := beq_eq_false_iff_ne.2 (by omega)
  go_enter Tryz.func43, Tryz.ntmps43
  go_wp2
  go_ret2
  exact ⟨rfl, by repeat (first | exact Below.refl _ _ | exact HB1.out | exact hB3 | apply below_alloc | apply pw_below_drewN | apply below_drew1)⟩
end Go.Proofs.YtpiafpkpdbknfaaGreatDoor.Sup
