/- Written by a program of this session: for Go functions that the law reaches, what each answers (F.f) and that it answers so (F.calls). Conditions: none beyond those in each statement. -/
import Derived.Test.YtpiafpkpdbknfaaGreatDoorPCmdLinesx0
import Derived.Test.YtpiafpkpdbknfaaGreatDoorPCmdLinesx4
namespace Go.Proofs.YtpiafpkpdbknfaaGreatDoor.PCmdLines
open Go.RowKit Go.Proofs.YtpiafpkpdbknfaaGreatDoorW.PrintWords Go.Proofs.YtpiafpkpdbknfaaGreatDoorW.PrintLast Go.Proofs.YtpiafpkpdbknfaaGreatDoorW.PrintMore
attribute [local go_sem] max2_int min2_int max_two min_two max_three min_three max_four min_four   -- for this text's walks alone
set_option linter.unusedVariables false
set_option linter.unusedSimpArgs false

/-! ### smithyref16_files: function 40 -/
mutual
def smithyref16_files.j0 : Nat → Bool → Int → ByteArray → List ByteArray → List ByteArray → Int → Option (Bool)
  | 0, _, _, _, _, _, _ => none
  | k + 1, x11, x171000, x171001, x171002, x171003, x171004 => if x11 = true then (some false) else (smithyref16_files.l0 k 0 x171000 x171001 x171002 x171003 x171004)
def smithyref16_files.l0 : Nat → Int → Int → ByteArray → List ByteArray → List ByteArray → Int → Option (Bool)
  | 0, _, _, _, _, _, _ => none
  | k + 1, x3, x171000, x171001, x171002, x171003, x171004 => if x3 < (x171002.length : Int) then (if 0 ≤ x3 then ((smithyref02_Name.f (rdOf ByteArray.empty x171002 x3)).bind fun t174 => (if t174 = true then (smithyref16_files.l0 k (wrap64 (x3 + 1)) x171000 x171001 x171002 x171003 x171004) else (some false))) else (none)) else (some true)
end
def smithyref16_files.f (k : Nat) (a0_0 : Int) (a0_1 : ByteArray) (l0_2 : List ByteArray) (l0_3 : List ByteArray) (a0_4 : Int) : Option (Bool) := (smithyref16_writes.f a0_0 a0_1 l0_2 l0_3 a0_4).bind fun t171 => (if t171 = true then ((smithyref02_Name.f a0_1).bind fun t172 => (smithyref16_files.j0 k (!t172) a0_0 a0_1 l0_2 l0_3 a0_4)) else (smithyref16_files.j0 k false a0_0 a0_1 l0_2 l0_3 a0_4))
theorem smithyref16_files.mono_l : ∀ k, (∀ y0 y1 y2 y3 y4 y5, LeO (smithyref16_files.j0 k y0 y1 y2 y3 y4 y5) (smithyref16_files.j0 (k + 1) y0 y1 y2 y3 y4 y5)) ∧ (∀ y0 y1 y2 y3 y4 y5, LeO (smithyref16_files.l0 k y0 y1 y2 y3 y4 y5) (smithyref16_files.l0 (k + 1) y0 y1 y2 y3 y4 y5))
  | 0 => ⟨fun _ _ _ _ _ _ r h => by simp [smithyref16_files.j0] at h, fun _ _ _ _ _ _ r h => by simp [smithyref16_files.l0] at h⟩
  | k + 1 => by
    obtain ⟨ih0, ih1⟩ := smithyref16_files.mono_l k
    refine ⟨?_, ?_⟩
    · intro y0 y1 y2 y3 y4 y5
      unfold smithyref16_files.j0
      repeat' first
      | (with_reducible exact ih0 _ _ _ _ _ _)
      | (with_reducible exact ih1 _ _ _ _ _ _)
      | (with_reducible exact LeO.refl _)
      | (with_reducible exact LeO.none _)
      | (with_reducible refine LeO.ite ?_ ?_)
      | (with_reducible refine LeO.bind ?_ (fun _ => ?_))
      | exact ih0 _ _ _ _ _ _
      | exact ih1 _ _ _ _ _ _
      | exact LeO.none _
      | refine LeO.ite ?_ ?_
      | refine LeO.bind ?_ (fun _ => ?_)
    · intro y0 y1 y2 y3 y4 y5
      unfold smithyref16_files.l0
      repeat' first
      | (with_reducible exact ih0 _ _ _ _ _ _)
      | (with_reducible exact ih1 _ _ _ _ _ _)
      | (with_reducible exact LeO.refl _)
      | (with_reducible exact LeO.none _)
      | (with_reducible refine LeO.ite ?_ ?_)
      | (with_reducible refine LeO.bind ?_ (fun _ => ?_))
      | exact ih0 _ _ _ _ _ _
      | exact ih1 _ _ _ _ _ _
      | exact LeO.none _
      | refine LeO.ite ?_ ?_
      | refine LeO.bind ?_ (fun _ => ?_)
theorem smithyref16_files.mono : ∀ a0 a1 a2 a3 a4 k, LeO (smithyref16_files.f k a0 a1 a2 a3 a4) (smithyref16_files.f (k + 1) a0 a1 a2 a3 a4) := by
  intro a0 a1 a2 a3 a4 k
  obtain ⟨ih0, ih1⟩ := smithyref16_files.mono_l k
  unfold smithyref16_files.f
  repeat' first
      | (with_reducible exact ih0 _ _ _ _ _ _)
      | (with_reducible exact ih1 _ _ _ _ _ _)
      | (with_reducible exact LeO.refl _)
      | (with_reducible exact LeO.none _)
      | (with_reducible refine LeO.ite ?_ ?_)
      | (with_reducible refine LeO.bind ?_ (fun _ => ?_))
      | exact ih0 _ _ _ _ _ _
      | exact ih1 _ _ _ _ _ _
      | exact LeO.none _
      | refine LeO.ite ?_ ?_
      | refine LeO.bind ?_ (fun _ => ?_)
set_option maxHeartbeats 8000000 in
set_option maxRecDepth 100000 in
theorem smithyref16_files.calls (k : Nat) (a0_0 : Int) (a0_1 : ByteArray) (A0_2 : Option Addr) (c0_2 : Nat) (l0_2 : List ByteArray) (A0_3 : Option Addr) (c0_3 : Nat) (l0_3 : List ByteArray) (a0_4 : Int) (r : Bool) (w : World) (hr0_2 : Kd.C Kd.string w A0_2 l0_2.length l0_2) (hc0_2 : l0_2.length ≤ c0_2) (hr0_3 : Kd.C Kd.string w A0_3 l0_3.length l0_3) (hc0_3 : l0_3.length ≤ c0_3) (h : smithyref16_files.f k a0_0 a0_1 l0_2 l0_3 a0_4 = some r) :
    Calls Tryz.prog 40 #[.agg #[.int .i64 a0_0, .string a0_1, .slice A0_2 l0_2.length c0_2, .slice A0_3 l0_3.length c0_3, .int .i64 a0_4]] w fun e w' => e = .returned (.bool r) ∧ Below w.heap.size w w' := by
  have hu24 := Tryz.underlying24
  have HR0_2 := Aside0.mk hr0_2
  have HC0_2 := Aside0.mk hc0_2
  clear hr0_2 hc0_2
  have HR0_3 := Aside0.mk hr0_3
  have HC0_3 := Aside0.mk hc0_3
  clear hr0_3 hc0_3
  have HB := Aside0.mk (Below.refl w.heap.size w)
  have H : ((smithyref16_writes.f a0_0 a0_1 l0_2 l0_3 a0_4).bind fun t171 => (if t171 = true then ((smithyref02_Name.f a0_1).bind fun t172 => (smithyref16_files.j0 k (!t172) a0_0 a0_1 l0_2 l0_3 a0_4)) else (smithyref16_files.j0 k false a0_0 a0_1 l0_2 l0_3 a0_4))) = some r := h
  clear h
  have HC2 := Aside0.mk H
  clear H
  go_enter Tryz.func40, Tryz.ntmps40
  go_upto_region 1 with (first | ((with_reducible refine gate_dst (N := 1) rfl ?_); refine box_event ?hg (N := 1) ?hd (cs := #[.int .i64 a0_0, .string a0_1, .slice A0_2 l0_2.length c0_2, .slice A0_3 l0_3.length c0_3, .int .i64 a0_4]) (t := 24) ?hr ?_; (case hd => rfl); (case hg => rfl); (case hr => first | (go_simp; done) | (go_simp; rfl)); intro gb170 hg w3 hbox hb; have n0_ := Aside0.mk (below_step (by repeat (first | (with_reducible first | exact HB.out | apply below_alloc | apply pw_below_drewN | apply below_drew1) | exact HB.out)) hb); have n1_ := Aside0.mk (hbox); have n2_ := Aside0.mk ((by rw [hg]; exact (below_size (by repeat (first | (with_reducible first | exact HB.out | apply below_alloc | apply pw_below_drewN | apply below_drew1) | exact HB.out))) : w.heap.size ≤ gb170)); have n3_ := Aside0.mk ((by rw [hg]; exact (below_size (by repeat (first | (with_reducible first | exact HB.out | apply below_alloc | apply pw_below_drewN | apply below_drew1) | exact HB.out))) : w.heap.size ≤ gb170)); clear HB; have HB := n0_; have BK170 := n1_; have GW170 := n2_; have GE170 := n3_; clear n0_ n1_ n2_ n3_; clear hb hbox hg))
  (try simp only [Act.put, List.setIfInBounds_toArray, List.set_cons_zero, List.set_cons_succ])
  go_cut [11] (fun v11 wc => ∃ (kq : Nat) (x11_1 : Bool), v11 = .bool x11_1 ∧ Aside0 (smithyref16_files.j0 kq x11_1 a0_0 a0_1 l0_2 l0_3 a0_4 = some r) ∧ Aside0 (kq ≤ k) ∧ Aside0 (wc.heap[gb170]? = some (.cells #[.int .i64 a0_0, .string a0_1, (.slice A0_2 l0_2.length c0_2), (.slice A0_3 l0_3.length c0_3), .int .i64 a0_4] 24 (0, 0))) ∧ Aside0 (Below w.heap.size w wc))
  case first =>
    have H := HC2.out
    clear HC2
    replace H := Option.bind_eq_some_iff.mp H
    obtain ⟨t171, A40, H⟩ := H
    replace H : (if t171 = true then ((smithyref02_Name.f a0_1).bind fun t172 => (smithyref16_files.j0 k (!t172) a0_0 a0_1 l0_2 l0_3 a0_4)) else (smithyref16_files.j0 k false a0_0 a0_1 l0_2 l0_3 a0_4)) = some r := H
    have A4 := Aside0.mk A40
    clear A40
    by_cases c5 : t171 = true
    · subst c5
      have H1 : ((smithyref02_Name.f a0_1).bind fun t172 => (smithyref16_files.j0 k (!t172) a0_0 a0_1 l0_2 l0_3 a0_4)) = some r := by rw [if_pos rfl] at H; exact H
      clear H
      have H := H1
      clear H1
      replace H := Option.bind_eq_some_iff.mp H
      obtain ⟨t172, A60, H⟩ := H
      replace H : (smithyref16_files.j0 k (!t172) a0_0 a0_1 l0_2 l0_3 a0_4) = some r := H
      have A6 := Aside0.mk A60
      clear A60
      have H' := Aside0.mk H
      clear H
      have hcz7_0 : w3.cell? ⟨gb170, 0, none⟩ = some (.int .i64 a0_0) := (blk_cell BK170.out 0).trans rfl
      have hcz7_1 : w3.cell? ⟨gb170, 1, none⟩ = some (.string a0_1) := (blk_cell BK170.out 1).trans rfl
      have hcz7_2 : w3.cell? ⟨gb170, 2, none⟩ = some (.slice A0_2 l0_2.length c0_2) := (blk_cell BK170.out 2).trans rfl
      have hcz7_3 : w3.cell? ⟨gb170, 3, none⟩ = some (.slice A0_3 l0_3.length c0_3) := (blk_cell BK170.out 3).trans rfl
      have hcz7_4 : w3.cell? ⟨gb170, 4, none⟩ = some (.int .i64 a0_4) := (blk_cell BK170.out 4).trans rfl
      have hfz7_0 := blk_frozen BK170.out 0
      have hfz7_1 := blk_frozen BK170.out 1
      have hfz7_2 := blk_frozen BK170.out 2
      have hfz7_3 := blk_frozen BK170.out 3
      have hfz7_4 := blk_frozen BK170.out 4
      go_wp2_with (first | ((with_reducible refine gate_callee (f := 46) rfl ?_); refine goesL_ (some 5) rfl rfl Tryz.func46 (by kernel_rfl) rfl #[.agg #[.int .i64 a0_0, .string a0_1, .slice A0_2 l0_2.length c0_2, .slice A0_3 l0_3.length c0_3, .int .i64 a0_4]] rfl (by (try simp only [List.map_toArray, List.map_cons, List.map_nil]); first | done | rfl | (simp only [List.length_drop, List.length_take]; rfl)) ?_; (with_reducible refine (smithyref16_writes.calls a0_0 a0_1 _ _ l0_2 _ _ l0_3 a0_4 true _ ?side1 ?side2 ?side3 ?side4 A4.out).mono ?_); (case side1 => repeat (first | exact (Kd.C_below HR0_2.out HB.out) | (with_reducible refine Kd.C_alloc ?_ _) | (with_reducible refine Kd.C_drewN ?_ _) | (with_reducible refine Kd.C_drew ?_))); (case side2 => exact HC0_2.out); (case side3 => repeat (first | exact (Kd.C_below HR0_3.out HB.out) | (with_reducible refine Kd.C_alloc ?_ _) | (with_reducible refine Kd.C_drewN ?_ _) | (with_reducible refine Kd.C_drew ?_))); (case side4 => exact HC0_3.out); rintro e w8 ⟨rfl, hb⟩; refine ⟨_, rfl, ?_⟩; have n0_ := Aside0.mk (blk_below (g := gb170) (o := .cells #[.int .i64 a0_0, .string a0_1, .slice A0_2 l0_2.length c0_2, .slice A0_3 l0_3.length c0_3, .int .i64 a0_4] 24 (0, 0)) (by (with_reducible repeat (first | refine blk_drewN ?_ _ | refine blk_drew ?_ | refine blk_alloc ?_ _)); exact BK170.out) hb); have n1_ := Aside0.mk (below_step (by repeat (first | (with_reducible first | exact HB.out | apply below_alloc | apply pw_below_drewN | apply below_drew1 | refine below_set ?_ GE170.out) | exact HB.out)) hb); clear BK170; clear HB; have BK170 := n0_; have HB := n1_; clear n0_ n1_; (try clear hb); (try clear hb2); (try clear hk); (try clear hi); have hcz9_0 : w8.cell? ⟨gb170, 0, none⟩ = some (.int .i64 a0_0) := (blk_cell BK170.out 0).trans rfl; have hcz9_1 : w8.cell? ⟨gb170, 1, none⟩ = some (.string a0_1) := (blk_cell BK170.out 1).trans rfl; have hcz9_2 : w8.cell? ⟨gb170, 2, none⟩ = some (.slice A0_2 l0_2.length c0_2) := (blk_cell BK170.out 2).trans rfl; have hcz9_3 : w8.cell? ⟨gb170, 3, none⟩ = some (.slice A0_3 l0_3.length c0_3) := (blk_cell BK170.out 3).trans rfl; have hcz9_4 : w8.cell? ⟨gb170, 4, none⟩ = some (.int .i64 a0_4) := (blk_cell BK170.out 4).trans rfl; have hfz9_0 := blk_frozen BK170.out 0; have hfz9_1 := blk_frozen BK170.out 1; have hfz9_2 := blk_frozen BK170.out 2; have hfz9_3 := blk_frozen BK170.out 3; have hfz9_4 := blk_frozen BK170.out 4) | (go_at_call 55; (with_reducible refine (smithyref02_Name.calls a0_1 t172 _ A6.out).mono ?_); rintro e w10 ⟨rfl, hb⟩; have n0_ := Aside0.mk (blk_below (g := gb170) (o := .cells #[.int .i64 a0_0, .string a0_1, .slice A0_2 l0_2.length c0_2, .slice A0_3 l0_3.length c0_3, .int .i64 a0_4] 24 (0, 0)) (by (with_reducible repeat (first | refine blk_drewN ?_ _ | refine blk_drew ?_ | refine blk_alloc ?_ _)); exact BK170.out) hb); have n1_ := Aside0.mk (below_step (by repeat (first | (with_reducible first | exact HB.out | apply below_alloc | apply pw_below_drewN | apply below_drew1 | refine below_set ?_ GE170.out) | exact HB.out)) hb); clear BK170; clear HB; have BK170 := n0_; have HB := n1_; clear n0_ n1_; (try clear hb); (try clear hb2); (try clear hk); (try clear hi)))
      go_meet
      case rel => exact ⟨_, (!t172), (by first | rfl | (simp; done) | (simp [*]; done) | (simp; generalize ByteArray.toList _ = l_; cases l_ <;> rfl)), H', ⟨by first | omega | exact Nat.le_refl _⟩, ⟨by (with_reducible repeat (first | refine blk_drewN ?_ _ | refine blk_drew ?_ | refine blk_alloc ?_ _)); exact BK170.out⟩, ⟨by repeat (first | (with_reducible first | exact HB.out | apply below_alloc | apply pw_below_drewN | apply below_drew1 | refine below_set ?_ GE170.out) | exact HB.out)⟩⟩
    · replace c5 := Bool.eq_false_iff.mpr c5
      subst c5
      have H1 : (smithyref16_files.j0 k false a0_0 a0_1 l0_2 l0_3 a0_4) = some r := by rw [if_neg (show ¬ (false = true) by decide)] at H; exact H
      clear H
      have H := H1
      clear H1
      have H' := Aside0.mk H
      clear H
      have hcz11_0 : w3.cell? ⟨gb170, 0, none⟩ = some (.int .i64 a0_0) := (blk_cell BK170.out 0).trans rfl
      have hcz11_1 : w3.cell? ⟨gb170, 1, none⟩ = some (.string a0_1) := (blk_cell BK170.out 1).trans rfl
      have hcz11_2 : w3.cell? ⟨gb170, 2, none⟩ = some (.slice A0_2 l0_2.length c0_2) := (blk_cell BK170.out 2).trans rfl
      have hcz11_3 : w3.cell? ⟨gb170, 3, none⟩ = some (.slice A0_3 l0_3.length c0_3) := (blk_cell BK170.out 3).trans rfl
      have hcz11_4 : w3.cell? ⟨gb170, 4, none⟩ = some (.int .i64 a0_4) := (blk_cell BK170.out 4).trans rfl
      have hfz11_0 := blk_frozen BK170.out 0
      have hfz11_1 := blk_frozen BK170.out 1
      have hfz11_2 := blk_frozen BK170.out 2
      have hfz11_3 := blk_frozen BK170.out 3
      have hfz11_4 := blk_frozen BK170.out 4
      go_wp2_with (first | ((with_reducible refine gate_callee (f := 46) rfl ?_); refine goesL_ (some 5) rfl rfl Tryz.func46 (by kernel_rfl) rfl #[.agg #[.int .i64 a0_0, .string a0_1, .slice A0_2 l0_2.length c0_2, .slice A0_3 l0_3.length c0_3, .int .i64 a0_4]] rfl (by (try simp only [List.map_toArray, List.map_cons, List.map_nil]); first | done | rfl | (simp only [List.length_drop, List.length_take]; rfl)) ?_; (with_reducible refine (smithyref16_writes.calls a0_0 a0_1 _ _ l0_2 _ _ l0_3 a0_4 false _ ?side1 ?side2 ?side3 ?side4 A4.out).mono ?_); (case side1 => repeat (first | exact (Kd.C_below HR0_2.out HB.out) | (with_reducible refine Kd.C_alloc ?_ _) | (with_reducible refine Kd.C_drewN ?_ _) | (with_reducible refine Kd.C_drew ?_))); (case side2 => exact HC0_2.out); (case side3 => repeat (first | exact (Kd.C_below HR0_3.out HB.out) | (with_reducible refine Kd.C_alloc ?_ _) | (with_reducible refine Kd.C_drewN ?_ _) | (with_reducible refine Kd.C_drew ?_))); (case side4 => exact HC0_3.out); rintro e w12 ⟨rfl, hb⟩; refine ⟨_, rfl, ?_⟩; have n0_ := Aside0.mk (blk_below (g := gb170) (o := .cells #[.int .i64 a0_0, .string a0_1, .slice A0_2 l0_2.length c0_2, .slice A0_3 l0_3.length c0_3, .int .i64 a0_4] 24 (0, 0)) (by (with_reducible repeat (first | refine blk_drewN ?_ _ | refine blk_drew ?_ | refine blk_alloc ?_ _)); exact BK170.out) hb); have n1_ := Aside0.mk (below_step (by repeat (first | (with_reducible first | exact HB.out | apply below_alloc | apply pw_below_drewN | apply below_drew1 | refine below_set ?_ GE170.out) | exact HB.out)) hb); clear BK170; clear HB; have BK170 := n0_; have HB := n1_; clear n0_ n1_; (try clear hb); (try clear hb2); (try clear hk); (try clear hi)))
      go_meet
      case rel => exact ⟨_, (false), (by first | rfl | (simp; done) | (simp [*]; done) | (simp; generalize ByteArray.toList _ = l_; cases l_ <;> rfl)), H', ⟨by first | omega | exact Nat.le_refl _⟩, ⟨by (with_reducible repeat (first | refine blk_drewN ?_ _ | refine blk_drew ?_ | refine blk_alloc ?_ _)); exact BK170.out⟩, ⟨by repeat (first | (with_reducible first | exact HB.out | apply below_alloc | apply pw_below_drewN | apply below_drew1 | refine below_set ?_ GE170.out) | exact HB.out)⟩⟩
  case rest =>
    clear HC2
    try clear p2
    try clear c4
    try clear c5
    try clear hcz11_0
    try clear hcz11_1
    try clear hcz11_2
    try clear hcz11_3
    try clear hcz11_4
    try clear hcz7_0
    try clear hcz7_1
    try clear hcz7_2
    try clear hcz7_3
    try clear hcz7_4
    try clear hcz9_0
    try clear hcz9_1
    try clear hcz9_2
    try clear hcz9_3
    try clear hcz9_4
    try clear hfz11_0
    try clear hfz11_1
    try clear hfz11_2
    try clear hfz11_3
    try clear hfz11_4
    try clear hfz7_0
    try clear hfz7_1
    try clear hfz7_2
    try clear hfz7_3
    try clear hfz7_4
    try clear hfz9_0
    try clear hfz9_1
    try clear hfz9_2
    try clear hfz9_3
    try clear hfz9_4
    obtain ⟨kq, x11_1, rfl, HA, HJ1, BK170, HB⟩ := hcut
    cases kq with
    | zero => exact absurd HA.out (by simp [smithyref16_files.j0])
    | succ kj1 =>
      have H := HA.out
      clear HA
      simp only [smithyref16_files.j0] at H
      by_cases c13 : x11_1 = true
      · subst c13
        have H1 : (some false) = some r := by rw [if_pos rfl] at H; exact H
        clear H
        have H := H1
        clear H1
        obtain rfl := Option.some.inj H
        go_wp2
        go_ret
        exact ⟨by first | rfl | (simp [errW_none, errW_some] <;> rfl) | (simp [*, errW_none, errW_some] <;> rfl), by repeat (first | (with_reducible first | exact HB.out | apply below_alloc | apply pw_below_drewN | apply below_drew1 | refine below_set ?_ GE170.out) | exact HB.out)⟩
      · replace c13 := Bool.eq_false_iff.mpr c13
        subst c13
        have H1 : (smithyref16_files.l0 kj1 0 a0_0 a0_1 l0_2 l0_3 a0_4) = some r := by rw [if_neg (show ¬ (false = true) by decide)] at H; exact H
        clear H
        have H := H1
        clear H1
        have H' := Aside0.mk H
        clear H
        go_wp2
        go_loopg [3] kj1 (fun kq v3 w' => ∃ (x3_2 : Int), v3 = .int .i64 x3_2 ∧ Aside0 (smithyref16_files.l0 kq x3_2 a0_0 a0_1 l0_2 l0_3 a0_4 = some r) ∧ Aside0 (kq ≤ kj1) ∧ Aside0 (w'.heap[gb170]? = some (.cells #[.int .i64 a0_0, .string a0_1, (.slice A0_2 l0_2.length c0_2), (.slice A0_3 l0_3.length c0_3), .int .i64 a0_4] 24 (0, 0))) ∧ Aside0 (Below w.heap.size w w'))
        case atStart => exact ⟨(0), (by first | rfl | (simp; done) | (simp [*]; done) | (simp; generalize ByteArray.toList _ = l_; cases l_ <;> rfl)), H', ⟨Nat.le_refl _⟩, ⟨by (with_reducible repeat (first | refine blk_drewN ?_ _ | refine blk_drew ?_ | refine blk_alloc ?_ _)); exact BK170.out⟩, ⟨by repeat (first | (with_reducible first | exact HB.out | apply below_alloc | apply pw_below_drewN | apply below_drew1 | refine below_set ?_ GE170.out) | exact HB.out)⟩⟩
        case round =>
          clear H'
          try clear c1
          try clear p2
          try clear c4
          try clear c5
          try clear c13
          try clear hcz11_0
          try clear hcz11_1
          try clear hcz11_2
          try clear hcz11_3
          try clear hcz11_4
          try clear hcz7_0
          try clear hcz7_1
          try clear hcz7_2
          try clear hcz7_3
          try clear hcz7_4
          try clear hcz9_0
          try clear hcz9_1
          try clear hcz9_2
          try clear hcz9_3
          try clear hcz9_4
          try clear hfz11_0
          try clear hfz11_1
          try clear hfz11_2
          try clear hfz11_3
          try clear hfz11_4
          try clear hfz7_0
          try clear hfz7_1
          try clear hfz7_2
          try clear hfz7_3
          try clear hfz7_4
          try clear hfz9_0
          try clear hfz9_1
          try clear hfz9_2
          try clear hfz9_3
          try clear hfz9_4
          try clear p2
          obtain ⟨x3_2, rfl, HA, HK2, BK170, HB⟩ := hrel
          cases gk with
          | zero => exact absurd HA.out (by simp [smithyref16_files.l0])
          | succ k2 =>
            have H := HA.out
            clear HA
            simp only [smithyref16_files.l0] at H
            by_cases c14 : x3_2 < (l0_2.length : Int)
            · rw [if_pos c14] at H
              have c14b0 : decide (x3_2 < (l0_2.length : Int)) = true := decide_eq_true c14
              clear c14
              by_cases c15 : 0 ≤ x3_2
              · rw [if_pos c15] at H
                have c15b0 : decide (0 ≤ x3_2) = true := decide_eq_true c15
                clear c15
                replace H := Option.bind_eq_some_iff.mp H
                obtain ⟨t174, A160, H⟩ := H
                replace H : (if t174 = true then (smithyref16_files.l0 k2 (wrap64 (x3_2 + 1)) a0_0 a0_1 l0_2 l0_3 a0_4) else (some false)) = some r := H
                have A16 := Aside0.mk A160
                clear A160
                by_cases c17 : t174 = true
                · subst c17
                  have H1 : (smithyref16_files.l0 k2 (wrap64 (x3_2 + 1)) a0_0 a0_1 l0_2 l0_3 a0_4) = some r := by rw [if_pos rfl] at H; exact H
                  clear H
                  have H := H1
                  clear H1
                  have H' := Aside0.mk H
                  clear H
                  have hcz18_0 : wr.cell? ⟨gb170, 0, none⟩ = some (.int .i64 a0_0) := (blk_cell BK170.out 0).trans rfl
                  have hcz18_1 : wr.cell? ⟨gb170, 1, none⟩ = some (.string a0_1) := (blk_cell BK170.out 1).trans rfl
                  have hcz18_2 : wr.cell? ⟨gb170, 2, none⟩ = some (.slice A0_2 l0_2.length c0_2) := (blk_cell BK170.out 2).trans rfl
                  have hcz18_3 : wr.cell? ⟨gb170, 3, none⟩ = some (.slice A0_3 l0_3.length c0_3) := (blk_cell BK170.out 3).trans rfl
                  have hcz18_4 : wr.cell? ⟨gb170, 4, none⟩ = some (.int .i64 a0_4) := (blk_cell BK170.out 4).trans rfl
                  have hfz18_0 := blk_frozen BK170.out 0
                  have hfz18_1 := blk_frozen BK170.out 1
                  have hfz18_2 := blk_frozen BK170.out 2
                  have hfz18_3 := blk_frozen BK170.out 3
                  have hfz18_4 := blk_frozen BK170.out 4
                  have p173 : 0 ≤ (x3_2 : Int) := of_decide_eq_true (by first | (with_reducible assumption) | assumption)
                  have q173 : x3_2 < (l0_2.length : Int) := of_decide_eq_true (by first | (with_reducible assumption) | assumption)
                  obtain ⟨ad173, e173, hx173_0⟩ := Kd.at_string HR0_2.out x3_2 p173 q173
                  cases e173
                  replace hx173_0 := (HB.out.cell (World.block_lt_of_cell? w _ hx173_0)).trans hx173_0
                  replace p173 := eq_true p173
                  replace q173 := eq_true q173
                  go_wp2_with (first | ((with_reducible refine gate_callee (f := 55) rfl ?_); refine goesL_ (some 24) rfl rfl Tryz.func55 (by kernel_rfl) rfl #[.string (rdOf ByteArray.empty l0_2 x3_2)] rfl (by (try simp only [List.map_toArray, List.map_cons, List.map_nil]); first | done | rfl | (simp only [List.length_drop, List.length_take]; rfl)) ?_; (with_reducible refine (smithyref02_Name.calls (rdOf ByteArray.empty l0_2 x3_2) true _ A16.out).mono ?_); rintro e w19 ⟨rfl, hb⟩; refine ⟨_, rfl, ?_⟩; have n0_ := Aside0.mk (blk_below (g := gb170) (o := .cells #[.int .i64 a0_0, .string a0_1, .slice (some ad173) l0_2.length c0_2, .slice A0_3 l0_3.length c0_3, .int .i64 a0_4] 24 (0, 0)) (by (with_reducible repeat (first | refine blk_drewN ?_ _ | refine blk_drew ?_ | refine blk_alloc ?_ _)); exact BK170.out) hb); have n1_ := Aside0.mk (below_step (by repeat (first | (with_reducible first | exact HB.out | apply below_alloc | apply pw_below_drewN | apply below_drew1 | refine below_set ?_ GE170.out) | exact HB.out)) hb); clear BK170; clear HB; have BK170 := n0_; have HB := n1_; clear n0_ n1_; (try clear hb); (try clear hb2); (try clear hk); (try clear hi)))
                  go_roundg k2
                  case measure => have := HJ1.out; have := HK2.out; omega
                  case rel => exact ⟨(wrap64 (x3_2 + 1)), (by first | rfl | (simp; done) | (simp [*]; done) | (simp; generalize ByteArray.toList _ = l_; cases l_ <;> rfl)), H', ⟨by have := HJ1.out; have := HK2.out; omega⟩, ⟨by (with_reducible repeat (first | refine blk_drewN ?_ _ | refine blk_drew ?_ | refine blk_alloc ?_ _)); exact BK170.out⟩, ⟨by repeat (first | (with_reducible first | exact HB.out | apply below_alloc | apply pw_below_drewN | apply below_drew1 | refine below_set ?_ GE170.out) | exact HB.out)⟩⟩
                · replace c17 := Bool.eq_false_iff.mpr c17
                  subst c17
                  have H1 : (some false) = some r := by rw [if_neg (show ¬ (false = true) by decide)] at H; exact H
                  clear H
                  have H := H1
                  clear H1
                  obtain rfl := Option.some.inj H
                  have hcz20_0 : wr.cell? ⟨gb170, 0, none⟩ = some (.int .i64 a0_0) := (blk_cell BK170.out 0).trans rfl
                  have hcz20_1 : wr.cell? ⟨gb170, 1, none⟩ = some (.string a0_1) := (blk_cell BK170.out 1).trans rfl
                  have hcz20_2 : wr.cell? ⟨gb170, 2, none⟩ = some (.slice A0_2 l0_2.length c0_2) := (blk_cell BK170.out 2).trans rfl
                  have hcz20_3 : wr.cell? ⟨gb170, 3, none⟩ = some (.slice A0_3 l0_3.length c0_3) := (blk_cell BK170.out 3).trans rfl
                  have hcz20_4 : wr.cell? ⟨gb170, 4, none⟩ = some (.int .i64 a0_4) := (blk_cell BK170.out 4).trans rfl
                  have hfz20_0 := blk_frozen BK170.out 0
                  have hfz20_1 := blk_frozen BK170.out 1
                  have hfz20_2 := blk_frozen BK170.out 2
                  have hfz20_3 := blk_frozen BK170.out 3
                  have hfz20_4 := blk_frozen BK170.out 4
                  have p173 : 0 ≤ (x3_2 : Int) := of_decide_eq_true (by first | (with_reducible assumption) | assumption)
                  have q173 : x3_2 < (l0_2.length : Int) := of_decide_eq_true (by first | (with_reducible assumption) | assumption)
                  obtain ⟨ad173, e173, hx173_0⟩ := Kd.at_string HR0_2.out x3_2 p173 q173
                  cases e173
                  replace hx173_0 := (HB.out.cell (World.block_lt_of_cell? w _ hx173_0)).trans hx173_0
                  replace p173 := eq_true p173
                  replace q173 := eq_true q173
                  go_wp2_with (first | ((with_reducible refine gate_callee (f := 55) rfl ?_); refine goesL_ (some 24) rfl rfl Tryz.func55 (by kernel_rfl) rfl #[.string (rdOf ByteArray.empty l0_2 x3_2)] rfl (by (try simp only [List.map_toArray, List.map_cons, List.map_nil]); first | done | rfl | (simp only [List.length_drop, List.length_take]; rfl)) ?_; (with_reducible refine (smithyref02_Name.calls (rdOf ByteArray.empty l0_2 x3_2) false _ A16.out).mono ?_); rintro e w21 ⟨rfl, hb⟩; refine ⟨_, rfl, ?_⟩; have n0_ := Aside0.mk (blk_below (g := gb170) (o := .cells #[.int .i64 a0_0, .string a0_1, .slice (some ad173) l0_2.length c0_2, .slice A0_3 l0_3.length c0_3, .int .i64 a0_4] 24 (0, 0)) (by (with_reducible repeat (first | refine blk_drewN ?_ _ | refine blk_drew ?_ | refine blk_alloc ?_ _)); exact BK170.out) hb); have n1_ := Aside0.mk (below_step (by repeat (first | (with_reducible first | exact HB.out | apply below_alloc | apply pw_below_drewN | apply below_drew1 | refine below_set ?_ GE170.out) | exact HB.out)) hb); clear BK170; clear HB; have BK170 := n0_; have HB := n1_; clear n0_ n1_; (try clear hb); (try clear hb2); (try clear hk); (try clear hi)))
                  go_ret
                  exact ⟨by first | rfl | (simp [errW_none, errW_some] <;> rfl) | (simp [*, errW_none, errW_some] <;> rfl), by repeat (first | (with_reducible first | exact HB.out | apply below_alloc | apply pw_below_drewN | apply below_drew1 | refine below_set ?_ GE170.out) | exact HB.out)⟩
              · rw [if_neg c15] at H
                exact absurd H (by simp)
            · rw [if_neg c14] at H
              have c14b0 : decide (x3_2 < (l0_2.length : Int)) = false := decide_eq_false c14
              clear c14
              obtain rfl := Option.some.inj H
              have hcz22_0 : wr.cell? ⟨gb170, 0, none⟩ = some (.int .i64 a0_0) := (blk_cell BK170.out 0).trans rfl
              have hcz22_1 : wr.cell? ⟨gb170, 1, none⟩ = some (.string a0_1) := (blk_cell BK170.out 1).trans rfl
              have hcz22_2 : wr.cell? ⟨gb170, 2, none⟩ = some (.slice A0_2 l0_2.length c0_2) := (blk_cell BK170.out 2).trans rfl
              have hcz22_3 : wr.cell? ⟨gb170, 3, none⟩ = some (.slice A0_3 l0_3.length c0_3) := (blk_cell BK170.out 3).trans rfl
              have hcz22_4 : wr.cell? ⟨gb170, 4, none⟩ = some (.int .i64 a0_4) := (blk_cell BK170.out 4).trans rfl
              have hfz22_0 := blk_frozen BK170.out 0
              have hfz22_1 := blk_frozen BK170.out 1
              have hfz22_2 := blk_frozen BK170.out 2
              have hfz22_3 := blk_frozen BK170.out 3
              have hfz22_4 := blk_frozen BK170.out 4
              go_wp2
              go_ret
              exact ⟨by first | rfl | (simp [errW_none, errW_some] <;> rfl) | (simp [*, errW_none, errW_some] <;> rfl), by repeat (first | (with_reducible first | exact HB.out | apply below_alloc | apply pw_below_drewN | apply below_drew1 | refine below_set ?_ GE170.out) | exact HB.out)⟩

/-! ### smithyref16_Parse: function 10 -/
open Go.Proofs.YtpiafpkpdbknfaaGreatDoor.Sup
def smithyref16_Parse.bad (er : Int) : Option (Int × ByteArray × List ByteArray × List ByteArray × Int × Int) := some (0, ByteArray.empty, [], [], 0, er)
def smithyref16_Parse.named (k : Nat) (q1 : Int) (q2 : ByteArray) (q3 q4 : List ByteArray) (q5 : Int) : Option (Int × ByteArray × List ByteArray × List ByteArray × Int × Int) :=
  (smithyref16_files.f k q1 q2 q3 q4 q5).bind fun b => if b = true then some (q1, q2, q3, q4, q5, 0) else smithyref16_Parse.bad 3
def smithyref16_Parse.op (k : Nat) (o : Int) (l : List ByteArray) : Option (Int × ByteArray × List ByteArray × List ByteArray × Int × Int) :=
  if o = 1 then (match l with | [a, d] => smithyref16_Parse.named k 1 d [a] [] 0 | _ => none)
  else if o = 2 then (match l with | d :: ws => smithyref16_Parse.named k 2 d ws [] 0 | _ => none)
  else if o = 3 then (match l with | d :: ws => smithyref16_Parse.named k 3 d [] ws 0 | _ => none)
  else if o = 4 then (match l with | [d] => smithyref16_Parse.named k 4 d [] [] 0 | _ => none)
  else if o = 5 then (match l with | [d] => smithyref16_Parse.named k 5 d [] [] 0 | _ => none)
  else if o = 6 then (match l with | [d] => smithyref16_Parse.named k 6 ByteArray.empty [d] [] 0 | _ => none)
  else if o = 7 then (match l with
    | [] => smithyref16_Parse.named k 7 ByteArray.empty [] [] 1
    | [s] => (smithyref16_status.f k s).bind fun v => if v = 0 then smithyref16_Parse.bad 160 else smithyref16_Parse.named k 7 ByteArray.empty [] [] v
    | _ => none)
  else if o = 8 then smithyref16_Parse.named k 8 ByteArray.empty [] l 0
  else none
def smithyref16_Parse.f (k : Nat) (l0 : List ByteArray) : Option (Int × ByteArray × List ByteArray × List ByteArray × Int × Int) :=
  match l0 with
  | [] => smithyref16_Parse.bad 9
  | x :: l => if 514 < l.length + 1 then smithyref16_Parse.bad 2 else
    (smithyref16_op.f k x).bind fun o =>
    (smithyref16_many.f k o (l.length : Int)).bind fun b => if b = false then smithyref16_Parse.bad 160 else smithyref16_Parse.op k o l
theorem smithyref16_Parse.op_ {k : Nat} {x : ByteArray} {o : Int} (h : smithyref16_op.f k x = some o) : OpOk x o := fun w => smithyref16_op.calls k x o w h
theorem smithyref16_Parse.many_ {k : Nat} {op n : Int} {b : Bool} (h : smithyref16_many.f k op n = some b) : ManyOk op n b := fun w => smithyref16_many.calls k op n b w h
theorem smithyref16_Parse.stat_ {k : Nat} {x : ByteArray} {o : Int} (h : smithyref16_status.f k x = some o) : StatOk x o := fun w => smithyref16_status.calls k x o w h
theorem smithyref16_Parse.files_ {k : Nat} {op : Int} {dst : ByteArray} {src words : List ByteArray} {st : Int} {b : Bool} (h : smithyref16_files.f k op dst src words st = some b) : RFilesOk op dst src words st b :=
  fun A2 c2 A3 c3 w h2 hc2 h3 hc3 => smithyref16_files.calls k op dst A2 c2 src A3 c3 words st b w h2 hc2 h3 hc3 h
theorem smithyref16_Parse.mono : ∀ a0 k, LeO (smithyref16_Parse.f k a0) (smithyref16_Parse.f (k + 1) a0) := by
  intro a0 k r h
  have hn : ∀ q1 q2 q3 q4 q5 r, smithyref16_Parse.named k q1 q2 q3 q4 q5 = some r → smithyref16_Parse.named (k + 1) q1 q2 q3 q4 q5 = some r := by
    intro q1 q2 q3 q4 q5 r h
    unfold smithyref16_Parse.named at h ⊢
    replace h := Option.bind_eq_some_iff.1 h
    obtain ⟨e, he, h⟩ := h
    rw [smithyref16_files.mono q1 q2 q3 q4 q5 k e he]
    exact h
  cases a0 with
  | nil => exact h
  | cons x l =>
    simp only [smithyref16_Parse.f] at h ⊢
    split at h
    · rw [if_pos (by assumption)]; exact h
    · rw [if_neg (by assumption)]
      replace h := Option.bind_eq_some_iff.1 h
      obtain ⟨i, hi, h⟩ := h
      rw [smithyref16_op.mono x k i hi]
      simp only [Option.bind_some]
      replace h := Option.bind_eq_some_iff.1 h
      obtain ⟨b, hb, h⟩ := h
      rw [smithyref16_many.mono i (l.length : Int) k b hb]
      simp only [Option.bind_some]
      split at h
      · rw [if_pos (by assumption)]; exact h
      · rw [if_neg (by assumption)]
        unfold smithyref16_Parse.op at h ⊢
        repeat' (first | (exact hn _ _ _ _ _ _ h) | (exact h) | (split at h <;> first | rw [if_pos (by assumption)] | rw [if_neg (by assumption)] | skip) | (replace h := Option.bind_eq_some_iff.1 h; obtain ⟨v, hv, h⟩ := h; rw [smithyref16_status.mono _ k v hv]; simp only [Option.bind_some]))
theorem smithyref16_Parse.ways {P : Int → ByteArray → List ByteArray → List ByteArray → Int → Int → Prop} {k : Nat} {q1 : Int} {q2 : ByteArray} {q3 q4 : List ByteArray} {q5 r1 : Int} {r2 : ByteArray} {r3 r4 : List ByteArray} {r5 r6 : Int}
    (h : smithyref16_Parse.named k q1 q2 q3 q4 q5 = some (r1, r2, r3, r4, r5, r6)) (go : ∀ b : Bool, RFilesOk q1 q2 q3 q4 q5 b → P (cond b q1 0) (cond b q2 ByteArray.empty) (cond b q3 []) (cond b q4 []) (cond b q5 0) (cond b 0 3)) : P r1 r2 r3 r4 r5 r6 := by
  unfold smithyref16_Parse.named at h
  replace h := Option.bind_eq_some_iff.1 h
  obtain ⟨b, he, h⟩ := h
  have hg := go b (smithyref16_Parse.files_ he)
  cases b with
  | true => rw [if_pos rfl] at h; cases h; exact hg
  | false => rw [if_neg (by decide)] at h; cases h; exact hg
theorem smithyref16_Parse.calls (k : Nat) (A0 : Option Addr) (c0 : Nat) (l0 : List ByteArray) (r1 : Int) (r2 : ByteArray) (r3 : List ByteArray) (r4 : List ByteArray) (r5 : Int) (r6 : Int) (w : World) (hr0 : Kd.C Kd.string w A0 l0.length l0) (hc0 : l0.length ≤ c0) (h : smithyref16_Parse.f k l0 = some (r1, r2, r3, r4, r5, r6)) :
    Calls Tryz.prog 10 #[.slice A0 l0.length c0] w fun e w' => ∃ v2_ v3_ : Value, e = .returned (.tuple #[.agg #[.int .i64 r1, .string r2, v2_, v3_, .int .i64 r5], .int .i64 r6]) ∧ Kd.V Kd.string 9 w' w.heap.size (fun k_ => (w.heap.size ≤ k_)) v2_ r3 ∧ Kd.V Kd.string 9 w' w.heap.size (fun k_ => (w.heap.size ≤ k_)) v3_ r4 ∧ Below w.heap.size w w' := by
  suffices hS : Calls Tryz.prog 10 #[.slice A0 l0.length c0] w fun ev w' => parseP w w' ev r1 r2 r3 r4 r5 r6 by
    refine hS.mono fun e w' ⟨⟨v2, v3, he, h2, h3⟩, hb⟩ => ⟨v2, v3, he, h2, h3, hb⟩
  cases l0 with
  | nil => cases h; exact ref_none A0 c0 w
  | cons x l =>
    simp only [smithyref16_Parse.f] at h
    have hcap := hr0.2.1
    split at h
    · rename_i hl
      cases h
      exact ref_long A0 (x :: l).length c0 w hl hcap
    · rename_i hl
      have hl : (x :: l).length ≤ 514 := by rw [List.length_cons]; omega
      replace h := Option.bind_eq_some_iff.1 h
      obtain ⟨o, ho, h⟩ := h
      have HX := smithyref16_Parse.op_ ho
      replace h := Option.bind_eq_some_iff.1 h
      obtain ⟨b, hb, h⟩ := h
      have HCNT := smithyref16_Parse.many_ hb
      split at h
      · rename_i hb0
        subst hb0
        cases h
        exact ref_cnt l o A0 c0 x w hr0 hc0 hl HX HCNT
      · rename_i hb0
        obtain rfl : b = true := by cases b <;> simp_all
        unfold smithyref16_Parse.op at h
        split at h
        · rename_i e0
          subst e0
          split at h
          · exact smithyref16_Parse.ways (P := fun r1 r2 r3 r4 r5 r6 => Calls Tryz.prog 10 _ w fun ev w' => parseP w w' ev r1 r2 r3 r4 r5 r6) h (fun b HF => by have h_ := ref_copy _ _ b A0 c0 x w hr0 hc0 hl HX HCNT HF; cases b <;> exact h_)
          · cases h
        split at h
        · rename_i e0
          subst e0
          split at h
          · exact smithyref16_Parse.ways (P := fun r1 r2 r3 r4 r5 r6 => Calls Tryz.prog 10 _ w fun ev w' => parseP w w' ev r1 r2 r3 r4 r5 r6) h (fun b HF => by have h_ := ref_concat _ _ b A0 c0 x w hr0 hc0 hl HX HCNT HF; cases b <;> exact h_)
          · cases h
        split at h
        · rename_i e0
          subst e0
          split at h
          · exact smithyref16_Parse.ways (P := fun r1 r2 r3 r4 r5 r6 => Calls Tryz.prog 10 _ w fun ev w' => parseP w w' ev r1 r2 r3 r4 r5 r6) h (fun b HF => by have h_ := ref_echo _ _ b A0 c0 x w hr0 hc0 hl HX HCNT HF; cases b <;> exact h_)
          · cases h
        split at h
        · rename_i e0
          subst e0
          split at h
          · exact smithyref16_Parse.ways (P := fun r1 r2 r3 r4 r5 r6 => Calls Tryz.prog 10 _ w fun ev w' => parseP w w' ev r1 r2 r3 r4 r5 r6) h (fun b HF => by have h_ := ref_touch _ b A0 c0 x w hr0 hc0 hl HX HCNT HF; cases b <;> exact h_)
          · cases h
        split at h
        · rename_i e0
          subst e0
          split at h
          · exact smithyref16_Parse.ways (P := fun r1 r2 r3 r4 r5 r6 => Calls Tryz.prog 10 _ w fun ev w' => parseP w w' ev r1 r2 r3 r4 r5 r6) h (fun b HF => by have h_ := ref_remove _ b A0 c0 x w hr0 hc0 hl HX HCNT HF; cases b <;> exact h_)
          · cases h
        split at h
        · rename_i e0
          subst e0
          split at h
          · exact smithyref16_Parse.ways (P := fun r1 r2 r3 r4 r5 r6 => Calls Tryz.prog 10 _ w fun ev w' => parseP w w' ev r1 r2 r3 r4 r5 r6) h (fun b HF => by have h_ := ref_test _ b A0 c0 x w hr0 hc0 hl HX HCNT HF; cases b <;> exact h_)
          · cases h
        split at h
        · rename_i e0
          subst e0
          split at h
          · exact smithyref16_Parse.ways (P := fun r1 r2 r3 r4 r5 r6 => Calls Tryz.prog 10 _ w fun ev w' => parseP w w' ev r1 r2 r3 r4 r5 r6) h (fun b HF => by have h_ := ref_fail b A0 c0 x w hr0 hc0 hl HX HCNT HF; cases b <;> exact h_)
          · replace h := Option.bind_eq_some_iff.1 h
            obtain ⟨v, hv, h⟩ := h
            have HS := smithyref16_Parse.stat_ hv
            split at h
            · rename_i hv0
              subst hv0
              cases h
              exact ref_fail_no _ A0 c0 x w hr0 hc0 hl HX HCNT HS
            · rename_i hv0
              exact smithyref16_Parse.ways (P := fun r1 r2 r3 r4 r5 r6 => Calls Tryz.prog 10 _ w fun ev w' => parseP w w' ev r1 r2 r3 r4 r5 r6) h (fun b HF => by have h_ := ref_failn _ v (beq_eq_false_iff_ne.2 hv0) b A0 c0 x w hr0 hc0 hl HX HCNT HF HS; cases b <;> exact h_)
          · cases h
        split at h
        · rename_i e0
          subst e0
          exact smithyref16_Parse.ways (P := fun r1 r2 r3 r4 r5 r6 => Calls Tryz.prog 10 _ w fun ev w' => parseP w w' ev r1 r2 r3 r4 r5 r6) h (fun b HF => by have h_ := ref_say _ b A0 c0 x w hr0 hc0 hl HX HCNT HF; cases b <;> exact h_)
        · cases h

/-! ### smithyref15_blank: function 60 -/
def smithyref15_blank.f (a0 : Int) : Option (Bool) := if a0 = 32 then (some true) else (some (a0 == 9))
set_option maxHeartbeats 8000000 in
set_option maxRecDepth 100000 in
theorem smithyref15_blank.calls (a0 : Int) (r : Bool) (w : World) (h : smithyref15_blank.f a0 = some r) :
    Calls Tryz.prog 60 #[.int .u8 a0] w fun e w' => e = .returned (.bool r) ∧ Drawn0 w w' := by
  have H : (if a0 = 32 then (some true) else (some (a0 == 9))) = some r := h
  clear h
  by_cases c2 : a0 = 32
  · rw [if_pos c2] at H
    have c2b0 : (a0 == 32) = true := beq_iff_eq.mpr c2
    have c2b1 : (a0 != 32) = false := bne_eq_false_iff_eq.mpr c2
    clear c2
    obtain rfl := Option.some.inj H
    go_enter Tryz.func60, Tryz.ntmps60
    go_wp2
    go_ret
    exact ⟨by first | rfl | (simp; done) | (simp [*]; done) | (simp; generalize ByteArray.toList _ = l_; cases l_ <;> rfl), by repeat (first | exact Drawn0.refl _ | apply Drawn0.step)⟩
  · rw [if_neg c2] at H
    have c2b0 : (a0 == 32) = false := beq_eq_false_iff_ne.mpr c2
    have c2b1 : (a0 != 32) = true := bne_iff_ne.mpr c2
    obtain rfl := Option.some.inj H
    go_enter Tryz.func60, Tryz.ntmps60
    go_wp2
    go_ret
    exact ⟨by first | rfl | (simp; done) | (simp [*]; done) | (simp; generalize ByteArray.toList _ = l_; cases l_ <;> rfl), by repeat (first | exact Drawn0.refl _ | apply Drawn0.step)⟩

/-! ### smithyref15_quoted: function 61 -/
open Go.Proofs.YtpiafpkpdbknfaaGreatDoor.Sup
def smithyref15_quoted.f (a0 : ByteArray) (a1 : Int) : Option (ByteArray × Int) :=
  if 0 ≤ a1 ∧ a1 < a0.size ∧ a0.size ≤ 140737488351232 then some (qW (lexq (a0.data.toList.drop (a1.toNat + 1)) [] (a1.toNat + 1)), rP (lexq (a0.data.toList.drop (a1.toNat + 1)) [] (a1.toNat + 1))) else none
theorem smithyref15_quoted.calls (a0 : ByteArray) (a1 : Int) (r1 : ByteArray) (r2 : Int) (w : World) (h : smithyref15_quoted.f a0 a1 = some (r1, r2)) :
    Calls Tryz.prog 61 #[.string a0, .int .i64 a1] w fun e w' => e = .returned (.tuple #[.string r1, .int .i64 r2]) ∧ Drawn0 w w' := by
  unfold smithyref15_quoted.f at h
  split at h
  · rename_i hc
    obtain ⟨h0, h1, h2⟩ := hc
    simp only [Option.some.injEq, Prod.mk.injEq] at h
    obtain ⟨rfl, rfl⟩ := h
    obtain ⟨n, rfl⟩ := Int.eq_ofNat_of_zero_le h0
    exact refquoted_walk a0 n w (by omega) h2
  · cases h

end Go.Proofs.YtpiafpkpdbknfaaGreatDoor.PCmdLines
