/- cmd.Parse: too many words, none, no such command, a wrong count of operands. Conditions: those in each statement. -/
import Derived.Test.YtpiafpkpdbknfaaGreatDoorSParse
namespace Go.Proofs.YtpiafpkpdbknfaaGreatDoor.Sup
open Go.RowKit Go.Proofs.YtpiafpkpdbknfaaGreatDoorW.PrintWords Go.Proofs.YtpiafpkpdbknfaaGreatDoorW.PrintLast Go.Proofs.YtpiafpkpdbknfaaGreatDoorW.PrintMore
attribute [local go_sem] max2_int min2_int max_two min_two max_three min_three max_four min_four
set_option linter.unusedVariables false
set_option linter.unusedSimpArgs false
set_option maxHeartbeats 1000000 in
set_option maxRecDepth 100000 in
theorem parse_long (A0 : Option Addr) (n c0 : Nat) (w : World) (hl : 514 < n) (hn : n ≤ 9223372036854775807) :
    Calls Tryz.prog 9 #[.slice A0 n c0] w fun ev w' => parseP w w' ev 0 ByteArray.empty [] [] 0 2 := by
  have b1 : decide ((n : Int) > 514) = true := decide_eq_true (by omega)
  go_enter Tryz.func9, Tryz.ntmps9
  go_wp2
  refine bodyPost_ret (results_ct rfl _ _ w.heap.size 24 _ (0, 0) _ rfl (alloc_top _ _) Tryz.underlying24 rfl (by kernel_rfl)) rfl ?_
  refine ⟨⟨_, _, by first | rfl | (simp; done), Kd.V_nil _ _ _ _ _, Kd.V_nil _ _ _ _ _⟩, ?_⟩
  repeat (first | exact Below.refl _ _ | apply below_alloc | apply pw_below_drewN | apply below_drew1 | refine below_set ?_ (Nat.le_refl _))
set_option maxHeartbeats 1000000 in
set_option maxRecDepth 100000 in
theorem parse_none (A0 : Option Addr) (c0 : Nat) (w : World) :
    Calls Tryz.prog 9 #[.slice A0 0 c0] w fun ev w' => parseP w w' ev 0 ByteArray.empty [] [] 0 9 := by
  go_enter Tryz.func9, Tryz.ntmps9
  go_wp2
  refine bodyPost_ret (results_ct rfl _ _ w.heap.size 24 _ (0, 0) _ rfl (alloc_top _ _) Tryz.underlying24 rfl (by kernel_rfl)) rfl ?_
  refine ⟨⟨_, _, by first | rfl | (simp; done), Kd.V_nil _ _ _ _ _, Kd.V_nil _ _ _ _ _⟩, ?_⟩
  repeat (first | exact Below.refl _ _ | apply below_alloc | apply pw_below_drewN | apply below_drew1 | refine below_set ?_ (Nat.le_refl _))
set_option maxHeartbeats 1000000 in
set_option maxRecDepth 100000 in
theorem parse_bad (l : List ByteArray) (A0 : Option Addr) (c0 : Nat) (x : ByteArray) (w : World) (hr : Kd.C Kd.string w A0 (x :: l).length (x :: l)) (hc : (x :: l).length ≤ c0) (hl : (x :: l).length ≤ 514)
    (HH : HeadsOk) (HL : CloneOk) (HX : IndexOk x (-1)) :
    Calls Tryz.prog 9 #[.slice A0 (x :: l).length c0] w fun ev w' => parseP w w' ev 0 ByteArray.empty [] [] 0 160 := by
  obtain ⟨ad, A1, rfl, hcell, hcut, hrun⟩ := words_cut hr hc
  have HCUT := Aside0.mk hcut
  rw [List.length_cons] at hl hc ⊢
  have HC := Aside0.mk hc
  clear hcut hc hr
  obtain ⟨n, hn⟩ : ∃ n, (l).length + 1 = n := ⟨_, rfl⟩
  rw [hn] at hl hrun ⊢
  have b1 : decide ((n : Int) > 514) = false := decide_eq_false (by omega)
  have b2 : ((n : Int) == 0) = false := beq_eq_false_iff_ne.2 (by omega)
  have p0 : (0 : Int) < (n : Int) := by omega
  have pn : 0 < n := by omega
  have pz : n ≠ 0 := by omega
  have pz2 : ¬ n ≤ 0 := by omega
  obtain ⟨m, hm⟩ : ∃ m, (l).length = m := ⟨_, rfl⟩
  rw [hm] at hrun hn
  have HN := Aside0.mk hn
  have HM := Aside0.mk hm
  clear hn hm
  have hlt := World.block_lt_of_cell? _ _ hcell
  have hnew := World.new_ne w ad hcell
  have hw0 : IntKind.i64.wrap 0 = 0 := by decide
  go_enter Tryz.func9, Tryz.ntmps9
  go_wp2
  go_region_held3 (fun w' => w'.cell? ad = some (.string x)) (first | with_reducible assumption | go_keep)
    (first
    | (go_at_call 31; refine (HH _).mono ?_; rintro e w1 ⟨g, cap, rfl, hcap, hhc, hb, hc1⟩; have hcell1 := cell_kept hb hcell; have q1 : (1 : Int) ≤ (9 : Int) := by decide)
    | (go_at_call 30; refine calls_of_args (args' := #[.slice (some ⟨g, 1, none⟩) 8 (cap - 1), .string x]) (by first | with_reducible rfl | (simp [hc1, Addr.add]; done)) ?_; with_reducible refine (index_at HX g cap _ hcap hhc).mono ?_; rintro e w2 ⟨rfl, ⟨nd, rfl⟩⟩))
  have hbox := box_kept hb
  have HB1 := Aside0.mk (Below.trans (((Below.refl w.heap.size w).alloc (Nat.le_refl _) _).drew) (hb.mono (by show w.heap.size ≤ (w.heap.push _).size; rw [Array.size_push]; omega)))
  have HC1 := Aside0.mk (Kd.C_below HCUT.out HB1.out)
  have HBOX := Aside0.mk hbox
  clear hb hbox
  go_wp2_with (first
    | (go_at_call 32; refine (HL A1 (c0 - 1) m (l) _ HM.out (by have := HC.out; have := HN.out; have := HM.out; omega) (by have := HM.out; have := HN.out; omega) (Kd.C_drewN HC1.out _)).mono ?_; rintro e w3 ⟨A2, c2, rfl, ho, hb3⟩; have hbox3 := box_step hb3.out HBOX.out; have x0 := (box_cell (j := 0) hbox3); have x1 := (box_cell (j := 1) hbox3); have x2 := (box_cell (j := 2) hbox3); have x3 := (box_cell (j := 3) hbox3); have x4 := (box_cell (j := 4) hbox3); obtain ⟨x0, y0⟩ := x0; obtain ⟨x1, y1⟩ := x1; obtain ⟨x2, y2⟩ := x2; obtain ⟨x3, y3⟩ := x3; obtain ⟨x4, y4⟩ := x4; simp only [List.getElem?_toArray, List.getElem?_cons_zero, List.getElem?_cons_succ] at x0 x1 x2 x3 x4; have HBOX3 := Aside0.mk hbox3; clear hbox3))
  have hB3 : Below w.heap.size w w3 := below_via HB1.out hb3.out
  refine bodyPost_ret (results_ct rfl _ _ w.heap.size 24 _ (0, 0) _ rfl (box_set (box_set (box_set (box_set (box_set HBOX3.out))))) Tryz.underlying24 rfl (by kernel_rfl)) rfl ?_
  refine ⟨⟨_, _, rfl, Kd.V_nil _ _ _ _ _, Kd.V_nil _ _ _ _ _⟩, ?_⟩
  exact ((((hB3.setCell (Nat.le_refl _) _).setCell (Nat.le_refl _) _).setCell (Nat.le_refl _) _).setCell (Nat.le_refl _) _).setCell (Nat.le_refl _) _
set_option maxHeartbeats 1000000 in
set_option maxRecDepth 100000 in
theorem parse_cnt (l : List ByteArray) (i op : Int) (hop : IntKind.i64.wrap (i + 1) = op) (h0 : (op == 0) = false) (A0 : Option Addr) (c0 : Nat) (x : ByteArray) (w : World) (hr : Kd.C Kd.string w A0 (x :: l).length (x :: l)) (hc : (x :: l).length ≤ c0) (hl : (x :: l).length ≤ 514)
    (HH : HeadsOk) (HL : CloneOk) (HX : IndexOk x i) (HCNT : CountOk op (l.length : Int) false) :
    Calls Tryz.prog 9 #[.slice A0 (x :: l).length c0] w fun ev w' => parseP w w' ev 0 ByteArray.empty [] [] 0 160 := by
  obtain ⟨ad, A1, rfl, hcell, hcut, hrun⟩ := words_cut hr hc
  have HCUT := Aside0.mk hcut
  rw [List.length_cons] at hl hc ⊢
  have HC := Aside0.mk hc
  clear hcut hc hr
  obtain ⟨n, hn⟩ : ∃ n, (l).length + 1 = n := ⟨_, rfl⟩
  rw [hn] at hl hrun ⊢
  have b1 : decide ((n : Int) > 514) = false := decide_eq_false (by omega)
  have b2 : ((n : Int) == 0) = false := beq_eq_false_iff_ne.2 (by omega)
  have p0 : (0 : Int) < (n : Int) := by omega
  have pn : 0 < n := by omega
  have pz : n ≠ 0 := by omega
  have pz2 : ¬ n ≤ 0 := by omega
  obtain ⟨m, hm⟩ : ∃ m, (l).length = m := ⟨_, rfl⟩
  rw [hm] at hrun hn
  have HN := Aside0.mk hn
  have HM := Aside0.mk hm
  clear hn hm
  have hlt := World.block_lt_of_cell? _ _ hcell
  have hnew := World.new_ne w ad hcell
  have hw0 : IntKind.i64.wrap 0 = 0 := by decide
  go_enter Tryz.func9, Tryz.ntmps9
  go_wp2
  go_region_held3 (fun w' => w'.cell? ad = some (.string x)) (first | with_reducible assumption | go_keep)
    (first
    | (go_at_call 31; refine (HH _).mono ?_; rintro e w1 ⟨g, cap, rfl, hcap, hhc, hb, hc1⟩; have hcell1 := cell_kept hb hcell; have q1 : (1 : Int) ≤ (9 : Int) := by decide)
    | (go_at_call 30; refine calls_of_args (args' := #[.slice (some ⟨g, 1, none⟩) 8 (cap - 1), .string x]) (by first | with_reducible rfl | (simp [hc1, Addr.add]; done)) ?_; with_reducible refine (index_at HX g cap _ hcap hhc).mono ?_; rintro e w2 ⟨rfl, ⟨nd, rfl⟩⟩))
  have hbox := box_kept hb
  have HB1 := Aside0.mk (Below.trans (((Below.refl w.heap.size w).alloc (Nat.le_refl _) _).drew) (hb.mono (by show w.heap.size ≤ (w.heap.push _).size; rw [Array.size_push]; omega)))
  have HC1 := Aside0.mk (Kd.C_below HCUT.out HB1.out)
  have HBOX := Aside0.mk hbox
  clear hb hbox
  go_wp2_with (first
    | (go_at_call 32; refine (HL A1 (c0 - 1) m (l) _ HM.out (by have := HC.out; have := HN.out; have := HM.out; omega) (by have := HM.out; have := HN.out; omega) (Kd.C_drewN HC1.out _)).mono ?_; rintro e w3 ⟨A2, c2, rfl, ho, hb3⟩; have hbox3 := box_step hb3.out HBOX.out; have x0 := (box_cell (j := 0) hbox3); have x1 := (box_cell (j := 1) hbox3); have x2 := (box_cell (j := 2) hbox3); have x3 := (box_cell (j := 3) hbox3); have x4 := (box_cell (j := 4) hbox3); obtain ⟨x0, y0⟩ := x0; obtain ⟨x1, y1⟩ := x1; obtain ⟨x2, y2⟩ := x2; obtain ⟨x3, y3⟩ := x3; obtain ⟨x4, y4⟩ := x4; simp only [List.getElem?_toArray, List.getElem?_cons_zero, List.getElem?_cons_succ] at x0 x1 x2 x3 x4; have HBOX3 := Aside0.mk hbox3; clear hbox3)
    | (go_at_call 33; with_reducible refine (count_at HCNT HM.out _).mono ?_; rintro e w4 ⟨rfl, ⟨nd2, rfl⟩⟩))
  have hB3 : Below w.heap.size w w3 := below_via HB1.out hb3.out
  refine bodyPost_ret (results_ct rfl _ _ w.heap.size 24 _ (0, 0) _ rfl (box_set (box_set (box_set (box_set (box_set HBOX3.out))))) Tryz.underlying24 rfl (by kernel_rfl)) rfl ?_
  refine ⟨⟨_, _, rfl, Kd.V_nil _ _ _ _ _, Kd.V_nil _ _ _ _ _⟩, ?_⟩
  exact (((((pw_below_drewN hB3 nd2).setCell (Nat.le_refl _) _).setCell (Nat.le_refl _) _).setCell (Nat.le_refl _) _).setCell (Nat.le_refl _) _).setCell (Nat.le_refl _) _
end Go.Proofs.YtpiafpkpdbknfaaGreatDoor.Sup
