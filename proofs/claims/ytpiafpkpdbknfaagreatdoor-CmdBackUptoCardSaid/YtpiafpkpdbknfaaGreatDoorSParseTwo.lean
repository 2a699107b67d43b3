/- cmd.Parse: 'echo-to', 'concat', 'copy'. Conditions: those in each statement. -/
import Derived.Test.YtpiafpkpdbknfaaGreatDoorSParse
namespace Go.Proofs.YtpiafpkpdbknfaaGreatDoor.Sup
open Go.RowKit Go.Proofs.YtpiafpkpdbknfaaGreatDoorW.PrintWords Go.Proofs.YtpiafpkpdbknfaaGreatDoorW.PrintLast Go.Proofs.YtpiafpkpdbknfaaGreatDoorW.PrintMore
attribute [local go_sem] max2_int min2_int max_two min_two max_three min_three max_four min_four
set_option linter.unusedVariables false
set_option linter.unusedSimpArgs false
set_option maxHeartbeats 1000000 in
set_option maxRecDepth 100000 in
theorem parse_echo (d : ByteArray) (ws : List ByteArray) (b : Bool) (er : Int) (her : cond b (er = 0) ((er != 0) = true)) (A0 : Option Addr) (c0 : Nat) (x : ByteArray) (w : World) (hr : Kd.C Kd.string w A0 (x :: (d :: ws)).length (x :: (d :: ws))) (hc : (x :: (d :: ws)).length ≤ c0) (hl : (x :: (d :: ws)).length ≤ 514)
    (HH : HeadsOk) (HL : CloneOk) (HX : IndexOk x 2) (HCNT : CountOk 3 ((d :: ws).length : Int) true) (HF : FilesOk [d] er) :
    Calls Tryz.prog 9 #[.slice A0 (x :: (d :: ws)).length c0] w fun ev w' => parseP w w' ev (cond b 3 0) (cond b d ByteArray.empty) [] (cond b ws []) 0 (cond b 0 er) := by
  cases b <;> dsimp only [cond] at her ⊢ <;> first | subst her | skip
  all_goals
    obtain ⟨ad, A1, rfl, hcell, hcut, hrun⟩ := words_cut hr hc
    have HCUT := Aside0.mk hcut
    rw [List.length_cons] at hl hc ⊢
    have HC := Aside0.mk hc
    clear hcut hc hr
    obtain ⟨n, hn⟩ : ∃ n, ((d :: ws)).length + 1 = n := ⟨_, rfl⟩
    rw [hn] at hl hrun ⊢
    have b1 : decide ((n : Int) > 514) = false := decide_eq_false (by omega)
    have b2 : ((n : Int) == 0) = false := beq_eq_false_iff_ne.2 (by omega)
    have p0 : (0 : Int) < (n : Int) := by omega
    have pn : 0 < n := by omega
    have pz : n ≠ 0 := by omega
    have pz2 : ¬ n ≤ 0 := by omega
    obtain ⟨m, hm⟩ : ∃ m, ((d :: ws)).length = m := ⟨_, rfl⟩
    rw [hm] at hrun hn
    have HN := Aside0.mk hn
    have HM := Aside0.mk hm
    clear hn hm
    have hlt := World.block_lt_of_cell? _ _ hcell
    have hnew := World.new_ne w ad hcell
    have hw0 : IntKind.i64.wrap 3 = 3 := by decide
    go_enter Tryz.func9, Tryz.ntmps9
    go_wp2
    go_region_held3 (fun w' => w'.cell? ad = some (.string x)) (first | with_reducible assumption | go_keep)
      (first
      | (go_at_call 31; refine (HH _).mono ?_; rintro e w1 ⟨g, cap, rfl, hcap, hhc, hb, hc1⟩; have hcell1 := cell_kept hb hcell; have q1 : (1 : Int) ≤ (9 : Int) := by decide)
      | (go_at_call 30; refine calls_of_args (args' := #[.slice (some ⟨g, 1, none⟩) 8 (cap - 1), .string x]) (by first | with_reducible rfl | (simp [hc1, Addr.add]; done)) ?_; with_reducible refine (index_at HX g cap _ hcap hhc).mono ?_; rintro e w2 ⟨rfl, ⟨nd, rfl⟩⟩))
    have hbox := box_kept hb
    have HB1 := Aside0.mk (Below.trans (((Below.refl w.heap.size w).alloc (Nat.le_refl _) _).drew) (hb.mono (by show w.heap.size ≤ (w.heap.push _).size; rw [Array.size_push]; omega)))
    have HC1 := Aside0.mk (Kd.C_below HCUT.out HB1.out)
    have HBOX := Aside0.mk hbox
    clear hb hbox
    go_upto_region 9 with (first
      | (go_at_call 32; refine (HL A1 (c0 - 1) m ((d :: ws)) _ HM.out (by have := HC.out; have := HN.out; have := HM.out; omega) (by have := HM.out; have := HN.out; omega) (Kd.C_drewN HC1.out _)).mono ?_; rintro e w3 ⟨A2, c2, rfl, ho, hb3⟩; have hbox3 := box_step hb3.out HBOX.out; have hne0 : (w3.heap.size = w.heap.size) = False := eq_false (Nat.ne_of_gt (Array.getElem?_eq_some_iff.1 hbox3).1); have hne1 : (w.heap.size = w3.heap.size) = False := eq_false (Nat.ne_of_lt (Array.getElem?_eq_some_iff.1 hbox3).1); have HBOX3 := Aside0.mk hbox3; clear hbox3)
      | (go_at_call 33; with_reducible refine (count_at HCNT HM.out _).mono ?_; rintro e w4 ⟨rfl, ⟨nd2, rfl⟩⟩))
    have hbx := alloc_top2 w3 nd2 (Obj.cells #[.int .i64 0, .string ⟨#[]⟩, .slice none 0 0, .slice none 0 0, .int .i64 0] 24)
    obtain ⟨⟨u0, v0⟩, ⟨u1, v1⟩, ⟨u2, v2⟩, ⟨u3, v3⟩, ⟨u4, v4⟩⟩ := box5 hbx
    clear hbx
    go_upto_region 10 with (fail)
    clear u0 u1 u2 u3 u4 v0 v1 v2 v3 v4
    obtain ⟨W4, hW4⟩ : ∃ W4, W4 = (((((((w3.drewN nd2).alloc (Obj.cells #[.int .i64 0, .string ⟨#[]⟩, .slice none 0 0, .slice none 0 0, .int .i64 0] 24)).setCell ⟨w3.heap.size, 0, none⟩ (.int .i64 3)).setCell ⟨w3.heap.size, 1, none⟩ (.string ⟨#[]⟩)).setCell ⟨w3.heap.size, 2, none⟩ (.slice none 0 0)).setCell ⟨w3.heap.size, 3, none⟩ (.slice none 0 0)).setCell ⟨w3.heap.size, 4, none⟩ (.int .i64 0)) := ⟨_, rfl⟩
    rw [← hW4]
    have hb4 : W4.heap[w3.heap.size]? = some (.cells #[.int .i64 3, .string ⟨#[]⟩, .slice none 0 0, .slice none 0 0, .int .i64 0] 24 (0, 0)) := by
      rw [hW4]
      exact box_set (box_set (box_set (box_set (box_set (alloc_top2 w3 nd2 _)))))
    have hk4 : ∀ k, k < w3.heap.size → W4.heap[k]? = w3.heap[k]? := by
      intro k hk
      rw [hW4]
      exact w4_kept w3 nd2 k hk
    obtain ⟨u1, v1⟩ := box_cell (j := 1) hb4
    obtain ⟨u3, v3⟩ := box_cell (j := 3) hb4
    simp only [List.getElem?_toArray, List.getElem?_cons_zero, List.getElem?_cons_succ] at u1 u3
    have hm2 := (Kd.R_reads' ho.out).2.1
    have hmm := HM.out
    obtain ⟨ad2, A3, rfl, hd2, hc3, hrun3⟩ := words_cut' (c0 := c2) (c_keep (wf := W4) ho.out (fun k _ hk => hk4 k hk)) (by omega)
    rw [show ws.length + 1 = m from hmm] at hrun3
    obtain ⟨p, hp⟩ : ∃ p, ws.length = p := ⟨_, rfl⟩
    rw [hp] at hrun3
    have q01 : (0 : Int) < (m : Int) := by have : ws.length + 1 = m := hmm; omega
    have q02 : 0 < m := by omega
    have hlt2 : ad2.block < w3.heap.size := by
      obtain ⟨ad3, e3, h3⟩ := c_first' (Kd.R_reads' ho.out).2.2
      cases e3
      exact World.block_lt_of_cell? _ _ h3
    have hne2 : ad2.block ≠ w3.heap.size := by omega
    have HB4 := Aside0.mk hb4
    have HK4 := Aside0.mk hk4
    have HW4 := Aside0.mk hW4
    clear hb4 hk4 hW4
    have HC3 := Aside0.mk hc3
    have HP := Aside0.mk hp
    clear hc3 hp hmm
    obtain ⟨i09, hi09, _, _, _⟩ := info_parts infoS_
    have hrun4 : ∀ W : World, Sem.run Tryz.prog (Instr.slice 22 (.slice (some ad2) m c2) none (some (.int .i64 1)) none) W = .ok (.slice (some ad2) 1 c2) W := cut_to (P := Tryz.prog) 22 9 .i64 Tryz.underlying22 hi09 (some ad2) m c2 1 (by decide) (by omega) hm2
    clear hi09
    go_upto_region 19 with (fail)
    go_region_held3 (fun w' => w'.cell? ad2 = some (.string d)) (first | with_reducible assumption | (refine cell_far hne2 ?_; first | with_reducible assumption | (refine cell_far hne2 ?_; with_reducible assumption)) | (refine cell_far' hne2 ?_; first | with_reducible assumption | (refine cell_far hne2 ?_; with_reducible assumption)) | go_keep) (fail)
    go_upto_region 35 with (first
      | (go_at_call 36; refine (files_at HF rfl (Nat.le_trans q02 hm2) (c_keep1 ho.out (fun k_ _ hk_ => (far2 (Nat.ne_of_lt hk_)).trans (HK4.out k_ hk_)))).mono ?_; rintro e w5 ⟨rfl, ⟨nd3, rfl⟩⟩))
    clear u1 u3 v1 v3
    obtain ⟨W6, hW6⟩ : ∃ W6, W6 = ((W4.setCell ⟨w3.heap.size, 1, none⟩ (.string d)).setCell ⟨w3.heap.size, 3, none⟩ (.slice A3 p (c2 - 1))).drewN (1 + nd3) := ⟨_, rfl⟩
    rw [← hW6]
    have hlt1 : w.heap.size < w3.heap.size := (Array.getElem?_eq_some_iff.1 HBOX3.out).1
    have hb6 : W6.heap[w3.heap.size]? = some (.cells #[.int .i64 3, .string d, .slice none 0 0, .slice A3 p (c2 - 1), .int .i64 0] 24 (0, 0)) := by
      rw [hW6]
      exact box_set (box_set HB4.out)
    have hk6 : ∀ k, k < w3.heap.size → W6.heap[k]? = w3.heap[k]? := by
      intro k hk
      rw [hW6]
      exact (far2 (Nat.ne_of_lt hk)).trans (HK4.out k hk)
    have hc6 := (hk6 w.heap.size hlt1).trans HBOX3.out
    obtain ⟨⟨u0, v0⟩, ⟨u1, v1⟩, ⟨u2, v2⟩, ⟨u3, v3⟩, ⟨u4, v4⟩⟩ := box5 hb6
    obtain ⟨⟨x0, y0⟩, ⟨x1, y1⟩, ⟨x2, y2⟩, ⟨x3, y3⟩, ⟨x4, y4⟩⟩ := box5 hc6
    have HC6 := Aside0.mk hc6
    have HK6 := Aside0.mk hk6
    have HW6 := Aside0.mk hW6
    have HLT1 := Aside0.mk hlt1
    clear hb6 hc6 hk6 hW6 hlt1 v0 v1 v2 v3 v4
    go_wp2
    have hle : w.heap.size ≤ w3.heap.size := Nat.le_of_lt HLT1.out
    have hB3 : Below w.heap.size w w3 := below_via HB1.out hb3.out
    have hB6 : Below w.heap.size w W6 := by
      rw [HW6.out, HW4.out]
      exact pw_below_drewN ((((((((pw_below_drewN hB3 nd2).alloc hle _).setCell hle _).setCell hle _).setCell hle _).setCell hle _).setCell hle _) |>.setCell hle _ |>.setCell hle _) (1 + nd3)
    have hw1 : w.heap.size < w1.heap.size := (Array.getElem?_eq_some_iff.1 HBOX.out).1
    refine bodyPost_ret (results_ct rfl _ _ w.heap.size 24 _ (0, 0) _ rfl (box_set (box_set (box_set (box_set (box_set HC6.out))))) Tryz.underlying24 rfl (by rfl)) rfl ?_
    first | exact ⟨⟨_, _, rfl, Kd.V_nil _ _ _ _ _, rest_keep ho.out HC3.out HP.out (Nat.le_of_lt hw1) (fun k hk hlt => (set5 (fun e_ => absurd (Nat.lt_of_lt_of_le hw1 hk) (by omega))).trans (HK6.out k hlt))⟩, below5 hB6 (Nat.le_refl _)⟩ | exact ⟨⟨_, _, rfl, Kd.V_nil _ _ _ _ _, Kd.V_nil _ _ _ _ _⟩, below5 hB6 (Nat.le_refl _)⟩
set_option maxHeartbeats 1000000 in
set_option maxRecDepth 100000 in
theorem parse_concat (d : ByteArray) (ws : List ByteArray) (b : Bool) (er : Int) (her : cond b (er = 0) ((er != 0) = true)) (A0 : Option Addr) (c0 : Nat) (x : ByteArray) (w : World) (hr : Kd.C Kd.string w A0 (x :: (d :: ws)).length (x :: (d :: ws))) (hc : (x :: (d :: ws)).length ≤ c0) (hl : (x :: (d :: ws)).length ≤ 514)
    (HH : HeadsOk) (HL : CloneOk) (HX : IndexOk x 1) (HCNT : CountOk 2 ((d :: ws).length : Int) true) (HF : FilesOk (d :: ws) er) :
    Calls Tryz.prog 9 #[.slice A0 (x :: (d :: ws)).length c0] w fun ev w' => parseP w w' ev (cond b 2 0) (cond b d ByteArray.empty) (cond b ws []) [] 0 (cond b 0 er) := by
  cases b <;> dsimp only [cond] at her ⊢ <;> first | subst her | skip
  all_goals
    obtain ⟨ad, A1, rfl, hcell, hcut, hrun⟩ := words_cut hr hc
    have HCUT := Aside0.mk hcut
    rw [List.length_cons] at hl hc ⊢
    have HC := Aside0.mk hc
    clear hcut hc hr
    obtain ⟨n, hn⟩ : ∃ n, ((d :: ws)).length + 1 = n := ⟨_, rfl⟩
    rw [hn] at hl hrun ⊢
    have b1 : decide ((n : Int) > 514) = false := decide_eq_false (by omega)
    have b2 : ((n : Int) == 0) = false := beq_eq_false_iff_ne.2 (by omega)
    have p0 : (0 : Int) < (n : Int) := by omega
    have pn : 0 < n := by omega
    have pz : n ≠ 0 := by omega
    have pz2 : ¬ n ≤ 0 := by omega
    obtain ⟨m, hm⟩ : ∃ m, ((d :: ws)).length = m := ⟨_, rfl⟩
    rw [hm] at hrun hn
    have HN := Aside0.mk hn
    have HM := Aside0.mk hm
    clear hn hm
    have hlt := World.block_lt_of_cell? _ _ hcell
    have hnew := World.new_ne w ad hcell
    have hw0 : IntKind.i64.wrap 2 = 2 := by decide
    go_enter Tryz.func9, Tryz.ntmps9
    go_wp2
    go_region_held3 (fun w' => w'.cell? ad = some (.string x)) (first | with_reducible assumption | go_keep)
      (first
      | (go_at_call 31; refine (HH _).mono ?_; rintro e w1 ⟨g, cap, rfl, hcap, hhc, hb, hc1⟩; have hcell1 := cell_kept hb hcell; have q1 : (1 : Int) ≤ (9 : Int) := by decide)
      | (go_at_call 30; refine calls_of_args (args' := #[.slice (some ⟨g, 1, none⟩) 8 (cap - 1), .string x]) (by first | with_reducible rfl | (simp [hc1, Addr.add]; done)) ?_; with_reducible refine (index_at HX g cap _ hcap hhc).mono ?_; rintro e w2 ⟨rfl, ⟨nd, rfl⟩⟩))
    have hbox := box_kept hb
    have HB1 := Aside0.mk (Below.trans (((Below.refl w.heap.size w).alloc (Nat.le_refl _) _).drew) (hb.mono (by show w.heap.size ≤ (w.heap.push _).size; rw [Array.size_push]; omega)))
    have HC1 := Aside0.mk (Kd.C_below HCUT.out HB1.out)
    have HBOX := Aside0.mk hbox
    clear hb hbox
    go_upto_region 9 with (first
      | (go_at_call 32; refine (HL A1 (c0 - 1) m ((d :: ws)) _ HM.out (by have := HC.out; have := HN.out; have := HM.out; omega) (by have := HM.out; have := HN.out; omega) (Kd.C_drewN HC1.out _)).mono ?_; rintro e w3 ⟨A2, c2, rfl, ho, hb3⟩; have hbox3 := box_step hb3.out HBOX.out; have hne0 : (w3.heap.size = w.heap.size) = False := eq_false (Nat.ne_of_gt (Array.getElem?_eq_some_iff.1 hbox3).1); have hne1 : (w.heap.size = w3.heap.size) = False := eq_false (Nat.ne_of_lt (Array.getElem?_eq_some_iff.1 hbox3).1); have HBOX3 := Aside0.mk hbox3; clear hbox3)
      | (go_at_call 33; with_reducible refine (count_at HCNT HM.out _).mono ?_; rintro e w4 ⟨rfl, ⟨nd2, rfl⟩⟩))
    have hbx := alloc_top2 w3 nd2 (Obj.cells #[.int .i64 0, .string ⟨#[]⟩, .slice none 0 0, .slice none 0 0, .int .i64 0] 24)
    obtain ⟨⟨u0, v0⟩, ⟨u1, v1⟩, ⟨u2, v2⟩, ⟨u3, v3⟩, ⟨u4, v4⟩⟩ := box5 hbx
    clear hbx
    go_upto_region 10 with (fail)
    clear u0 u1 u2 u3 u4 v0 v1 v2 v3 v4
    obtain ⟨W4, hW4⟩ : ∃ W4, W4 = (((((((w3.drewN nd2).alloc (Obj.cells #[.int .i64 0, .string ⟨#[]⟩, .slice none 0 0, .slice none 0 0, .int .i64 0] 24)).setCell ⟨w3.heap.size, 0, none⟩ (.int .i64 2)).setCell ⟨w3.heap.size, 1, none⟩ (.string ⟨#[]⟩)).setCell ⟨w3.heap.size, 2, none⟩ (.slice none 0 0)).setCell ⟨w3.heap.size, 3, none⟩ (.slice none 0 0)).setCell ⟨w3.heap.size, 4, none⟩ (.int .i64 0)) := ⟨_, rfl⟩
    rw [← hW4]
    have hb4 : W4.heap[w3.heap.size]? = some (.cells #[.int .i64 2, .string ⟨#[]⟩, .slice none 0 0, .slice none 0 0, .int .i64 0] 24 (0, 0)) := by
      rw [hW4]
      exact box_set (box_set (box_set (box_set (box_set (alloc_top2 w3 nd2 _)))))
    have hk4 : ∀ k, k < w3.heap.size → W4.heap[k]? = w3.heap[k]? := by
      intro k hk
      rw [hW4]
      exact w4_kept w3 nd2 k hk
    obtain ⟨u1, v1⟩ := box_cell (j := 1) hb4
    obtain ⟨u3, v3⟩ := box_cell (j := 2) hb4
    simp only [List.getElem?_toArray, List.getElem?_cons_zero, List.getElem?_cons_succ] at u1 u3
    have hm2 := (Kd.R_reads' ho.out).2.1
    have hmm := HM.out
    obtain ⟨ad2, A3, rfl, hd2, hc3, hrun3⟩ := words_cut' (c0 := c2) (c_keep (wf := W4) ho.out (fun k _ hk => hk4 k hk)) (by omega)
    rw [show ws.length + 1 = m from hmm] at hrun3
    obtain ⟨p, hp⟩ : ∃ p, ws.length = p := ⟨_, rfl⟩
    rw [hp] at hrun3
    have q01 : (0 : Int) < (m : Int) := by have : ws.length + 1 = m := hmm; omega
    have q02 : 0 < m := by omega
    have hlt2 : ad2.block < w3.heap.size := by
      obtain ⟨ad3, e3, h3⟩ := c_first' (Kd.R_reads' ho.out).2.2
      cases e3
      exact World.block_lt_of_cell? _ _ h3
    have hne2 : ad2.block ≠ w3.heap.size := by omega
    have HB4 := Aside0.mk hb4
    have HK4 := Aside0.mk hk4
    have HW4 := Aside0.mk hW4
    clear hb4 hk4 hW4
    have HC3 := Aside0.mk hc3
    have HP := Aside0.mk hp
    clear hc3 hp hmm
    go_upto_region 17 with (fail)
    go_region_held3 (fun w' => w'.cell? ad2 = some (.string d)) (first | with_reducible assumption | (refine cell_far hne2 ?_; first | with_reducible assumption | (refine cell_far hne2 ?_; with_reducible assumption)) | (refine cell_far' hne2 ?_; first | with_reducible assumption | (refine cell_far hne2 ?_; with_reducible assumption)) | go_keep) (fail)
    go_upto_region 35 with (first
      | (go_at_call 36; refine (files_at HF HM.out hm2 (c_keep ho.out (fun k_ _ hk_ => (far2 (Nat.ne_of_lt hk_)).trans (HK4.out k_ hk_)))).mono ?_; rintro e w5 ⟨rfl, ⟨nd3, rfl⟩⟩))
    clear u1 u3 v1 v3
    obtain ⟨W6, hW6⟩ : ∃ W6, W6 = ((W4.setCell ⟨w3.heap.size, 1, none⟩ (.string d)).setCell ⟨w3.heap.size, 2, none⟩ (.slice A3 p (c2 - 1))).drewN (1 + nd3) := ⟨_, rfl⟩
    rw [← hW6]
    have hlt1 : w.heap.size < w3.heap.size := (Array.getElem?_eq_some_iff.1 HBOX3.out).1
    have hb6 : W6.heap[w3.heap.size]? = some (.cells #[.int .i64 2, .string d, .slice A3 p (c2 - 1), .slice none 0 0, .int .i64 0] 24 (0, 0)) := by
      rw [hW6]
      exact box_set (box_set HB4.out)
    have hk6 : ∀ k, k < w3.heap.size → W6.heap[k]? = w3.heap[k]? := by
      intro k hk
      rw [hW6]
      exact (far2 (Nat.ne_of_lt hk)).trans (HK4.out k hk)
    have hc6 := (hk6 w.heap.size hlt1).trans HBOX3.out
    obtain ⟨⟨u0, v0⟩, ⟨u1, v1⟩, ⟨u2, v2⟩, ⟨u3, v3⟩, ⟨u4, v4⟩⟩ := box5 hb6
    obtain ⟨⟨x0, y0⟩, ⟨x1, y1⟩, ⟨x2, y2⟩, ⟨x3, y3⟩, ⟨x4, y4⟩⟩ := box5 hc6
    have HC6 := Aside0.mk hc6
    have HK6 := Aside0.mk hk6
    have HW6 := Aside0.mk hW6
    have HLT1 := Aside0.mk hlt1
    clear hb6 hc6 hk6 hW6 hlt1 v0 v1 v2 v3 v4
    go_wp2
    have hle : w.heap.size ≤ w3.heap.size := Nat.le_of_lt HLT1.out
    have hB3 : Below w.heap.size w w3 := below_via HB1.out hb3.out
    have hB6 : Below w.heap.size w W6 := by
      rw [HW6.out, HW4.out]
      exact pw_below_drewN ((((((((pw_below_drewN hB3 nd2).alloc hle _).setCell hle _).setCell hle _).setCell hle _).setCell hle _).setCell hle _) |>.setCell hle _ |>.setCell hle _) (1 + nd3)
    have hw1 : w.heap.size < w1.heap.size := (Array.getElem?_eq_some_iff.1 HBOX.out).1
    refine bodyPost_ret (results_ct rfl _ _ w.heap.size 24 _ (0, 0) _ rfl (box_set (box_set (box_set (box_set (box_set HC6.out))))) Tryz.underlying24 rfl (by rfl)) rfl ?_
    first | exact ⟨⟨_, _, rfl, rest_keep ho.out HC3.out HP.out (Nat.le_of_lt hw1) (fun k hk hlt => (set5 (fun e_ => absurd (Nat.lt_of_lt_of_le hw1 hk) (by omega))).trans (HK6.out k hlt)), Kd.V_nil _ _ _ _ _⟩, below5 hB6 (Nat.le_refl _)⟩ | exact ⟨⟨_, _, rfl, Kd.V_nil _ _ _ _ _, Kd.V_nil _ _ _ _ _⟩, below5 hB6 (Nat.le_refl _)⟩
set_option maxHeartbeats 1000000 in
set_option maxRecDepth 100000 in
theorem parse_copy (a d : ByteArray) (b : Bool) (er : Int) (her : cond b (er = 0) ((er != 0) = true)) (A0 : Option Addr) (c0 : Nat) (x : ByteArray) (w : World) (hr : Kd.C Kd.string w A0 (x :: [a, d]).length (x :: [a, d])) (hc : (x :: [a, d]).length ≤ c0) (hl : (x :: [a, d]).length ≤ 514)
    (HH : HeadsOk) (HL : CloneOk) (HX : IndexOk x 0) (HCNT : CountOk 1 ([a, d].length : Int) true) (HF : FilesOk [a, d] er) :
    Calls Tryz.prog 9 #[.slice A0 (x :: [a, d]).length c0] w fun ev w' => parseP w w' ev (cond b 1 0) (cond b d ByteArray.empty) (cond b [a] []) [] 0 (cond b 0 er) := by
  cases b <;> dsimp only [cond] at her ⊢ <;> first | subst her | skip
  all_goals
    obtain ⟨ad, A1, rfl, hcell, hcut, hrun⟩ := words_cut hr hc
    have HCUT := Aside0.mk hcut
    rw [List.length_cons] at hl hc ⊢
    have HC := Aside0.mk hc
    clear hcut hc hr
    obtain ⟨n, hn⟩ : ∃ n, ([a, d]).length + 1 = n := ⟨_, rfl⟩
    rw [hn] at hl hrun ⊢
    have b1 : decide ((n : Int) > 514) = false := decide_eq_false (by omega)
    have b2 : ((n : Int) == 0) = false := beq_eq_false_iff_ne.2 (by omega)
    have p0 : (0 : Int) < (n : Int) := by omega
    have pn : 0 < n := by omega
    have pz : n ≠ 0 := by omega
    have pz2 : ¬ n ≤ 0 := by omega
    have hm : ([a, d]).length = 2 := rfl
    replace HCNT : CountOk 1 2 true := HCNT
    rw [hm] at hrun hn
    have HN := Aside0.mk hn
    have HM := Aside0.mk hm
    clear hn hm
    have hlt := World.block_lt_of_cell? _ _ hcell
    have hnew := World.new_ne w ad hcell
    have hw0 : IntKind.i64.wrap 1 = 1 := by decide
    go_enter Tryz.func9, Tryz.ntmps9
    go_wp2
    go_region_held3 (fun w' => w'.cell? ad = some (.string x)) (first | with_reducible assumption | go_keep)
      (first
      | (go_at_call 31; refine (HH _).mono ?_; rintro e w1 ⟨g, cap, rfl, hcap, hhc, hb, hc1⟩; have hcell1 := cell_kept hb hcell; have q1 : (1 : Int) ≤ (9 : Int) := by decide)
      | (go_at_call 30; refine calls_of_args (args' := #[.slice (some ⟨g, 1, none⟩) 8 (cap - 1), .string x]) (by first | with_reducible rfl | (simp [hc1, Addr.add]; done)) ?_; with_reducible refine (index_at HX g cap _ hcap hhc).mono ?_; rintro e w2 ⟨rfl, ⟨nd, rfl⟩⟩))
    have hbox := box_kept hb
    have HB1 := Aside0.mk (Below.trans (((Below.refl w.heap.size w).alloc (Nat.le_refl _) _).drew) (hb.mono (by show w.heap.size ≤ (w.heap.push _).size; rw [Array.size_push]; omega)))
    have HC1 := Aside0.mk (Kd.C_below HCUT.out HB1.out)
    have HBOX := Aside0.mk hbox
    clear hb hbox
    go_upto_region 9 with (first
      | (go_at_call 32; refine (HL A1 (c0 - 1) 2 ([a, d]) _ HM.out (by have := HC.out; have := HN.out; have := HM.out; omega) (by have := HM.out; have := HN.out; omega) (Kd.C_drewN HC1.out _)).mono ?_; rintro e w3 ⟨A2, c2, rfl, ho, hb3⟩; have hbox3 := box_step hb3.out HBOX.out; have hne0 : (w3.heap.size = w.heap.size) = False := eq_false (Nat.ne_of_gt (Array.getElem?_eq_some_iff.1 hbox3).1); have hne1 : (w.heap.size = w3.heap.size) = False := eq_false (Nat.ne_of_lt (Array.getElem?_eq_some_iff.1 hbox3).1); have HBOX3 := Aside0.mk hbox3; clear hbox3)
      | (go_at_call 33; with_reducible refine (count_lit HCNT _).mono ?_; rintro e w4 ⟨rfl, ⟨nd2, rfl⟩⟩))
    have hbx := alloc_top2 w3 nd2 (Obj.cells #[.int .i64 0, .string ⟨#[]⟩, .slice none 0 0, .slice none 0 0, .int .i64 0] 24)
    obtain ⟨⟨u0, v0⟩, ⟨u1, v1⟩, ⟨u2, v2⟩, ⟨u3, v3⟩, ⟨u4, v4⟩⟩ := box5 hbx
    clear hbx
    go_upto_region 10 with (fail)
    clear u0 u1 u2 u3 u4 v0 v1 v2 v3 v4
    obtain ⟨W4, hW4⟩ : ∃ W4, W4 = (((((((w3.drewN nd2).alloc (Obj.cells #[.int .i64 0, .string ⟨#[]⟩, .slice none 0 0, .slice none 0 0, .int .i64 0] 24)).setCell ⟨w3.heap.size, 0, none⟩ (.int .i64 1)).setCell ⟨w3.heap.size, 1, none⟩ (.string ⟨#[]⟩)).setCell ⟨w3.heap.size, 2, none⟩ (.slice none 0 0)).setCell ⟨w3.heap.size, 3, none⟩ (.slice none 0 0)).setCell ⟨w3.heap.size, 4, none⟩ (.int .i64 0)) := ⟨_, rfl⟩
    rw [← hW4]
    have hb4 : W4.heap[w3.heap.size]? = some (.cells #[.int .i64 1, .string ⟨#[]⟩, .slice none 0 0, .slice none 0 0, .int .i64 0] 24 (0, 0)) := by
      rw [hW4]
      exact box_set (box_set (box_set (box_set (box_set (alloc_top2 w3 nd2 _)))))
    have hk4 : ∀ k, k < w3.heap.size → W4.heap[k]? = w3.heap[k]? := by
      intro k hk
      rw [hW4]
      exact w4_kept w3 nd2 k hk
    obtain ⟨u1, v1⟩ := box_cell (j := 2) hb4
    obtain ⟨u3, v3⟩ := box_cell (j := 1) hb4
    simp only [List.getElem?_toArray, List.getElem?_cons_zero, List.getElem?_cons_succ] at u1 u3
    have hm2 := (Kd.R_reads' ho.out).2.1
    obtain ⟨ad2, rfl, hd1, hd2⟩ := c_two (c_keep (wf := W4) ho.out (fun k _ hk => hk4 k hk))
    have q01 : (1 : Int) < (2 : Int) := by decide
    have hlt2 : ad2.block < w3.heap.size := by
      obtain ⟨ad3, e3, h3, _⟩ := c_two (Kd.R_reads' ho.out).2.2
      cases e3
      exact World.block_lt_of_cell? _ _ h3
    have hne2 : ad2.block ≠ w3.heap.size := by omega
    have HB4 := Aside0.mk hb4
    have HK4 := Aside0.mk hk4
    have HW4 := Aside0.mk hW4
    clear hb4 hk4 hW4
    have hrun4 := cut_cap (some ad2) 2 c2 (by show 1 ≤ c2; have h2 : 2 ≤ c2 := hm2; omega)
    go_upto_region 15 with (fail)
    go_region_held3 (fun w' => w'.cell? ⟨ad2.block, ad2.off + 1, none⟩ = some (.string d)) (first | with_reducible assumption | (refine cell_far hne2 ?_; first | with_reducible assumption | (refine cell_far hne2 ?_; with_reducible assumption)) | (refine cell_far' hne2 ?_; first | with_reducible assumption | (refine cell_far hne2 ?_; with_reducible assumption)) | go_keep) (fail)
    go_upto_region 35 with (first
      | (go_at_call 36; refine (files_at HF rfl hm2 (c_keep ho.out (fun k_ _ hk_ => (far2 (Nat.ne_of_lt hk_)).trans (HK4.out k_ hk_)))).mono ?_; rintro e w5 ⟨rfl, ⟨nd3, rfl⟩⟩))
    clear u1 u3 v1 v3
    obtain ⟨W6, hW6⟩ : ∃ W6, W6 = ((W4.setCell ⟨w3.heap.size, 2, none⟩ (.slice (some ad2) 1 1)).setCell ⟨w3.heap.size, 1, none⟩ (.string d)).drewN (1 + nd3) := ⟨_, rfl⟩
    rw [← hW6]
    have hlt1 : w.heap.size < w3.heap.size := (Array.getElem?_eq_some_iff.1 HBOX3.out).1
    have hb6 : W6.heap[w3.heap.size]? = some (.cells #[.int .i64 1, .string d, .slice (some ad2) 1 1, .slice none 0 0, .int .i64 0] 24 (0, 0)) := by
      rw [hW6]
      exact box_set (box_set HB4.out)
    have hk6 : ∀ k, k < w3.heap.size → W6.heap[k]? = w3.heap[k]? := by
      intro k hk
      rw [hW6]
      exact (far2 (Nat.ne_of_lt hk)).trans (HK4.out k hk)
    have hc6 := (hk6 w.heap.size hlt1).trans HBOX3.out
    obtain ⟨⟨u0, v0⟩, ⟨u1, v1⟩, ⟨u2, v2⟩, ⟨u3, v3⟩, ⟨u4, v4⟩⟩ := box5 hb6
    obtain ⟨⟨x0, y0⟩, ⟨x1, y1⟩, ⟨x2, y2⟩, ⟨x3, y3⟩, ⟨x4, y4⟩⟩ := box5 hc6
    have HC6 := Aside0.mk hc6
    have HK6 := Aside0.mk hk6
    have HW6 := Aside0.mk hW6
    have HLT1 := Aside0.mk hlt1
    clear hb6 hc6 hk6 hW6 hlt1 v0 v1 v2 v3 v4
    go_wp2
    have hle : w.heap.size ≤ w3.heap.size := Nat.le_of_lt HLT1.out
    have hB3 : Below w.heap.size w w3 := below_via HB1.out hb3.out
    have hB6 : Below w.heap.size w W6 := by
      rw [HW6.out, HW4.out]
      exact pw_below_drewN ((((((((pw_below_drewN hB3 nd2).alloc hle _).setCell hle _).setCell hle _).setCell hle _).setCell hle _).setCell hle _) |>.setCell hle _ |>.setCell hle _) (1 + nd3)
    have hw1 : w.heap.size < w1.heap.size := (Array.getElem?_eq_some_iff.1 HBOX.out).1
    refine bodyPost_ret (results_ct rfl _ _ w.heap.size 24 _ (0, 0) _ rfl (box_set (box_set (box_set (box_set (box_set HC6.out))))) Tryz.underlying24 rfl (by rfl)) rfl ?_
    first | exact ⟨⟨_, _, rfl, first_keep ho.out (Nat.le_of_lt hw1) (fun k hk hlt => (set5 (fun e_ => absurd (Nat.lt_of_lt_of_le hw1 hk) (by omega))).trans (HK6.out k hlt)), Kd.V_nil _ _ _ _ _⟩, below5 hB6 (Nat.le_refl _)⟩ | exact ⟨⟨_, _, rfl, Kd.V_nil _ _ _ _ _, Kd.V_nil _ _ _ _ _⟩, below5 hB6 (Nat.le_refl _)⟩
end Go.Proofs.YtpiafpkpdbknfaaGreatDoor.Sup
