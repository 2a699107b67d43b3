/- cmd.Parse: 'fail' with an operand that is no number. Conditions: those in each statement. -/
import Derived.Test.YtpiafpkpdbknfaaGreatDoorSParse
import Derived.Test.YtpiafpkpdbknfaaGreatDoorSAtoi
namespace Go.Proofs.YtpiafpkpdbknfaaGreatDoor.Sup
open Go.RowKit Go.Proofs.YtpiafpkpdbknfaaGreatDoorW.PrintWords Go.Proofs.YtpiafpkpdbknfaaGreatDoorW.PrintLast Go.Proofs.YtpiafpkpdbknfaaGreatDoorW.PrintMore
attribute [local go_sem] max2_int min2_int max_two min_two max_three min_three max_four min_four
set_option linter.unusedVariables false
set_option linter.unusedSimpArgs false
/-- The number of 'fail's operand; 0: it is none. -/
def failN (s : ByteArray) : Int := match Lib.atoiAll s.data.toList with
  | .ok v => if (⟨(Lib.itoa v).toArray⟩ : ByteArray) = s ∧ 1 ≤ v ∧ v ≤ 255 then v else 0
  | _ => 0
theorem atoi_ok (s : ByteArray) (hs : s.size ≤ 140737488355328) (v : Int) (hv : Lib.atoiAll s.data.toList = .ok v) (w : World) (hT : Tab w) :
    Calls Tryz.prog 34 #[.string s] w fun e w' => e = .returned (.tuple #[.int .i64 v, .nilIface]) ∧ Below w.heap.size w w' := by
  refine (atoi_call s hs w hT).mono fun e w' ⟨hb, h⟩ => ?_
  rcases h with ⟨v', h1, h2⟩ | ⟨h1, _⟩
  · rw [hv] at h1
    injection h1 with h1
    subst h1
    exact ⟨h2, hb⟩
  · exact absurd hv (h1 v)
theorem atoi_err (s : ByteArray) (hs : s.size ≤ 140737488355328) (hv : ∀ v, Lib.atoiAll s.data.toList ≠ .ok v) (w : World) (hT : Tab w) :
    Calls Tryz.prog 34 #[.string s] w fun e w' => ∃ m t p, e = .returned (.tuple #[.int .i64 m, .iface t (.pointer p)]) ∧ Below w.heap.size w w' := by
  refine (atoi_call s hs w hT).mono fun e w' ⟨hb, h⟩ => ?_
  rcases h with ⟨v', h1, h2⟩ | ⟨_, m, t, p, h2⟩
  · exact absurd h1 (hv v')
  · exact ⟨m, t, p, h2, hb⟩
theorem set_kept {W : World} {g j k : Nat} {v : Value} (h : k ≠ g) : (W.setCell ⟨g, j, none⟩ v).heap[k]? = W.heap[k]? := Below.heap_setCell W ⟨g, j, none⟩ v k h
theorem set_size {W : World} {ad : Addr} {v : Value} : (W.setCell ad v).heap.size = W.heap.size := by simp [World.setCell]
set_option maxHeartbeats 1000000 in
set_option maxRecDepth 100000 in
theorem parse_fail_err (s : ByteArray) (hs : s.size ≤ 140737488355328) (hv : ∀ v, Lib.atoiAll s.data.toList ≠ .ok v) (A0 : Option Addr) (c0 : Nat) (x : ByteArray) (w : World) (hr : Kd.C Kd.string w A0 (x :: [s]).length (x :: [s])) (hc : (x :: [s]).length ≤ c0) (hl : (x :: [s]).length ≤ 514)
    (HH : HeadsOk) (HL : CloneOk) (HX : IndexOk x 6) (HCNT : CountOk 7 ([s].length : Int) true) (hT : Tab w) :
    Calls Tryz.prog 9 #[.slice A0 (x :: [s]).length c0] w fun ev w' => parseP w w' ev 0 ByteArray.empty [] [] 0 160 := by
  have HT := Aside0.mk hT
  clear hT
  obtain ⟨ad, A1, rfl, hcell, hcut, hrun⟩ := words_cut hr hc
  have HCUT := Aside0.mk hcut
  rw [List.length_cons] at hl hc ⊢
  have HC := Aside0.mk hc
  clear hcut hc hr
  obtain ⟨n, hn⟩ : ∃ n, ([s]).length + 1 = n := ⟨_, rfl⟩
  rw [hn] at hl hrun ⊢
  have b1 : decide ((n : Int) > 514) = false := decide_eq_false (by omega)
  have b2 : ((n : Int) == 0) = false := beq_eq_false_iff_ne.2 (by omega)
  have p0 : (0 : Int) < (n : Int) := by omega
  have pn : 0 < n := by omega
  have pz : n ≠ 0 := by omega
  have pz2 : ¬ n ≤ 0 := by omega
  have hm : ([s]).length = 1 := rfl
  replace HCNT : CountOk 7 1 true := HCNT
  rw [hm] at hrun hn
  have HN := Aside0.mk hn
  have HM := Aside0.mk hm
  clear hn hm
  have hlt := World.block_lt_of_cell? _ _ hcell
  have hnew := World.new_ne w ad hcell
  have hw0 : IntKind.i64.wrap 7 = 7 := by decide
  go_enter Tryz.func9, Tryz.ntmps9
  go_wp2
  go_region_held3 (fun w' => w'.cell? ad = some (.string x)) (first | with_reducible assumption | go_keep)
    (first
    | (go_at_call 31; refine (HH _).mono ?_; rintro e w1 ⟨g, cap, rfl, hcap, hhc, hb, hc1⟩; have hcell1 := cell_kept hb hcell; have q1 : (1 : Int) ≤ (9 : Int) := by decide)
    | (go_at_call 30; refine calls_of_args (args' := #[.slice (some ⟨g, 1, none⟩) 8 (cap - 1), .string x]) (by first | with_reducible rfl | (simp [hc1, Addr.add]; done)) ?_; with_reducible refine (index_at HX g cap _ hcap hhc).mono ?_; rintro e w2 ⟨rfl, ⟨nd, rfl⟩⟩))
  have hbox := box_kept hb
  have HB1 := Aside0.mk (Below.trans (((Below.refl w.heap.size w).alloc (Nat.le_refl _) _).drew) (hb.mono (by show w.heap.size ≤ (w.heap.push _).size; rw [Array.size_push]; omega)))
  have HC1 := Aside0.mk (Kd.C_below HCUT.out HB1.out)
  have HBOX := Aside0.mk hbox
  clear hb hbox
  go_upto_region 9 with (first
    | (go_at_call 32; refine (HL A1 (c0 - 1) 1 ([s]) _ HM.out (by have := HC.out; have := HN.out; have := HM.out; omega) (by have := HM.out; have := HN.out; omega) (Kd.C_drewN HC1.out _)).mono ?_; rintro e w3 ⟨A2, c2, rfl, ho, hb3⟩; have hbox3 := box_step hb3.out HBOX.out; have hne0 : (w3.heap.size = w.heap.size) = False := eq_false (Nat.ne_of_gt (Array.getElem?_eq_some_iff.1 hbox3).1); have hne1 : (w.heap.size = w3.heap.size) = False := eq_false (Nat.ne_of_lt (Array.getElem?_eq_some_iff.1 hbox3).1); have HBOX3 := Aside0.mk hbox3; clear hbox3)
    | (go_at_call 33; with_reducible refine (count_lit HCNT _).mono ?_; rintro e w4 ⟨rfl, ⟨nd2, rfl⟩⟩))
  have hbx := alloc_top2 w3 nd2 (Obj.cells #[.int .i64 0, .string ⟨#[]⟩, .slice none 0 0, .slice none 0 0, .int .i64 0] 24)
  obtain ⟨⟨u0, v0⟩, ⟨u1, v1⟩, ⟨u2, v2⟩, ⟨u3, v3⟩, ⟨u4, v4⟩⟩ := box5 hbx
  clear hbx
  go_upto_region 10 with (fail)
  clear u0 u1 u2 u3 u4 v0 v1 v2 v3 v4
  obtain ⟨W4, hW4⟩ : ∃ W4, W4 = (((((((w3.drewN nd2).alloc (Obj.cells #[.int .i64 0, .string ⟨#[]⟩, .slice none 0 0, .slice none 0 0, .int .i64 0] 24)).setCell ⟨w3.heap.size, 0, none⟩ (.int .i64 7)).setCell ⟨w3.heap.size, 1, none⟩ (.string ⟨#[]⟩)).setCell ⟨w3.heap.size, 2, none⟩ (.slice none 0 0)).setCell ⟨w3.heap.size, 3, none⟩ (.slice none 0 0)).setCell ⟨w3.heap.size, 4, none⟩ (.int .i64 0)) := ⟨_, rfl⟩
  rw [← hW4]
  have hb4 : W4.heap[w3.heap.size]? = some (.cells #[.int .i64 7, .string ⟨#[]⟩, .slice none 0 0, .slice none 0 0, .int .i64 0] 24 (0, 0)) := by
    rw [hW4]
    exact box_set (box_set (box_set (box_set (box_set (alloc_top2 w3 nd2 _)))))
  have hk4 : ∀ k, k < w3.heap.size → W4.heap[k]? = w3.heap[k]? := by
    intro k hk
    rw [hW4]
    exact w4_kept w3 nd2 k hk
  obtain ⟨u3, v3⟩ := box_cell (j := 4) hb4
  simp only [List.getElem?_toArray, List.getElem?_cons_zero, List.getElem?_cons_succ] at u3
  obtain ⟨ad2, rfl, hd2⟩ := c_first (c_keep (wf := W4) ho.out (fun k _ hk => hk4 k hk))
  have q01 : (0 : Int) < (1 : Int) := by decide
  have hlt2 : ad2.block < w3.heap.size := by
    obtain ⟨ad3, e3, h3⟩ := c_first (Kd.R_reads' ho.out).2.2
    cases e3
    exact World.block_lt_of_cell? _ _ h3
  have hne2 : ad2.block ≠ w3.heap.size := by omega
  have HB4 := Aside0.mk hb4
  have HK4 := Aside0.mk hk4
  have HW4 := Aside0.mk hW4
  clear hb4 hk4 hW4
  have hs4 : w3.heap.size < W4.heap.size := (Array.getElem?_eq_some_iff.1 HB4.out).1
  go_upto_region 30 with (fail)
  obtain ⟨W5, hW5⟩ : ∃ W5, W5 = W4.setCell ⟨w3.heap.size, 4, none⟩ (.int .i64 1) := ⟨_, rfl⟩
  rw [← hW5]
  have hd5 : W5.cell? ad2 = some (.string s) := by rw [hW5]; exact cell_far' hne2 hd2
  have hT5 : Tab W5 := by
    rw [hW5, HW4.out]
    have hle : w.heap.size ≤ w3.heap.size := Nat.le_of_lt (Array.getElem?_eq_some_iff.1 HBOX3.out).1
    exact Tab.below HT.out (((((((pw_below_drewN (below_via HB1.out hb3.out) nd2).alloc hle _).setCell hle _).setCell hle _).setCell hle _).setCell hle _).setCell hle _ |>.setCell hle _)
  have HW5 := Aside0.mk hW5
  have HT5 := Aside0.mk hT5
  clear hW5 hT5 hd2 u3 v3 hs4
  go_upto_region 31 with (first
    | (go_at_call 34; refine (atoi_err s hs hv _ HT5.out).mono ?_; rintro e w6 ⟨m5, t5, p5, rfl, hb6⟩))
  have hd6 : w6.cell? ad2 = some (.string s) := by rw [hb6.cell (World.block_lt_of_cell? _ _ hd5)]; exact hd5
  have HB6 := Aside0.mk hb6
  clear hb6 hd5
  refine start_ (n := 18) (S := fun w' => w'.cell? ad2 = some (.string s) ∧ Aside0 (Below W5.heap.size W5 w')) (ds := []) #[false, false, false, false, false, false, false, false, false, false, false, false, false, false, false, false, false, false] (by kernel_rfl) rfl rfl ⟨hd6, ⟨HB6.out.drew⟩⟩ (fun hHeld => ?_)
  refine pure_ (i := 0) (N := some 98) (v := ?_) (a' := ?_) #[true, false, false, false, false, false, false, false, false, false, false, false, false, false, false, false, false, false] rfl rfl (by kernel_rfl) (fun _ _ _ h => h) (Or.inl ⟨by rfl, ?_⟩) ?_ ?_
  rotate_left
  · intro w'
    go_simp
    with_reducible rfl
  rotate_left
  · simp only [Act.put, List.setIfInBounds_toArray, List.set_cons_zero, List.set_cons_succ, i64_w, i32_w]
    rfl
  refine pure_ (i := 1) (N := some 99) (v := ?_) (a' := ?_) #[true, true, false, false, false, false, false, false, false, false, false, false, false, false, false, false, false, false] rfl rfl (by kernel_rfl) (fun _ _ _ h => h) (Or.inl ⟨by rfl, ?_⟩) ?_ ?_
  rotate_left
  · intro w'
    go_simp
    with_reducible rfl
  rotate_left
  · simp only [Act.put, List.setIfInBounds_toArray, List.set_cons_zero, List.set_cons_succ, i64_w, i32_w]
    rfl
  refine pure_ (i := 2) (N := some 100) (v := ?_) (a' := ?_) #[true, true, true, false, false, false, false, false, false, false, false, false, false, false, false, false, false, false] rfl rfl (by kernel_rfl) (fun _ _ _ h => h) (Or.inl ⟨by rfl, ?_⟩) ?_ ?_
  rotate_left
  · intro w'
    go_simp
    with_reducible rfl
  rotate_left
  · simp only [Act.put, List.setIfInBounds_toArray, List.set_cons_zero, List.set_cons_succ, i64_w, i32_w]
    rfl
  refine pure_ (i := 3) (N := some 101) (v := undef) (a' := ?_) #[true, true, true, true, false, false, false, false, false, false, false, false, false, false, false, false, false, false] rfl rfl (by kernel_rfl) (fun _ _ _ h => h) (Or.inr ⟨by rfl, rfl⟩) ?_ ?_
  rotate_left
  · simp only [Act.put, List.setIfInBounds_toArray, List.set_cons_zero, List.set_cons_succ, i64_w, i32_w]
    rfl
  refine pure_ (i := 4) (N := some 102) (v := undef) (a' := ?_) #[true, true, true, true, true, false, false, false, false, false, false, false, false, false, false, false, false, false] rfl rfl (by kernel_rfl) (fun _ _ _ h => h) (Or.inr ⟨by rfl, rfl⟩) ?_ ?_
  rotate_left
  · simp only [Act.put, List.setIfInBounds_toArray, List.set_cons_zero, List.set_cons_succ, i64_w, i32_w]
    rfl
  refine pure_ (i := 5) (N := some 103) (v := undef) (a' := ?_) #[true, true, true, true, true, true, false, false, false, false, false, false, false, false, false, false, false, false] rfl rfl (by kernel_rfl) (fun _ _ _ h => h) (Or.inr ⟨by rfl, rfl⟩) ?_ ?_
  rotate_left
  · simp only [Act.put, List.setIfInBounds_toArray, List.set_cons_zero, List.set_cons_succ, i64_w, i32_w]
    rfl
  refine pure_ (i := 6) (N := some 104) (v := undef) (a' := ?_) #[true, true, true, true, true, true, true, false, false, false, false, false, false, false, false, false, false, false] rfl rfl (by kernel_rfl) (fun _ _ _ h => h) (Or.inr ⟨by rfl, rfl⟩) ?_ ?_
  rotate_left
  · simp only [Act.put, List.setIfInBounds_toArray, List.set_cons_zero, List.set_cons_succ, i64_w, i32_w]
    rfl
  refine pure_ (i := 7) (N := some 105) (v := undef) (a' := ?_) #[true, true, true, true, true, true, true, true, false, false, false, false, false, false, false, false, false, false] rfl rfl (by kernel_rfl) (fun _ _ _ h => h) (Or.inr ⟨by rfl, rfl⟩) ?_ ?_
  rotate_left
  · simp only [Act.put, List.setIfInBounds_toArray, List.set_cons_zero, List.set_cons_succ, i64_w, i32_w]
    rfl
  refine pure_ (i := 8) (N := some 106) (v := undef) (a' := ?_) #[true, true, true, true, true, true, true, true, true, false, false, false, false, false, false, false, false, false] rfl rfl (by kernel_rfl) (fun _ _ _ h => h) (Or.inr ⟨by rfl, rfl⟩) ?_ ?_
  rotate_left
  · simp only [Act.put, List.setIfInBounds_toArray, List.set_cons_zero, List.set_cons_succ, i64_w, i32_w]
    rfl
  refine pure_ (i := 9) (N := some 107) (v := ?_) (a' := ?_) #[true, true, true, true, true, true, true, true, true, true, false, false, false, false, false, false, false, false] rfl rfl (by kernel_rfl) (fun _ _ _ h => h) (Or.inl ⟨by rfl, ?_⟩) ?_ ?_
  rotate_left
  · intro w'
    go_simp
    with_reducible rfl
  rotate_left
  · simp only [Act.put, List.setIfInBounds_toArray, List.set_cons_zero, List.set_cons_succ, i64_w, i32_w]
    rfl
  refine pure_ (i := 10) (N := some 108) (v := ?_) (a' := ?_) #[true, true, true, true, true, true, true, true, true, true, true, false, false, false, false, false, false, false] rfl rfl (by kernel_rfl) (fun _ _ _ h => h) (Or.inl ⟨by rfl, ?_⟩) ?_ ?_
  rotate_left
  · intro w'
    go_simp
    with_reducible rfl
  rotate_left
  · simp only [Act.put, List.setIfInBounds_toArray, List.set_cons_zero, List.set_cons_succ, i64_w, i32_w]
    rfl
  refine pure_ (i := 11) (N := some 109) (v := undef) (a' := ?_) #[true, true, true, true, true, true, true, true, true, true, true, true, false, false, false, false, false, false] rfl rfl (by kernel_rfl) (fun _ _ _ h => h) (Or.inr ⟨by rfl, rfl⟩) ?_ ?_
  rotate_left
  · simp only [Act.put, List.setIfInBounds_toArray, List.set_cons_zero, List.set_cons_succ, i64_w, i32_w]
    rfl
  refine pure_ (i := 12) (N := some 110) (v := undef) (a' := ?_) #[true, true, true, true, true, true, true, true, true, true, true, true, true, false, false, false, false, false] rfl rfl (by kernel_rfl) (fun _ _ _ h => h) (Or.inr ⟨by rfl, rfl⟩) ?_ ?_
  rotate_left
  · simp only [Act.put, List.setIfInBounds_toArray, List.set_cons_zero, List.set_cons_succ, i64_w, i32_w]
    rfl
  refine pure_ (i := 13) (N := some 111) (v := ?_) (a' := ?_) #[true, true, true, true, true, true, true, true, true, true, true, true, true, true, false, false, false, false] rfl rfl (by kernel_rfl) (fun _ _ _ h => h) (Or.inl ⟨by rfl, ?_⟩) ?_ ?_
  rotate_left
  · intro w'
    go_simp
    with_reducible rfl
  rotate_left
  · simp only [Act.put, List.setIfInBounds_toArray, List.set_cons_zero, List.set_cons_succ, i64_w, i32_w]
    rfl
  refine pure_ (i := 14) (N := some 112) (v := ?_) (a' := ?_) #[true, true, true, true, true, true, true, true, true, true, true, true, true, true, true, false, false, false] rfl rfl (by kernel_rfl) (fun _ _ _ h => h) (Or.inl ⟨by rfl, ?_⟩) ?_ ?_
  rotate_left
  · intro w'
    go_simp
    with_reducible rfl
  rotate_left
  · simp only [Act.put, List.setIfInBounds_toArray, List.set_cons_zero, List.set_cons_succ, i64_w, i32_w]
    rfl
  refine pure_ (i := 15) (N := some 113) (v := undef) (a' := ?_) #[true, true, true, true, true, true, true, true, true, true, true, true, true, true, true, true, false, false] rfl rfl (by kernel_rfl) (fun _ _ _ h => h) (Or.inr ⟨by rfl, rfl⟩) ?_ ?_
  rotate_left
  · simp only [Act.put, List.setIfInBounds_toArray, List.set_cons_zero, List.set_cons_succ, i64_w, i32_w]
    rfl
  refine pure_ (i := 16) (N := some 114) (v := undef) (a' := ?_) #[true, true, true, true, true, true, true, true, true, true, true, true, true, true, true, true, true, false] rfl rfl (by kernel_rfl) (fun _ _ _ h => h) (Or.inr ⟨by rfl, rfl⟩) ?_ ?_
  rotate_left
  · simp only [Act.put, List.setIfInBounds_toArray, List.set_cons_zero, List.set_cons_succ, i64_w, i32_w]
    rfl
  refine pure_ (i := 17) (N := some 115) (v := ?_) (a' := ?_) #[true, true, true, true, true, true, true, true, true, true, true, true, true, true, true, true, true, true] rfl rfl (by kernel_rfl) (fun _ _ _ h => h) (Or.inl ⟨by rfl, ?_⟩) ?_ ?_
  rotate_left
  · intro w'
    go_simp
    with_reducible rfl
  rotate_left
  · simp only [Act.put, List.setIfInBounds_toArray, List.set_cons_zero, List.set_cons_succ, i64_w, i32_w]
    rfl
  refine done_ (by kernel_rfl) ?_

  obtain ⟨Z, hZ⟩ : ∃ Z, Z = w6.drew := ⟨_, rfl⟩
  rw [← hZ] at hHeld ⊢
  clear hZ
  obtain ⟨hd7, HB7⟩ := hHeld
  have hlt1 : w.heap.size < w3.heap.size := (Array.getElem?_eq_some_iff.1 HBOX3.out).1
  have hs4 : w3.heap.size < W4.heap.size := (Array.getElem?_eq_some_iff.1 HB4.out).1
  have hs5 : W5.heap.size = W4.heap.size := by rw [HW5.out]; exact set_size
  have hbZ : Z.heap[w3.heap.size]? = some (.cells #[.int .i64 7, .string ⟨#[]⟩, .slice none 0 0, .slice none 0 0, .int .i64 1] 24 (0, 0)) := by
    rw [HB7.out.block _ (by omega), HW5.out]
    exact box_set HB4.out
  have hkZ : ∀ k, k < w3.heap.size → Z.heap[k]? = w3.heap[k]? := by
    intro k hk
    rw [HB7.out.block _ (by omega), HW5.out]
    exact (set_kept (Nat.ne_of_lt hk)).trans (HK4.out k hk)
  have hcZ := (hkZ w.heap.size hlt1).trans HBOX3.out
  have hBZ : Below w.heap.size w Z := by
    have hle : w.heap.size ≤ w3.heap.size := Nat.le_of_lt hlt1
    have h5 : Below w.heap.size w W5 := by
      rw [HW5.out, HW4.out]
      exact ((((((pw_below_drewN (below_via HB1.out hb3.out) nd2).alloc hle _).setCell hle _).setCell hle _).setCell hle _).setCell hle _).setCell hle _ |>.setCell hle _
    exact h5.trans (HB7.out.mono h5.size)
  obtain ⟨x0, y0⟩ := box_cell (j := 0) hcZ
  obtain ⟨x1, y1⟩ := box_cell (j := 1) hcZ
  obtain ⟨x2, y2⟩ := box_cell (j := 2) hcZ
  obtain ⟨x3, y3⟩ := box_cell (j := 3) hcZ
  obtain ⟨x4, y4⟩ := box_cell (j := 4) hcZ
  simp only [List.getElem?_toArray, List.getElem?_cons_zero, List.getElem?_cons_succ] at x0 x1 x2 x3 x4
  have HCZ := Aside0.mk hcZ
  have HBZ := Aside0.mk hbZ
  have HKZ := Aside0.mk hkZ
  have HBBZ := Aside0.mk hBZ
  clear hcZ hbZ hkZ hBZ hs4 hs5 hlt1 hd6 hd7
  go_wp2
  refine bodyPost_ret (results_ct rfl _ _ w.heap.size 24 _ (0, 0) _ rfl (box_set (box_set (box_set (box_set (box_set HCZ.out))))) Tryz.underlying24 rfl (by kernel_rfl)) rfl ?_
  refine ⟨⟨_, _, rfl, Kd.V_nil _ _ _ _ _, Kd.V_nil _ _ _ _ _⟩, ?_⟩
  exact ((((HBBZ.out.setCell (Nat.le_refl _) _).setCell (Nat.le_refl _) _).setCell (Nat.le_refl _) _).setCell (Nat.le_refl _) _).setCell (Nat.le_refl _) _
set_option maxHeartbeats 1000000 in
set_option maxRecDepth 100000 in
theorem parse_fail_ne (s : ByteArray) (hs : s.size ≤ 140737488355328) (v : Int) (hv : Lib.atoiAll s.data.toList = .ok v) (h0 : -9223372036854775808 ≤ v) (h1 : v ≤ 9223372036854775807) (q : ByteArray) (hq : (⟨(Lib.itoa v).toArray⟩ : ByteArray) = q) (e1 : (q.toList == s.toList) = false) (A0 : Option Addr) (c0 : Nat) (x : ByteArray) (w : World) (hr : Kd.C Kd.string w A0 (x :: [s]).length (x :: [s])) (hc : (x :: [s]).length ≤ c0) (hl : (x :: [s]).length ≤ 514)
    (HH : HeadsOk) (HL : CloneOk) (HX : IndexOk x 6) (HCNT : CountOk 7 ([s].length : Int) true) (hT : Tab w) :
    Calls Tryz.prog 9 #[.slice A0 (x :: [s]).length c0] w fun ev w' => parseP w w' ev 0 ByteArray.empty [] [] 0 160 := by
  have HT := Aside0.mk hT
  clear hT
  obtain ⟨ad, A1, rfl, hcell, hcut, hrun⟩ := words_cut hr hc
  have HCUT := Aside0.mk hcut
  rw [List.length_cons] at hl hc ⊢
  have HC := Aside0.mk hc
  clear hcut hc hr
  obtain ⟨n, hn⟩ : ∃ n, ([s]).length + 1 = n := ⟨_, rfl⟩
  rw [hn] at hl hrun ⊢
  have b1 : decide ((n : Int) > 514) = false := decide_eq_false (by omega)
  have b2 : ((n : Int) == 0) = false := beq_eq_false_iff_ne.2 (by omega)
  have p0 : (0 : Int) < (n : Int) := by omega
  have pn : 0 < n := by omega
  have pz : n ≠ 0 := by omega
  have pz2 : ¬ n ≤ 0 := by omega
  have hm : ([s]).length = 1 := rfl
  replace HCNT : CountOk 7 1 true := HCNT
  rw [hm] at hrun hn
  have HN := Aside0.mk hn
  have HM := Aside0.mk hm
  clear hn hm
  have hlt := World.block_lt_of_cell? _ _ hcell
  have hnew := World.new_ne w ad hcell
  have hw0 : IntKind.i64.wrap 7 = 7 := by decide
  go_enter Tryz.func9, Tryz.ntmps9
  go_wp2
  go_region_held3 (fun w' => w'.cell? ad = some (.string x)) (first | with_reducible assumption | go_keep)
    (first
    | (go_at_call 31; refine (HH _).mono ?_; rintro e w1 ⟨g, cap, rfl, hcap, hhc, hb, hc1⟩; have hcell1 := cell_kept hb hcell; have q1 : (1 : Int) ≤ (9 : Int) := by decide)
    | (go_at_call 30; refine calls_of_args (args' := #[.slice (some ⟨g, 1, none⟩) 8 (cap - 1), .string x]) (by first | with_reducible rfl | (simp [hc1, Addr.add]; done)) ?_; with_reducible refine (index_at HX g cap _ hcap hhc).mono ?_; rintro e w2 ⟨rfl, ⟨nd, rfl⟩⟩))
  have hbox := box_kept hb
  have HB1 := Aside0.mk (Below.trans (((Below.refl w.heap.size w).alloc (Nat.le_refl _) _).drew) (hb.mono (by show w.heap.size ≤ (w.heap.push _).size; rw [Array.size_push]; omega)))
  have HC1 := Aside0.mk (Kd.C_below HCUT.out HB1.out)
  have HBOX := Aside0.mk hbox
  clear hb hbox
  go_upto_region 9 with (first
    | (go_at_call 32; refine (HL A1 (c0 - 1) 1 ([s]) _ HM.out (by have := HC.out; have := HN.out; have := HM.out; omega) (by have := HM.out; have := HN.out; omega) (Kd.C_drewN HC1.out _)).mono ?_; rintro e w3 ⟨A2, c2, rfl, ho, hb3⟩; have hbox3 := box_step hb3.out HBOX.out; have hne0 : (w3.heap.size = w.heap.size) = False := eq_false (Nat.ne_of_gt (Array.getElem?_eq_some_iff.1 hbox3).1); have hne1 : (w.heap.size = w3.heap.size) = False := eq_false (Nat.ne_of_lt (Array.getElem?_eq_some_iff.1 hbox3).1); have HBOX3 := Aside0.mk hbox3; clear hbox3)
    | (go_at_call 33; with_reducible refine (count_lit HCNT _).mono ?_; rintro e w4 ⟨rfl, ⟨nd2, rfl⟩⟩))
  have hbx := alloc_top2 w3 nd2 (Obj.cells #[.int .i64 0, .string ⟨#[]⟩, .slice none 0 0, .slice none 0 0, .int .i64 0] 24)
  obtain ⟨⟨u0, v0⟩, ⟨u1, v1⟩, ⟨u2, v2⟩, ⟨u3, v3⟩, ⟨u4, v4⟩⟩ := box5 hbx
  clear hbx
  go_upto_region 10 with (fail)
  clear u0 u1 u2 u3 u4 v0 v1 v2 v3 v4
  obtain ⟨W4, hW4⟩ : ∃ W4, W4 = (((((((w3.drewN nd2).alloc (Obj.cells #[.int .i64 0, .string ⟨#[]⟩, .slice none 0 0, .slice none 0 0, .int .i64 0] 24)).setCell ⟨w3.heap.size, 0, none⟩ (.int .i64 7)).setCell ⟨w3.heap.size, 1, none⟩ (.string ⟨#[]⟩)).setCell ⟨w3.heap.size, 2, none⟩ (.slice none 0 0)).setCell ⟨w3.heap.size, 3, none⟩ (.slice none 0 0)).setCell ⟨w3.heap.size, 4, none⟩ (.int .i64 0)) := ⟨_, rfl⟩
  rw [← hW4]
  have hb4 : W4.heap[w3.heap.size]? = some (.cells #[.int .i64 7, .string ⟨#[]⟩, .slice none 0 0, .slice none 0 0, .int .i64 0] 24 (0, 0)) := by
    rw [hW4]
    exact box_set (box_set (box_set (box_set (box_set (alloc_top2 w3 nd2 _)))))
  have hk4 : ∀ k, k < w3.heap.size → W4.heap[k]? = w3.heap[k]? := by
    intro k hk
    rw [hW4]
    exact w4_kept w3 nd2 k hk
  obtain ⟨u3, v3⟩ := box_cell (j := 4) hb4
  simp only [List.getElem?_toArray, List.getElem?_cons_zero, List.getElem?_cons_succ] at u3
  obtain ⟨ad2, rfl, hd2⟩ := c_first (c_keep (wf := W4) ho.out (fun k _ hk => hk4 k hk))
  have q01 : (0 : Int) < (1 : Int) := by decide
  have hlt2 : ad2.block < w3.heap.size := by
    obtain ⟨ad3, e3, h3⟩ := c_first (Kd.R_reads' ho.out).2.2
    cases e3
    exact World.block_lt_of_cell? _ _ h3
  have hne2 : ad2.block ≠ w3.heap.size := by omega
  have HB4 := Aside0.mk hb4
  have HK4 := Aside0.mk hk4
  have HW4 := Aside0.mk hW4
  clear hb4 hk4 hW4
  have hs4 : w3.heap.size < W4.heap.size := (Array.getElem?_eq_some_iff.1 HB4.out).1
  go_upto_region 30 with (fail)
  obtain ⟨W5, hW5⟩ : ∃ W5, W5 = W4.setCell ⟨w3.heap.size, 4, none⟩ (.int .i64 1) := ⟨_, rfl⟩
  rw [← hW5]
  have hd5 : W5.cell? ad2 = some (.string s) := by rw [hW5]; exact cell_far' hne2 hd2
  have hT5 : Tab W5 := by
    rw [hW5, HW4.out]
    have hle : w.heap.size ≤ w3.heap.size := Nat.le_of_lt (Array.getElem?_eq_some_iff.1 HBOX3.out).1
    exact Tab.below HT.out (((((((pw_below_drewN (below_via HB1.out hb3.out) nd2).alloc hle _).setCell hle _).setCell hle _).setCell hle _).setCell hle _).setCell hle _ |>.setCell hle _)
  have HW5 := Aside0.mk hW5
  have HT5 := Aside0.mk hT5
  clear hW5 hT5 hd2 u3 v3 hs4
  go_upto_region 31 with (first
    | (go_at_call 34; refine (atoi_ok s hs v hv _ HT5.out).mono ?_; rintro e w6 ⟨rfl, hb6⟩))
  have hd6 : w6.cell? ad2 = some (.string s) := by rw [hb6.cell (World.block_lt_of_cell? _ _ hd5)]; exact hd5
  have HB6 := Aside0.mk hb6
  clear hb6 hd5
  refine start_ (n := 18) (S := fun w' => w'.cell? ad2 = some (.string s) ∧ Aside0 (Below W5.heap.size W5 w')) (ds := []) #[false, false, false, false, false, false, false, false, false, false, false, false, false, false, false, false, false, false] (by kernel_rfl) rfl rfl ⟨hd6, ⟨HB6.out.drew⟩⟩ (fun hHeld => ?_)
  refine pure_ (i := 0) (N := some 98) (v := ?_) (a' := ?_) #[true, false, false, false, false, false, false, false, false, false, false, false, false, false, false, false, false, false] rfl rfl (by kernel_rfl) (fun _ _ _ h => h) (Or.inl ⟨by rfl, ?_⟩) ?_ ?_
  rotate_left
  · intro w'
    go_simp
    with_reducible rfl
  rotate_left
  · simp only [Act.put, List.setIfInBounds_toArray, List.set_cons_zero, List.set_cons_succ, i64_w, i32_w]
    rfl
  refine pure_ (i := 1) (N := some 99) (v := ?_) (a' := ?_) #[true, true, false, false, false, false, false, false, false, false, false, false, false, false, false, false, false, false] rfl rfl (by kernel_rfl) (fun _ _ _ h => h) (Or.inl ⟨by rfl, ?_⟩) ?_ ?_
  rotate_left
  · intro w'
    go_simp
    with_reducible rfl
  rotate_left
  · simp only [Act.put, List.setIfInBounds_toArray, List.set_cons_zero, List.set_cons_succ, i64_w, i32_w]
    rfl
  refine pure_ (i := 2) (N := some 100) (v := ?_) (a' := ?_) #[true, true, true, false, false, false, false, false, false, false, false, false, false, false, false, false, false, false] rfl rfl (by kernel_rfl) (fun _ _ _ h => h) (Or.inl ⟨by rfl, ?_⟩) ?_ ?_
  rotate_left
  · intro w'
    go_simp
    with_reducible rfl
  rotate_left
  · simp only [Act.put, List.setIfInBounds_toArray, List.set_cons_zero, List.set_cons_succ, i64_w, i32_w]
    rfl
  refine pure_ (i := 3) (N := some 101) (v := ?_) (a' := ?_) #[true, true, true, true, false, false, false, false, false, false, false, false, false, false, false, false, false, false] rfl rfl (by kernel_rfl) (fun _ _ _ h => h) (Or.inl ⟨by rfl, ?_⟩) ?_ ?_
  rotate_left
  · intro w'
    go_simp
    with_reducible rfl
  rotate_left
  · simp only [Act.put, List.setIfInBounds_toArray, List.set_cons_zero, List.set_cons_succ, i64_w, i32_w]
    rfl
  refine pure_ (i := 5) (N := some 103) (v := ?_) (a' := ?_) #[true, true, true, true, false, true, false, false, false, false, false, false, false, false, false, false, false, false] rfl rfl (by kernel_rfl) (fun _ _ _ h => h) (Or.inl ⟨by rfl, ?_⟩) ?_ ?_
  rotate_left
  · intro w'
    go_simp
    with_reducible rfl
  rotate_left
  · simp only [Act.put, List.setIfInBounds_toArray, List.set_cons_zero, List.set_cons_succ, i64_w, i32_w]
    rfl
  refine pure_ (i := 6) (N := some 104) (v := ?_) (a' := ?_) #[true, true, true, true, false, true, true, false, false, false, false, false, false, false, false, false, false, false] rfl rfl (by kernel_rfl) (fun _ _ _ h => h) (Or.inl ⟨by rfl, ?_⟩) ?_ ?_
  rotate_left
  · intro w'
    go_simp
    with_reducible rfl
  rotate_left
  · simp only [Act.put, List.setIfInBounds_toArray, List.set_cons_zero, List.set_cons_succ, i64_w, i32_w]
    rfl
  refine take_ (i := 7) (N := some 105) (v := ?_) (a' := ?_) #[true, true, true, true, false, true, true, true, false, false, false, false, false, false, false, false, false, false] rfl rfl (by kernel_rfl) (fun _ _ _ h => h) (Or.inl ⟨by rfl, ?_⟩) hHeld ?_ ?_
  rotate_left
  · rintro w' ⟨s0, s1⟩
    go_simp
    with_reducible rfl
  rotate_left
  · simp only [Act.put, List.setIfInBounds_toArray, List.set_cons_zero, List.set_cons_succ, i64_w, i32_w]
    rfl
  refine one_ (i := 4) (N := some 102) #[true, true, true, true, true, true, true, true, false, false, false, false, false, false, false, false, false, false] rfl rfl (by kernel_rfl) (by decide) (fun K hK => ?_)
  refine goes_ Tryz.func35 (by kernel_rfl) rfl #[.int .i64 v] (by rfl) rfl rfl (by simp only [List.map_toArray, List.map_cons, List.map_nil]; rfl) ?_
  with_reducible refine (itoa_call v h0 h1 _ (Tab.below HT5.out hHeld.2.out)).mono ?_
  rintro e w7 ⟨rfl, hb7⟩; rw [hq]
  refine ⟨_, rfl, ?_⟩
  refine hK.out _ _ ⟨(by rw [hb7.cell (World.block_lt_of_cell? _ _ hHeld.1)]; exact hHeld.1), ⟨hHeld.2.out.trans (hb7.mono hHeld.2.out.size)⟩⟩ (fun hHeld => ?_)
  clear hK K
  refine norm_ (a' := ?_) ?_ ?_
  rotate_left
  · show Act.put _ (some 102) _ = _
    simp only [Act.put, List.setIfInBounds_toArray, List.set_cons_zero, List.set_cons_succ, i64_w, i32_w]
    rfl
  refine pure_ (i := 8) (N := some 106) (v := ?_) (a' := ?_) #[true, true, true, true, true, true, true, true, true, false, false, false, false, false, false, false, false, false] rfl rfl (by kernel_rfl) (fun _ _ _ h => h) (Or.inl ⟨by rfl, ?_⟩) ?_ ?_
  rotate_left
  · intro w'
    go_simp
    with_reducible rfl
  rotate_left
  · simp only [Act.put, List.setIfInBounds_toArray, List.set_cons_zero, List.set_cons_succ, i64_w, i32_w]
    rfl
  refine pure_ (i := 9) (N := some 107) (v := ?_) (a' := ?_) #[true, true, true, true, true, true, true, true, true, true, false, false, false, false, false, false, false, false] rfl rfl (by kernel_rfl) (fun _ _ _ h => h) (Or.inl ⟨by rfl, ?_⟩) ?_ ?_
  rotate_left
  · intro w'
    go_simp
    with_reducible rfl
  rotate_left
  · simp only [Act.put, List.setIfInBounds_toArray, List.set_cons_zero, List.set_cons_succ, i64_w, i32_w]
    rfl
  refine pure_ (i := 10) (N := some 108) (v := ?_) (a' := ?_) #[true, true, true, true, true, true, true, true, true, true, true, false, false, false, false, false, false, false] rfl rfl (by kernel_rfl) (fun _ _ _ h => h) (Or.inl ⟨by rfl, ?_⟩) ?_ ?_
  rotate_left
  · intro w'
    go_simp
    with_reducible rfl
  rotate_left
  · simp only [Act.put, List.setIfInBounds_toArray, List.set_cons_zero, List.set_cons_succ, i64_w, i32_w]
    rfl
  refine pure_ (i := 11) (N := some 109) (v := undef) (a' := ?_) #[true, true, true, true, true, true, true, true, true, true, true, true, false, false, false, false, false, false] rfl rfl (by kernel_rfl) (fun _ _ _ h => h) (Or.inr ⟨by rfl, rfl⟩) ?_ ?_
  rotate_left
  · simp only [Act.put, List.setIfInBounds_toArray, List.set_cons_zero, List.set_cons_succ, i64_w, i32_w]
    rfl
  refine pure_ (i := 12) (N := some 110) (v := undef) (a' := ?_) #[true, true, true, true, true, true, true, true, true, true, true, true, true, false, false, false, false, false] rfl rfl (by kernel_rfl) (fun _ _ _ h => h) (Or.inr ⟨by rfl, rfl⟩) ?_ ?_
  rotate_left
  · simp only [Act.put, List.setIfInBounds_toArray, List.set_cons_zero, List.set_cons_succ, i64_w, i32_w]
    rfl
  refine pure_ (i := 13) (N := some 111) (v := ?_) (a' := ?_) #[true, true, true, true, true, true, true, true, true, true, true, true, true, true, false, false, false, false] rfl rfl (by kernel_rfl) (fun _ _ _ h => h) (Or.inl ⟨by rfl, ?_⟩) ?_ ?_
  rotate_left
  · intro w'
    go_simp
    with_reducible rfl
  rotate_left
  · simp only [Act.put, List.setIfInBounds_toArray, List.set_cons_zero, List.set_cons_succ, i64_w, i32_w]
    rfl
  refine pure_ (i := 14) (N := some 112) (v := ?_) (a' := ?_) #[true, true, true, true, true, true, true, true, true, true, true, true, true, true, true, false, false, false] rfl rfl (by kernel_rfl) (fun _ _ _ h => h) (Or.inl ⟨by rfl, ?_⟩) ?_ ?_
  rotate_left
  · intro w'
    go_simp
    with_reducible rfl
  rotate_left
  · simp only [Act.put, List.setIfInBounds_toArray, List.set_cons_zero, List.set_cons_succ, i64_w, i32_w]
    rfl
  refine pure_ (i := 15) (N := some 113) (v := undef) (a' := ?_) #[true, true, true, true, true, true, true, true, true, true, true, true, true, true, true, true, false, false] rfl rfl (by kernel_rfl) (fun _ _ _ h => h) (Or.inr ⟨by rfl, rfl⟩) ?_ ?_
  rotate_left
  · simp only [Act.put, List.setIfInBounds_toArray, List.set_cons_zero, List.set_cons_succ, i64_w, i32_w]
    rfl
  refine pure_ (i := 16) (N := some 114) (v := undef) (a' := ?_) #[true, true, true, true, true, true, true, true, true, true, true, true, true, true, true, true, true, false] rfl rfl (by kernel_rfl) (fun _ _ _ h => h) (Or.inr ⟨by rfl, rfl⟩) ?_ ?_
  rotate_left
  · simp only [Act.put, List.setIfInBounds_toArray, List.set_cons_zero, List.set_cons_succ, i64_w, i32_w]
    rfl
  refine pure_ (i := 17) (N := some 115) (v := ?_) (a' := ?_) #[true, true, true, true, true, true, true, true, true, true, true, true, true, true, true, true, true, true] rfl rfl (by kernel_rfl) (fun _ _ _ h => h) (Or.inl ⟨by rfl, ?_⟩) ?_ ?_
  rotate_left
  · intro w'
    go_simp
    with_reducible rfl
  rotate_left
  · simp only [Act.put, List.setIfInBounds_toArray, List.set_cons_zero, List.set_cons_succ, i64_w, i32_w]
    rfl
  refine done_ (by kernel_rfl) ?_

  obtain ⟨Z, hZ⟩ : ∃ Z, Z = w7 := ⟨_, rfl⟩
  rw [← hZ] at hHeld ⊢
  clear hZ
  obtain ⟨hd7, HB7⟩ := hHeld
  have hlt1 : w.heap.size < w3.heap.size := (Array.getElem?_eq_some_iff.1 HBOX3.out).1
  have hs4 : w3.heap.size < W4.heap.size := (Array.getElem?_eq_some_iff.1 HB4.out).1
  have hs5 : W5.heap.size = W4.heap.size := by rw [HW5.out]; exact set_size
  have hbZ : Z.heap[w3.heap.size]? = some (.cells #[.int .i64 7, .string ⟨#[]⟩, .slice none 0 0, .slice none 0 0, .int .i64 1] 24 (0, 0)) := by
    rw [HB7.out.block _ (by omega), HW5.out]
    exact box_set HB4.out
  have hkZ : ∀ k, k < w3.heap.size → Z.heap[k]? = w3.heap[k]? := by
    intro k hk
    rw [HB7.out.block _ (by omega), HW5.out]
    exact (set_kept (Nat.ne_of_lt hk)).trans (HK4.out k hk)
  have hcZ := (hkZ w.heap.size hlt1).trans HBOX3.out
  have hBZ : Below w.heap.size w Z := by
    have hle : w.heap.size ≤ w3.heap.size := Nat.le_of_lt hlt1
    have h5 : Below w.heap.size w W5 := by
      rw [HW5.out, HW4.out]
      exact ((((((pw_below_drewN (below_via HB1.out hb3.out) nd2).alloc hle _).setCell hle _).setCell hle _).setCell hle _).setCell hle _).setCell hle _ |>.setCell hle _
    exact h5.trans (HB7.out.mono h5.size)
  obtain ⟨x0, y0⟩ := box_cell (j := 0) hcZ
  obtain ⟨x1, y1⟩ := box_cell (j := 1) hcZ
  obtain ⟨x2, y2⟩ := box_cell (j := 2) hcZ
  obtain ⟨x3, y3⟩ := box_cell (j := 3) hcZ
  obtain ⟨x4, y4⟩ := box_cell (j := 4) hcZ
  simp only [List.getElem?_toArray, List.getElem?_cons_zero, List.getElem?_cons_succ] at x0 x1 x2 x3 x4
  have HCZ := Aside0.mk hcZ
  have HBZ := Aside0.mk hbZ
  have HKZ := Aside0.mk hkZ
  have HBBZ := Aside0.mk hBZ
  clear hcZ hbZ hkZ hBZ hs4 hs5 hlt1 hd6 hd7
  go_wp2
  refine bodyPost_ret (results_ct rfl _ _ w.heap.size 24 _ (0, 0) _ rfl (box_set (box_set (box_set (box_set (box_set HCZ.out))))) Tryz.underlying24 rfl (by kernel_rfl)) rfl ?_
  refine ⟨⟨_, _, rfl, Kd.V_nil _ _ _ _ _, Kd.V_nil _ _ _ _ _⟩, ?_⟩
  exact ((((HBBZ.out.setCell (Nat.le_refl _) _).setCell (Nat.le_refl _) _).setCell (Nat.le_refl _) _).setCell (Nat.le_refl _) _).setCell (Nat.le_refl _) _
end Go.Proofs.YtpiafpkpdbknfaaGreatDoor.Sup
