/- smithyref16.Parse: 'say', 'test-exists', 'touch', 'remove'. Conditions: those in each statement. -/
import Derived.Test.YtpiafpkpdbknfaaGreatDoorSRefBase
namespace Go.Proofs.YtpiafpkpdbknfaaGreatDoor.Sup
open Go.RowKit Go.Proofs.YtpiafpkpdbknfaaGreatDoorW.PrintWords Go.Proofs.YtpiafpkpdbknfaaGreatDoorW.PrintLast Go.Proofs.YtpiafpkpdbknfaaGreatDoorW.PrintMore
attribute [local go_sem] max2_int min2_int max_two min_two max_three min_three max_four min_four
set_option linter.unusedVariables false
set_option linter.unusedSimpArgs false
set_option maxHeartbeats 1000000 in
set_option maxRecDepth 100000 in
theorem ref_say (l : List ByteArray) (b : Bool) (A0 : Option Addr) (c0 : Nat) (x : ByteArray) (w : World) (hr : Kd.C Kd.string w A0 (x :: l).length (x :: l)) (hc : (x :: l).length ≤ c0) (hl : (x :: l).length ≤ 514)
    (HO : OpOk x 8) (HCNT : ManyOk 8 (l.length : Int) true) (HF : RFilesOk 8 ByteArray.empty [] l 0 b) :
    Calls Tryz.prog 10 #[.slice A0 (x :: l).length c0] w fun ev w' => parseP w w' ev (cond b 8 0) ByteArray.empty [] (cond b l []) 0 (cond b 0 3) := by
  cases b <;> dsimp only [cond]
  all_goals
    obtain ⟨ad, A1, rfl, hcell, hcut, hrun⟩ := words_cut hr hc
    have HCUT := Aside0.mk hcut
    rw [List.length_cons] at hl hc ⊢
    have HC := Aside0.mk hc
    clear hcut hc hr
    obtain ⟨n, hn⟩ : ∃ n, (l).length + 1 = n := ⟨_, rfl⟩
    rw [hn] at hl hrun ⊢
    have b1 : decide ((n : Int) > 514) = false := decide_eq_false (by omega)
    have b2 : ((n : Int) == 0) = false := beq_eq_false_iff_ne.2 (by omega)
    have p0 : (0 : Int) < (n : Int) := by omega
    have pn : 0 < n := by omega
    have pz : n ≠ 0 := by omega
    have pz2 : ¬ n ≤ 0 := by omega
    obtain ⟨m, hm⟩ : ∃ m, (l).length = m := ⟨_, rfl⟩
    rw [hm] at hrun hn
    have hm514 : m ≤ 514 := by omega
    have HN := Aside0.mk hn
    have HM := Aside0.mk hm
    have HL514 := Aside0.mk hm514
    clear hn hm hm514
    have hlt := World.block_lt_of_cell? _ _ hcell
    have hnew := World.new_ne w ad hcell
    go_enter Tryz.func10, Tryz.ntmps10
    go_upto_region 6 with (first
      | (go_at_call 37; with_reducible refine (op_at HO _).mono ?_; rintro e w1 ⟨rfl, ⟨nd, rfl⟩⟩))
    obtain ⟨gc, hgc⟩ : ∃ gc, gc = w.heap.size + 1 := ⟨_, rfl⟩
    rw [← hgc]
    obtain ⟨W3, hW3⟩ : ∃ W3, W3 = ((w.alloc (Obj.cells #[.int .i64 0, .string ⟨#[]⟩, .slice none 0 0, .slice none 0 0, .int .i64 0] 24)).drewN nd).alloc (Obj.cells #[.int .i64 8, .string ⟨#[]⟩, .slice none 0 0, .slice none 0 0, .int .i64 0] 24) := ⟨_, rfl⟩
    rw [← hW3]
    have hs1 : (w.alloc (Obj.cells #[.int .i64 0, .string ⟨#[]⟩, .slice none 0 0, .slice none 0 0, .int .i64 0] 24)).heap.size = w.heap.size + 1 := by show (w.heap.push _).size = _; rw [Array.size_push]
    have hs3 : W3.heap.size = w.heap.size + 2 := by rw [hW3]; show ((w.alloc (Obj.cells #[.int .i64 0, .string ⟨#[]⟩, .slice none 0 0, .slice none 0 0, .int .i64 0] 24)).heap.push _).size = _; rw [Array.size_push, hs1]
    have hbR : W3.heap[w.heap.size]? = some (.cells #[.int .i64 0, .string ⟨#[]⟩, .slice none 0 0, .slice none 0 0, .int .i64 0] 24 (0, 0)) := by
      rw [hW3]
      show ((w.alloc (Obj.cells #[.int .i64 0, .string ⟨#[]⟩, .slice none 0 0, .slice none 0 0, .int .i64 0] 24)).heap.push _)[w.heap.size]? = _
      rw [Array.getElem?_push_lt (by rw [hs1]; omega), ← Array.getElem?_eq_getElem]
      exact alloc_top w _
    have hbC : W3.heap[gc]? = some (.cells #[.int .i64 8, .string ⟨#[]⟩, .slice none 0 0, .slice none 0 0, .int .i64 0] 24 (0, 0)) := by
      rw [hW3, hgc, ← hs1]
      exact alloc_top ((w.alloc (Obj.cells #[.int .i64 0, .string ⟨#[]⟩, .slice none 0 0, .slice none 0 0, .int .i64 0] 24)).drewN nd) _
    have hB3 : Below w.heap.size w W3 := by
      rw [hW3]
      exact (pw_below_drewN ((Below.refl w.heap.size w).alloc (Nat.le_refl _) _) nd).alloc (by show w.heap.size ≤ (w.heap.push _).size; rw [Array.size_push]; omega) _
    have HW3 := Aside0.mk hW3
    have HS3 := Aside0.mk hs3
    have HGC := Aside0.mk hgc
    have HBR := Aside0.mk hbR
    have HBC := Aside0.mk hbC
    have HB3 := Aside0.mk hB3
    clear hW3 hs3 hgc hbR hbC hB3 hs1
    go_upto_region 7 with (first
      | (at_builtin; refine Kd.R_append_rows Kd.string (w0 := W3) W3.heap.size rfl (.tmp 19) (.tmp 21) 22 9 (.string ⟨#[]⟩) 16 rfl Tryz.underlying22 infoS_ rfl (by decide) (by omega) (.slice (some ⟨W3.heap.size, 0, none⟩) 0 0) [] (l) _ _ _ (fun _ => True) (fun _ => False) rfl rfl (r_empty (Nat.le_refl _)) ?aR (fun _ _ h => h) (fun _ h => h.elim) (fun _ _ => trivial) ((Below.refl _ _).alloc (Nat.le_refl _) _) (by show W3.heap.size ≤ (W3.heap.push _).size; rw [Array.size_push]; omega) (by have := HL514.out; show (0 + m) * 16 ≤ _; omega) ?_; (case aR => have h_ := Kd.C_below HCUT.out (HB3.out.alloc (by have := HS3.out; omega) (.cells #[] 9)); rw [HM.out] at h_; exact h_); intro v1 w5 ho hb5 hg_ hf_; obtain ⟨A2, c2, rfl⟩ := Kd.R_slice ho; rw [List.nil_append, HM.out] at ho; rw [List.nil_append, HM.out]; have HO5 := Aside0.mk ho; have HB5 := Aside0.mk hb5; clear ho hb5 hg_ hf_))
    have hC5 := (HB5.out.block gc (by have := HS3.out; have := HGC.out; omega)).trans HBC.out
    have hR5 := (HB5.out.block w.heap.size (by have := HS3.out; omega)).trans HBR.out
    obtain ⟨⟨u0, v0⟩, ⟨u1, v1⟩, ⟨u2, v2⟩, ⟨u3, v3⟩, ⟨u4, v4⟩⟩ := box5 hC5
    have HC5 := Aside0.mk hC5
    have HR5 := Aside0.mk hR5
    have hgne : (gc = w.heap.size) = False := eq_false (by have := HGC.out; omega)
    have hgne' : (w.heap.size = gc) = False := eq_false (by have := HGC.out; omega)
    clear hC5 hR5
    go_upto_region 32 with (first
      | (go_at_call 38; with_reducible refine (many_at HCNT HM.out _).mono ?_; rintro e w6 ⟨rfl, ⟨nd2, rfl⟩⟩))
    obtain ⟨W6, hW6⟩ : ∃ W6, W6 = ((w5.drewN nd2).setCell ⟨gc, 3, none⟩ (.slice A2 m c2)) := ⟨_, rfl⟩
    rw [← hW6]
    have hb6 : W6.heap[gc]? = some (.cells #[.int .i64 8, .string ⟨#[]⟩, .slice none 0 0, .slice A2 m c2, .int .i64 0] 24 (0, 0)) := by
      rw [hW6]
      exact box_set (HC5.out)
    have hk6 : ∀ k, k ≠ gc → W6.heap[k]? = w5.heap[k]? := by
      intro k hk
      rw [hW6]
      exact (set_keptR hk).trans (rfl)
    have hR6 := (hk6 w.heap.size (by have := HGC.out; omega)).trans HR5.out
    have hgl : w.heap.size ≤ gc := by have := HGC.out; omega
    have h5 : Below w.heap.size w w5 := HB3.out.trans (HB5.out.mono HB3.out.size)
    have hB6 : Below w.heap.size w W6 := by
      rw [hW6]
      exact ((pw_below_drewN h5 nd2).setCell hgl _)
    have hk5 : ∀ k, W3.heap.size ≤ k → k < w5.heap.size → W6.heap[k]? = w5.heap[k]? := fun k hk _ => hk6 k (by have := HS3.out; have := HGC.out; omega)
    have HV2 := Aside0.mk (show Kd.V Kd.string 9 W6 0 (fun k_ => W3.heap.size ≤ k_) (.slice none 0 0) _ from Kd.V_nil _ _ _ _ _)
    have HV3 := Aside0.mk (show Kd.V Kd.string 9 W6 0 (fun k_ => W3.heap.size ≤ k_) (.slice A2 m c2) _ from v_keep HO5.out (Nat.le_refl _) hk5)
    obtain ⟨⟨u0, v0⟩, ⟨u1, v1⟩, ⟨u2, v2⟩, ⟨u3, v3⟩, ⟨u4, v4⟩⟩ := box5 hb6
    have HC6 := Aside0.mk hb6
    have HR6 := Aside0.mk hR6
    have HW6 := Aside0.mk hW6
    have HB6 := Aside0.mk hB6
    clear hb6 hk6 hR6 hW6 hB6 h5 hk5 hgl
    go_wp2_with (first
      | (go_at_call 40; refine (rfiles_at HF HV2.out HV3.out).mono ?_; rintro e w7 ⟨rfl, hb7⟩; have hR7 := (hb7.block w.heap.size (Array.getElem?_eq_some_iff.1 HR6.out).1).trans HR6.out; have hC7 := (hb7.block gc (Array.getElem?_eq_some_iff.1 HC6.out).1).trans HC6.out; clear u0 u1 u2 u3 u4 v0 v1 v2 v3 v4; obtain ⟨⟨u0, v0⟩, ⟨u1, v1⟩, ⟨u2, v2⟩, ⟨u3, v3⟩, ⟨u4, v4⟩⟩ := box5 hC7; obtain ⟨⟨x0, y0⟩, ⟨x1, y1⟩, ⟨x2, y2⟩, ⟨x3, y3⟩, ⟨x4, y4⟩⟩ := box5 hR7; have HB7 := Aside0.mk hb7; have HR7 := Aside0.mk hR7; clear hb7 hR7 hC7))
    have hB7 : Below w.heap.size w w7 := HB6.out.trans (HB7.out.mono HB6.out.size)
    refine bodyPost_ret (results_ct rfl _ _ w.heap.size 24 _ (0, 0) _ rfl (box_set (box_set (box_set (box_set (box_set HR7.out))))) Tryz.underlying24 rfl (by rfl)) rfl ?_
    have hkf : ∀ (k : Nat), W3.heap.size ≤ k → k < W6.heap.size → k ≠ w.heap.size ∧ w7.heap[k]? = W6.heap[k]? := fun k hk hlt => ⟨by have := HS3.out; omega, HB7.out.block k hlt⟩
    have hb3_ : w.heap.size ≤ W3.heap.size := by have := HS3.out; omega
    first | exact ⟨⟨_, _, rfl, vv_keep HV2.out (fun k hk hlt => (set5 (hkf k hk hlt).1).trans (hkf k hk hlt).2) hb3_, vv_keep HV3.out (fun k hk hlt => (set5 (hkf k hk hlt).1).trans (hkf k hk hlt).2) hb3_⟩, below5 hB7 (Nat.le_refl _)⟩ | exact ⟨⟨_, _, rfl, Kd.V_nil _ _ _ _ _, Kd.V_nil _ _ _ _ _⟩, below5 hB7 (Nat.le_refl _)⟩
set_option maxHeartbeats 1000000 in
set_option maxRecDepth 100000 in
theorem ref_test (d : ByteArray) (b : Bool) (A0 : Option Addr) (c0 : Nat) (x : ByteArray) (w : World) (hr : Kd.C Kd.string w A0 (x :: [d]).length (x :: [d])) (hc : (x :: [d]).length ≤ c0) (hl : (x :: [d]).length ≤ 514)
    (HO : OpOk x 6) (HCNT : ManyOk 6 ([d].length : Int) true) (HF : RFilesOk 6 ByteArray.empty [d] [] 0 b) :
    Calls Tryz.prog 10 #[.slice A0 (x :: [d]).length c0] w fun ev w' => parseP w w' ev (cond b 6 0) ByteArray.empty (cond b [d] []) [] 0 (cond b 0 3) := by
  cases b <;> dsimp only [cond]
  all_goals
    obtain ⟨ad, A1, rfl, hcell, hcut, hrun⟩ := words_cut hr hc
    have HCUT := Aside0.mk hcut
    rw [List.length_cons] at hl hc ⊢
    have HC := Aside0.mk hc
    clear hcut hc hr
    obtain ⟨n, hn⟩ : ∃ n, ([d]).length + 1 = n := ⟨_, rfl⟩
    rw [hn] at hl hrun ⊢
    have b1 : decide ((n : Int) > 514) = false := decide_eq_false (by omega)
    have b2 : ((n : Int) == 0) = false := beq_eq_false_iff_ne.2 (by omega)
    have p0 : (0 : Int) < (n : Int) := by omega
    have pn : 0 < n := by omega
    have pz : n ≠ 0 := by omega
    have pz2 : ¬ n ≤ 0 := by omega
    have hm : ([d]).length = 1 := rfl
    replace HCNT : ManyOk 6 1 true := HCNT
    rw [hm] at hrun hn
    have hm514 : 1 ≤ 514 := by omega
    have HN := Aside0.mk hn
    have HM := Aside0.mk hm
    have HL514 := Aside0.mk hm514
    clear hn hm hm514
    have hlt := World.block_lt_of_cell? _ _ hcell
    have hnew := World.new_ne w ad hcell
    go_enter Tryz.func10, Tryz.ntmps10
    go_upto_region 6 with (first
      | (go_at_call 37; with_reducible refine (op_at HO _).mono ?_; rintro e w1 ⟨rfl, ⟨nd, rfl⟩⟩))
    obtain ⟨gc, hgc⟩ : ∃ gc, gc = w.heap.size + 1 := ⟨_, rfl⟩
    rw [← hgc]
    obtain ⟨W3, hW3⟩ : ∃ W3, W3 = ((w.alloc (Obj.cells #[.int .i64 0, .string ⟨#[]⟩, .slice none 0 0, .slice none 0 0, .int .i64 0] 24)).drewN nd).alloc (Obj.cells #[.int .i64 6, .string ⟨#[]⟩, .slice none 0 0, .slice none 0 0, .int .i64 0] 24) := ⟨_, rfl⟩
    rw [← hW3]
    have hs1 : (w.alloc (Obj.cells #[.int .i64 0, .string ⟨#[]⟩, .slice none 0 0, .slice none 0 0, .int .i64 0] 24)).heap.size = w.heap.size + 1 := by show (w.heap.push _).size = _; rw [Array.size_push]
    have hs3 : W3.heap.size = w.heap.size + 2 := by rw [hW3]; show ((w.alloc (Obj.cells #[.int .i64 0, .string ⟨#[]⟩, .slice none 0 0, .slice none 0 0, .int .i64 0] 24)).heap.push _).size = _; rw [Array.size_push, hs1]
    have hbR : W3.heap[w.heap.size]? = some (.cells #[.int .i64 0, .string ⟨#[]⟩, .slice none 0 0, .slice none 0 0, .int .i64 0] 24 (0, 0)) := by
      rw [hW3]
      show ((w.alloc (Obj.cells #[.int .i64 0, .string ⟨#[]⟩, .slice none 0 0, .slice none 0 0, .int .i64 0] 24)).heap.push _)[w.heap.size]? = _
      rw [Array.getElem?_push_lt (by rw [hs1]; omega), ← Array.getElem?_eq_getElem]
      exact alloc_top w _
    have hbC : W3.heap[gc]? = some (.cells #[.int .i64 6, .string ⟨#[]⟩, .slice none 0 0, .slice none 0 0, .int .i64 0] 24 (0, 0)) := by
      rw [hW3, hgc, ← hs1]
      exact alloc_top ((w.alloc (Obj.cells #[.int .i64 0, .string ⟨#[]⟩, .slice none 0 0, .slice none 0 0, .int .i64 0] 24)).drewN nd) _
    have hB3 : Below w.heap.size w W3 := by
      rw [hW3]
      exact (pw_below_drewN ((Below.refl w.heap.size w).alloc (Nat.le_refl _) _) nd).alloc (by show w.heap.size ≤ (w.heap.push _).size; rw [Array.size_push]; omega) _
    have HW3 := Aside0.mk hW3
    have HS3 := Aside0.mk hs3
    have HGC := Aside0.mk hgc
    have HBR := Aside0.mk hbR
    have HBC := Aside0.mk hbC
    have HB3 := Aside0.mk hB3
    clear hW3 hs3 hgc hbR hbC hB3 hs1
    go_upto_region 7 with (first
      | (at_builtin; refine Kd.R_append_rows Kd.string (w0 := W3) W3.heap.size rfl (.tmp 19) (.tmp 21) 22 9 (.string ⟨#[]⟩) 16 rfl Tryz.underlying22 infoS_ rfl (by decide) (by omega) (.slice (some ⟨W3.heap.size, 0, none⟩) 0 0) [] ([d]) _ _ _ (fun _ => True) (fun _ => False) rfl rfl (r_empty (Nat.le_refl _)) ?aR (fun _ _ h => h) (fun _ h => h.elim) (fun _ _ => trivial) ((Below.refl _ _).alloc (Nat.le_refl _) _) (by show W3.heap.size ≤ (W3.heap.push _).size; rw [Array.size_push]; omega) (by have := HL514.out; show (0 + 1) * 16 ≤ _; omega) ?_; (case aR => have h_ := Kd.C_below HCUT.out (HB3.out.alloc (by have := HS3.out; omega) (.cells #[] 9)); rw [HM.out] at h_; exact h_); intro v1 w5 ho hb5 hg_ hf_; obtain ⟨A2, c2, rfl⟩ := Kd.R_slice ho; rw [List.nil_append, HM.out] at ho; rw [List.nil_append, HM.out]; have HO5 := Aside0.mk ho; have HB5 := Aside0.mk hb5; clear ho hb5 hg_ hf_))
    have hC5 := (HB5.out.block gc (by have := HS3.out; have := HGC.out; omega)).trans HBC.out
    have hR5 := (HB5.out.block w.heap.size (by have := HS3.out; omega)).trans HBR.out
    obtain ⟨⟨u0, v0⟩, ⟨u1, v1⟩, ⟨u2, v2⟩, ⟨u3, v3⟩, ⟨u4, v4⟩⟩ := box5 hC5
    have HC5 := Aside0.mk hC5
    have HR5 := Aside0.mk hR5
    have hgne : (gc = w.heap.size) = False := eq_false (by have := HGC.out; omega)
    have hgne' : (w.heap.size = gc) = False := eq_false (by have := HGC.out; omega)
    clear hC5 hR5
    go_upto_region 32 with (first
      | (go_at_call 38; with_reducible refine (many_lit HCNT _).mono ?_; rintro e w6 ⟨rfl, ⟨nd2, rfl⟩⟩))
    obtain ⟨W6, hW6⟩ : ∃ W6, W6 = ((w5.drewN nd2).setCell ⟨gc, 2, none⟩ (.slice A2 1 c2)) := ⟨_, rfl⟩
    rw [← hW6]
    have hb6 : W6.heap[gc]? = some (.cells #[.int .i64 6, .string ⟨#[]⟩, .slice A2 1 c2, .slice none 0 0, .int .i64 0] 24 (0, 0)) := by
      rw [hW6]
      exact box_set (HC5.out)
    have hk6 : ∀ k, k ≠ gc → W6.heap[k]? = w5.heap[k]? := by
      intro k hk
      rw [hW6]
      exact (set_keptR hk).trans (rfl)
    have hR6 := (hk6 w.heap.size (by have := HGC.out; omega)).trans HR5.out
    have hgl : w.heap.size ≤ gc := by have := HGC.out; omega
    have h5 : Below w.heap.size w w5 := HB3.out.trans (HB5.out.mono HB3.out.size)
    have hB6 : Below w.heap.size w W6 := by
      rw [hW6]
      exact ((pw_below_drewN h5 nd2).setCell hgl _)
    have hk5 : ∀ k, W3.heap.size ≤ k → k < w5.heap.size → W6.heap[k]? = w5.heap[k]? := fun k hk _ => hk6 k (by have := HS3.out; have := HGC.out; omega)
    have HV2 := Aside0.mk (show Kd.V Kd.string 9 W6 0 (fun k_ => W3.heap.size ≤ k_) (.slice A2 1 c2) _ from v_keep HO5.out (Nat.le_refl _) hk5)
    have HV3 := Aside0.mk (show Kd.V Kd.string 9 W6 0 (fun k_ => W3.heap.size ≤ k_) (.slice none 0 0) _ from Kd.V_nil _ _ _ _ _)
    obtain ⟨⟨u0, v0⟩, ⟨u1, v1⟩, ⟨u2, v2⟩, ⟨u3, v3⟩, ⟨u4, v4⟩⟩ := box5 hb6
    have HC6 := Aside0.mk hb6
    have HR6 := Aside0.mk hR6
    have HW6 := Aside0.mk hW6
    have HB6 := Aside0.mk hB6
    clear hb6 hk6 hR6 hW6 hB6 h5 hk5 hgl
    go_wp2_with (first
      | (go_at_call 40; refine (rfiles_at HF HV2.out HV3.out).mono ?_; rintro e w7 ⟨rfl, hb7⟩; have hR7 := (hb7.block w.heap.size (Array.getElem?_eq_some_iff.1 HR6.out).1).trans HR6.out; have hC7 := (hb7.block gc (Array.getElem?_eq_some_iff.1 HC6.out).1).trans HC6.out; clear u0 u1 u2 u3 u4 v0 v1 v2 v3 v4; obtain ⟨⟨u0, v0⟩, ⟨u1, v1⟩, ⟨u2, v2⟩, ⟨u3, v3⟩, ⟨u4, v4⟩⟩ := box5 hC7; obtain ⟨⟨x0, y0⟩, ⟨x1, y1⟩, ⟨x2, y2⟩, ⟨x3, y3⟩, ⟨x4, y4⟩⟩ := box5 hR7; have HB7 := Aside0.mk hb7; have HR7 := Aside0.mk hR7; clear hb7 hR7 hC7))
    have hB7 : Below w.heap.size w w7 := HB6.out.trans (HB7.out.mono HB6.out.size)
    refine bodyPost_ret (results_ct rfl _ _ w.heap.size 24 _ (0, 0) _ rfl (box_set (box_set (box_set (box_set (box_set HR7.out))))) Tryz.underlying24 rfl (by rfl)) rfl ?_
    have hkf : ∀ (k : Nat), W3.heap.size ≤ k → k < W6.heap.size → k ≠ w.heap.size ∧ w7.heap[k]? = W6.heap[k]? := fun k hk hlt => ⟨by have := HS3.out; omega, HB7.out.block k hlt⟩
    have hb3_ : w.heap.size ≤ W3.heap.size := by have := HS3.out; omega
    first | exact ⟨⟨_, _, rfl, vv_keep HV2.out (fun k hk hlt => (set5 (hkf k hk hlt).1).trans (hkf k hk hlt).2) hb3_, vv_keep HV3.out (fun k hk hlt => (set5 (hkf k hk hlt).1).trans (hkf k hk hlt).2) hb3_⟩, below5 hB7 (Nat.le_refl _)⟩ | exact ⟨⟨_, _, rfl, Kd.V_nil _ _ _ _ _, Kd.V_nil _ _ _ _ _⟩, below5 hB7 (Nat.le_refl _)⟩
set_option maxHeartbeats 1000000 in
set_option maxRecDepth 100000 in
theorem ref_touch (d : ByteArray) (b : Bool) (A0 : Option Addr) (c0 : Nat) (x : ByteArray) (w : World) (hr : Kd.C Kd.string w A0 (x :: [d]).length (x :: [d])) (hc : (x :: [d]).length ≤ c0) (hl : (x :: [d]).length ≤ 514)
    (HO : OpOk x 4) (HCNT : ManyOk 4 ([d].length : Int) true) (HF : RFilesOk 4 d [] [] 0 b) :
    Calls Tryz.prog 10 #[.slice A0 (x :: [d]).length c0] w fun ev w' => parseP w w' ev (cond b 4 0) (cond b d ByteArray.empty) [] [] 0 (cond b 0 3) := by
  cases b <;> dsimp only [cond]
  all_goals
    obtain ⟨ad, A1, rfl, hcell, hcut, hrun⟩ := words_cut hr hc
    have HCUT := Aside0.mk hcut
    rw [List.length_cons] at hl hc ⊢
    have HC := Aside0.mk hc
    clear hcut hc hr
    obtain ⟨n, hn⟩ : ∃ n, ([d]).length + 1 = n := ⟨_, rfl⟩
    rw [hn] at hl hrun ⊢
    have b1 : decide ((n : Int) > 514) = false := decide_eq_false (by omega)
    have b2 : ((n : Int) == 0) = false := beq_eq_false_iff_ne.2 (by omega)
    have p0 : (0 : Int) < (n : Int) := by omega
    have pn : 0 < n := by omega
    have pz : n ≠ 0 := by omega
    have pz2 : ¬ n ≤ 0 := by omega
    have hm : ([d]).length = 1 := rfl
    replace HCNT : ManyOk 4 1 true := HCNT
    rw [hm] at hrun hn
    have hm514 : 1 ≤ 514 := by omega
    have HN := Aside0.mk hn
    have HM := Aside0.mk hm
    have HL514 := Aside0.mk hm514
    clear hn hm hm514
    have hlt := World.block_lt_of_cell? _ _ hcell
    have hnew := World.new_ne w ad hcell
    go_enter Tryz.func10, Tryz.ntmps10
    go_upto_region 6 with (first
      | (go_at_call 37; with_reducible refine (op_at HO _).mono ?_; rintro e w1 ⟨rfl, ⟨nd, rfl⟩⟩))
    obtain ⟨gc, hgc⟩ : ∃ gc, gc = w.heap.size + 1 := ⟨_, rfl⟩
    rw [← hgc]
    obtain ⟨W3, hW3⟩ : ∃ W3, W3 = ((w.alloc (Obj.cells #[.int .i64 0, .string ⟨#[]⟩, .slice none 0 0, .slice none 0 0, .int .i64 0] 24)).drewN nd).alloc (Obj.cells #[.int .i64 4, .string ⟨#[]⟩, .slice none 0 0, .slice none 0 0, .int .i64 0] 24) := ⟨_, rfl⟩
    rw [← hW3]
    have hs1 : (w.alloc (Obj.cells #[.int .i64 0, .string ⟨#[]⟩, .slice none 0 0, .slice none 0 0, .int .i64 0] 24)).heap.size = w.heap.size + 1 := by show (w.heap.push _).size = _; rw [Array.size_push]
    have hs3 : W3.heap.size = w.heap.size + 2 := by rw [hW3]; show ((w.alloc (Obj.cells #[.int .i64 0, .string ⟨#[]⟩, .slice none 0 0, .slice none 0 0, .int .i64 0] 24)).heap.push _).size = _; rw [Array.size_push, hs1]
    have hbR : W3.heap[w.heap.size]? = some (.cells #[.int .i64 0, .string ⟨#[]⟩, .slice none 0 0, .slice none 0 0, .int .i64 0] 24 (0, 0)) := by
      rw [hW3]
      show ((w.alloc (Obj.cells #[.int .i64 0, .string ⟨#[]⟩, .slice none 0 0, .slice none 0 0, .int .i64 0] 24)).heap.push _)[w.heap.size]? = _
      rw [Array.getElem?_push_lt (by rw [hs1]; omega), ← Array.getElem?_eq_getElem]
      exact alloc_top w _
    have hbC : W3.heap[gc]? = some (.cells #[.int .i64 4, .string ⟨#[]⟩, .slice none 0 0, .slice none 0 0, .int .i64 0] 24 (0, 0)) := by
      rw [hW3, hgc, ← hs1]
      exact alloc_top ((w.alloc (Obj.cells #[.int .i64 0, .string ⟨#[]⟩, .slice none 0 0, .slice none 0 0, .int .i64 0] 24)).drewN nd) _
    have hB3 : Below w.heap.size w W3 := by
      rw [hW3]
      exact (pw_below_drewN ((Below.refl w.heap.size w).alloc (Nat.le_refl _) _) nd).alloc (by show w.heap.size ≤ (w.heap.push _).size; rw [Array.size_push]; omega) _
    have HW3 := Aside0.mk hW3
    have HS3 := Aside0.mk hs3
    have HGC := Aside0.mk hgc
    have HBR := Aside0.mk hbR
    have HBC := Aside0.mk hbC
    have HB3 := Aside0.mk hB3
    clear hW3 hs3 hgc hbR hbC hB3 hs1
    go_upto_region 7 with (first
      | (at_builtin; refine Kd.R_append_rows Kd.string (w0 := W3) W3.heap.size rfl (.tmp 19) (.tmp 21) 22 9 (.string ⟨#[]⟩) 16 rfl Tryz.underlying22 infoS_ rfl (by decide) (by omega) (.slice (some ⟨W3.heap.size, 0, none⟩) 0 0) [] ([d]) _ _ _ (fun _ => True) (fun _ => False) rfl rfl (r_empty (Nat.le_refl _)) ?aR (fun _ _ h => h) (fun _ h => h.elim) (fun _ _ => trivial) ((Below.refl _ _).alloc (Nat.le_refl _) _) (by show W3.heap.size ≤ (W3.heap.push _).size; rw [Array.size_push]; omega) (by have := HL514.out; show (0 + 1) * 16 ≤ _; omega) ?_; (case aR => have h_ := Kd.C_below HCUT.out (HB3.out.alloc (by have := HS3.out; omega) (.cells #[] 9)); rw [HM.out] at h_; exact h_); intro v1 w5 ho hb5 hg_ hf_; obtain ⟨A2, c2, rfl⟩ := Kd.R_slice ho; rw [List.nil_append, HM.out] at ho; rw [List.nil_append, HM.out]; have HO5 := Aside0.mk ho; have HB5 := Aside0.mk hb5; clear ho hb5 hg_ hf_))
    have hC5 := (HB5.out.block gc (by have := HS3.out; have := HGC.out; omega)).trans HBC.out
    have hR5 := (HB5.out.block w.heap.size (by have := HS3.out; omega)).trans HBR.out
    obtain ⟨⟨u0, v0⟩, ⟨u1, v1⟩, ⟨u2, v2⟩, ⟨u3, v3⟩, ⟨u4, v4⟩⟩ := box5 hC5
    have HC5 := Aside0.mk hC5
    have HR5 := Aside0.mk hR5
    have hgne : (gc = w.heap.size) = False := eq_false (by have := HGC.out; omega)
    have hgne' : (w.heap.size = gc) = False := eq_false (by have := HGC.out; omega)
    clear hC5 hR5
    obtain ⟨ad2, rfl, hd2⟩ := c_first (Kd.R_reads' HO5.out).2.2
    have q01 : (0 : Int) < (1 : Int) := by decide
    have hge2 : W3.heap.size ≤ ad2.block := Kd.R_base HO5.out _ rfl
    have hne2 : (ad2.block = gc) = False := eq_false (by have := HS3.out; have := HGC.out; omega)
    have hne3 : (gc = ad2.block) = False := eq_false (by have := HS3.out; have := HGC.out; omega)
    have hfar : ∀ (W : World) (j : Nat) (v : Value), (W.setCell ⟨gc, j, none⟩ v).cell? ad2 = W.cell? ad2 := fun W j v => World.cell?_of_block (w := W) (w' := W.setCell ⟨gc, j, none⟩ v) (set_keptR (by have := HS3.out; have := HGC.out; omega))
    clear hge2
    go_upto_region 32 with (first
      | (go_at_call 38; with_reducible refine (many_lit HCNT _).mono ?_; rintro e w6 ⟨rfl, ⟨nd2, rfl⟩⟩))
    obtain ⟨W6, hW6⟩ : ∃ W6, W6 = ((w5.drewN nd2).setCell ⟨gc, 1, none⟩ (.string d)) := ⟨_, rfl⟩
    rw [← hW6]
    have hb6 : W6.heap[gc]? = some (.cells #[.int .i64 4, .string d, .slice none 0 0, .slice none 0 0, .int .i64 0] 24 (0, 0)) := by
      rw [hW6]
      exact box_set (HC5.out)
    have hk6 : ∀ k, k ≠ gc → W6.heap[k]? = w5.heap[k]? := by
      intro k hk
      rw [hW6]
      exact (set_keptR hk).trans (rfl)
    have hR6 := (hk6 w.heap.size (by have := HGC.out; omega)).trans HR5.out
    have hgl : w.heap.size ≤ gc := by have := HGC.out; omega
    have h5 : Below w.heap.size w w5 := HB3.out.trans (HB5.out.mono HB3.out.size)
    have hB6 : Below w.heap.size w W6 := by
      rw [hW6]
      exact ((pw_below_drewN h5 nd2).setCell hgl _)
    have hk5 : ∀ k, W3.heap.size ≤ k → k < w5.heap.size → W6.heap[k]? = w5.heap[k]? := fun k hk _ => hk6 k (by have := HS3.out; have := HGC.out; omega)
    have HV2 := Aside0.mk (show Kd.V Kd.string 9 W6 0 (fun k_ => W3.heap.size ≤ k_) (.slice none 0 0) _ from Kd.V_nil _ _ _ _ _)
    have HV3 := Aside0.mk (show Kd.V Kd.string 9 W6 0 (fun k_ => W3.heap.size ≤ k_) (.slice none 0 0) _ from Kd.V_nil _ _ _ _ _)
    obtain ⟨⟨u0, v0⟩, ⟨u1, v1⟩, ⟨u2, v2⟩, ⟨u3, v3⟩, ⟨u4, v4⟩⟩ := box5 hb6
    have HC6 := Aside0.mk hb6
    have HR6 := Aside0.mk hR6
    have HW6 := Aside0.mk hW6
    have HB6 := Aside0.mk hB6
    clear hb6 hk6 hR6 hW6 hB6 h5 hk5 hgl
    go_wp2_with (first
      | (go_at_call 40; refine (rfiles_at HF HV2.out HV3.out).mono ?_; rintro e w7 ⟨rfl, hb7⟩; have hR7 := (hb7.block w.heap.size (Array.getElem?_eq_some_iff.1 HR6.out).1).trans HR6.out; have hC7 := (hb7.block gc (Array.getElem?_eq_some_iff.1 HC6.out).1).trans HC6.out; clear u0 u1 u2 u3 u4 v0 v1 v2 v3 v4; obtain ⟨⟨u0, v0⟩, ⟨u1, v1⟩, ⟨u2, v2⟩, ⟨u3, v3⟩, ⟨u4, v4⟩⟩ := box5 hC7; obtain ⟨⟨x0, y0⟩, ⟨x1, y1⟩, ⟨x2, y2⟩, ⟨x3, y3⟩, ⟨x4, y4⟩⟩ := box5 hR7; have HB7 := Aside0.mk hb7; have HR7 := Aside0.mk hR7; clear hb7 hR7 hC7))
    have hB7 : Below w.heap.size w w7 := HB6.out.trans (HB7.out.mono HB6.out.size)
    refine bodyPost_ret (results_ct rfl _ _ w.heap.size 24 _ (0, 0) _ rfl (box_set (box_set (box_set (box_set (box_set HR7.out))))) Tryz.underlying24 rfl (by rfl)) rfl ?_
    have hkf : ∀ (k : Nat), W3.heap.size ≤ k → k < W6.heap.size → k ≠ w.heap.size ∧ w7.heap[k]? = W6.heap[k]? := fun k hk hlt => ⟨by have := HS3.out; omega, HB7.out.block k hlt⟩
    have hb3_ : w.heap.size ≤ W3.heap.size := by have := HS3.out; omega
    first | exact ⟨⟨_, _, rfl, vv_keep HV2.out (fun k hk hlt => (set5 (hkf k hk hlt).1).trans (hkf k hk hlt).2) hb3_, vv_keep HV3.out (fun k hk hlt => (set5 (hkf k hk hlt).1).trans (hkf k hk hlt).2) hb3_⟩, below5 hB7 (Nat.le_refl _)⟩ | exact ⟨⟨_, _, rfl, Kd.V_nil _ _ _ _ _, Kd.V_nil _ _ _ _ _⟩, below5 hB7 (Nat.le_refl _)⟩
set_option maxHeartbeats 1000000 in
set_option maxRecDepth 100000 in
theorem ref_remove (d : ByteArray) (b : Bool) (A0 : Option Addr) (c0 : Nat) (x : ByteArray) (w : World) (hr : Kd.C Kd.string w A0 (x :: [d]).length (x :: [d])) (hc : (x :: [d]).length ≤ c0) (hl : (x :: [d]).length ≤ 514)
    (HO : OpOk x 5) (HCNT : ManyOk 5 ([d].length : Int) true) (HF : RFilesOk 5 d [] [] 0 b) :
    Calls Tryz.prog 10 #[.slice A0 (x :: [d]).length c0] w fun ev w' => parseP w w' ev (cond b 5 0) (cond b d ByteArray.empty) [] [] 0 (cond b 0 3) := by
  cases b <;> dsimp only [cond]
  all_goals
    obtain ⟨ad, A1, rfl, hcell, hcut, hrun⟩ := words_cut hr hc
    have HCUT := Aside0.mk hcut
    rw [List.length_cons] at hl hc ⊢
    have HC := Aside0.mk hc
    clear hcut hc hr
    obtain ⟨n, hn⟩ : ∃ n, ([d]).length + 1 = n := ⟨_, rfl⟩
    rw [hn] at hl hrun ⊢
    have b1 : decide ((n : Int) > 514) = false := decide_eq_false (by omega)
    have b2 : ((n : Int) == 0) = false := beq_eq_false_iff_ne.2 (by omega)
    have p0 : (0 : Int) < (n : Int) := by omega
    have pn : 0 < n := by omega
    have pz : n ≠ 0 := by omega
    have pz2 : ¬ n ≤ 0 := by omega
    have hm : ([d]).length = 1 := rfl
    replace HCNT : ManyOk 5 1 true := HCNT
    rw [hm] at hrun hn
    have hm514 : 1 ≤ 514 := by omega
    have HN := Aside0.mk hn
    have HM := Aside0.mk hm
    have HL514 := Aside0.mk hm514
    clear hn hm hm514
    have hlt := World.block_lt_of_cell? _ _ hcell
    have hnew := World.new_ne w ad hcell
    go_enter Tryz.func10, Tryz.ntmps10
    go_upto_region 6 with (first
      | (go_at_call 37; with_reducible refine (op_at HO _).mono ?_; rintro e w1 ⟨rfl, ⟨nd, rfl⟩⟩))
    obtain ⟨gc, hgc⟩ : ∃ gc, gc = w.heap.size + 1 := ⟨_, rfl⟩
    rw [← hgc]
    obtain ⟨W3, hW3⟩ : ∃ W3, W3 = ((w.alloc (Obj.cells #[.int .i64 0, .string ⟨#[]⟩, .slice none 0 0, .slice none 0 0, .int .i64 0] 24)).drewN nd).alloc (Obj.cells #[.int .i64 5, .string ⟨#[]⟩, .slice none 0 0, .slice none 0 0, .int .i64 0] 24) := ⟨_, rfl⟩
    rw [← hW3]
    have hs1 : (w.alloc (Obj.cells #[.int .i64 0, .string ⟨#[]⟩, .slice none 0 0, .slice none 0 0, .int .i64 0] 24)).heap.size = w.heap.size + 1 := by show (w.heap.push _).size = _; rw [Array.size_push]
    have hs3 : W3.heap.size = w.heap.size + 2 := by rw [hW3]; show ((w.alloc (Obj.cells #[.int .i64 0, .string ⟨#[]⟩, .slice none 0 0, .slice none 0 0, .int .i64 0] 24)).heap.push _).size = _; rw [Array.size_push, hs1]
    have hbR : W3.heap[w.heap.size]? = some (.cells #[.int .i64 0, .string ⟨#[]⟩, .slice none 0 0, .slice none 0 0, .int .i64 0] 24 (0, 0)) := by
      rw [hW3]
      show ((w.alloc (Obj.cells #[.int .i64 0, .string ⟨#[]⟩, .slice none 0 0, .slice none 0 0, .int .i64 0] 24)).heap.push _)[w.heap.size]? = _
      rw [Array.getElem?_push_lt (by rw [hs1]; omega), ← Array.getElem?_eq_getElem]
      exact alloc_top w _
    have hbC : W3.heap[gc]? = some (.cells #[.int .i64 5, .string ⟨#[]⟩, .slice none 0 0, .slice none 0 0, .int .i64 0] 24 (0, 0)) := by
      rw [hW3, hgc, ← hs1]
      exact alloc_top ((w.alloc (Obj.cells #[.int .i64 0, .string ⟨#[]⟩, .slice none 0 0, .slice none 0 0, .int .i64 0] 24)).drewN nd) _
    have hB3 : Below w.heap.size w W3 := by
      rw [hW3]
      exact (pw_below_drewN ((Below.refl w.heap.size w).alloc (Nat.le_refl _) _) nd).alloc (by show w.heap.size ≤ (w.heap.push _).size; rw [Array.size_push]; omega) _
    have HW3 := Aside0.mk hW3
    have HS3 := Aside0.mk hs3
    have HGC := Aside0.mk hgc
    have HBR := Aside0.mk hbR
    have HBC := Aside0.mk hbC
    have HB3 := Aside0.mk hB3
    clear hW3 hs3 hgc hbR hbC hB3 hs1
    go_upto_region 7 with (first
      | (at_builtin; refine Kd.R_append_rows Kd.string (w0 := W3) W3.heap.size rfl (.tmp 19) (.tmp 21) 22 9 (.string ⟨#[]⟩) 16 rfl Tryz.underlying22 infoS_ rfl (by decide) (by omega) (.slice (some ⟨W3.heap.size, 0, none⟩) 0 0) [] ([d]) _ _ _ (fun _ => True) (fun _ => False) rfl rfl (r_empty (Nat.le_refl _)) ?aR (fun _ _ h => h) (fun _ h => h.elim) (fun _ _ => trivial) ((Below.refl _ _).alloc (Nat.le_refl _) _) (by show W3.heap.size ≤ (W3.heap.push _).size; rw [Array.size_push]; omega) (by have := HL514.out; show (0 + 1) * 16 ≤ _; omega) ?_; (case aR => have h_ := Kd.C_below HCUT.out (HB3.out.alloc (by have := HS3.out; omega) (.cells #[] 9)); rw [HM.out] at h_; exact h_); intro v1 w5 ho hb5 hg_ hf_; obtain ⟨A2, c2, rfl⟩ := Kd.R_slice ho; rw [List.nil_append, HM.out] at ho; rw [List.nil_append, HM.out]; have HO5 := Aside0.mk ho; have HB5 := Aside0.mk hb5; clear ho hb5 hg_ hf_))
    have hC5 := (HB5.out.block gc (by have := HS3.out; have := HGC.out; omega)).trans HBC.out
    have hR5 := (HB5.out.block w.heap.size (by have := HS3.out; omega)).trans HBR.out
    obtain ⟨⟨u0, v0⟩, ⟨u1, v1⟩, ⟨u2, v2⟩, ⟨u3, v3⟩, ⟨u4, v4⟩⟩ := box5 hC5
    have HC5 := Aside0.mk hC5
    have HR5 := Aside0.mk hR5
    have hgne : (gc = w.heap.size) = False := eq_false (by have := HGC.out; omega)
    have hgne' : (w.heap.size = gc) = False := eq_false (by have := HGC.out; omega)
    clear hC5 hR5
    obtain ⟨ad2, rfl, hd2⟩ := c_first (Kd.R_reads' HO5.out).2.2
    have q01 : (0 : Int) < (1 : Int) := by decide
    have hge2 : W3.heap.size ≤ ad2.block := Kd.R_base HO5.out _ rfl
    have hne2 : (ad2.block = gc) = False := eq_false (by have := HS3.out; have := HGC.out; omega)
    have hne3 : (gc = ad2.block) = False := eq_false (by have := HS3.out; have := HGC.out; omega)
    have hfar : ∀ (W : World) (j : Nat) (v : Value), (W.setCell ⟨gc, j, none⟩ v).cell? ad2 = W.cell? ad2 := fun W j v => World.cell?_of_block (w := W) (w' := W.setCell ⟨gc, j, none⟩ v) (set_keptR (by have := HS3.out; have := HGC.out; omega))
    clear hge2
    go_upto_region 32 with (first
      | (go_at_call 38; with_reducible refine (many_lit HCNT _).mono ?_; rintro e w6 ⟨rfl, ⟨nd2, rfl⟩⟩))
    obtain ⟨W6, hW6⟩ : ∃ W6, W6 = ((w5.drewN nd2).setCell ⟨gc, 1, none⟩ (.string d)) := ⟨_, rfl⟩
    rw [← hW6]
    have hb6 : W6.heap[gc]? = some (.cells #[.int .i64 5, .string d, .slice none 0 0, .slice none 0 0, .int .i64 0] 24 (0, 0)) := by
      rw [hW6]
      exact box_set (HC5.out)
    have hk6 : ∀ k, k ≠ gc → W6.heap[k]? = w5.heap[k]? := by
      intro k hk
      rw [hW6]
      exact (set_keptR hk).trans (rfl)
    have hR6 := (hk6 w.heap.size (by have := HGC.out; omega)).trans HR5.out
    have hgl : w.heap.size ≤ gc := by have := HGC.out; omega
    have h5 : Below w.heap.size w w5 := HB3.out.trans (HB5.out.mono HB3.out.size)
    have hB6 : Below w.heap.size w W6 := by
      rw [hW6]
      exact ((pw_below_drewN h5 nd2).setCell hgl _)
    have hk5 : ∀ k, W3.heap.size ≤ k → k < w5.heap.size → W6.heap[k]? = w5.heap[k]? := fun k hk _ => hk6 k (by have := HS3.out; have := HGC.out; omega)
    have HV2 := Aside0.mk (show Kd.V Kd.string 9 W6 0 (fun k_ => W3.heap.size ≤ k_) (.slice none 0 0) _ from Kd.V_nil _ _ _ _ _)
    have HV3 := Aside0.mk (show Kd.V Kd.string 9 W6 0 (fun k_ => W3.heap.size ≤ k_) (.slice none 0 0) _ from Kd.V_nil _ _ _ _ _)
    obtain ⟨⟨u0, v0⟩, ⟨u1, v1⟩, ⟨u2, v2⟩, ⟨u3, v3⟩, ⟨u4, v4⟩⟩ := box5 hb6
    have HC6 := Aside0.mk hb6
    have HR6 := Aside0.mk hR6
    have HW6 := Aside0.mk hW6
    have HB6 := Aside0.mk hB6
    clear hb6 hk6 hR6 hW6 hB6 h5 hk5 hgl
    go_wp2_with (first
      | (go_at_call 40; refine (rfiles_at HF HV2.out HV3.out).mono ?_; rintro e w7 ⟨rfl, hb7⟩; have hR7 := (hb7.block w.heap.size (Array.getElem?_eq_some_iff.1 HR6.out).1).trans HR6.out; have hC7 := (hb7.block gc (Array.getElem?_eq_some_iff.1 HC6.out).1).trans HC6.out; clear u0 u1 u2 u3 u4 v0 v1 v2 v3 v4; obtain ⟨⟨u0, v0⟩, ⟨u1, v1⟩, ⟨u2, v2⟩, ⟨u3, v3⟩, ⟨u4, v4⟩⟩ := box5 hC7; obtain ⟨⟨x0, y0⟩, ⟨x1, y1⟩, ⟨x2, y2⟩, ⟨x3, y3⟩, ⟨x4, y4⟩⟩ := box5 hR7; have HB7 := Aside0.mk hb7; have HR7 := Aside0.mk hR7; clear hb7 hR7 hC7))
    have hB7 : Below w.heap.size w w7 := HB6.out.trans (HB7.out.mono HB6.out.size)
    refine bodyPost_ret (results_ct rfl _ _ w.heap.size 24 _ (0, 0) _ rfl (box_set (box_set (box_set (box_set (box_set HR7.out))))) Tryz.underlying24 rfl (by rfl)) rfl ?_
    have hkf : ∀ (k : Nat), W3.heap.size ≤ k → k < W6.heap.size → k ≠ w.heap.size ∧ w7.heap[k]? = W6.heap[k]? := fun k hk hlt => ⟨by have := HS3.out; omega, HB7.out.block k hlt⟩
    have hb3_ : w.heap.size ≤ W3.heap.size := by have := HS3.out; omega
    first | exact ⟨⟨_, _, rfl, vv_keep HV2.out (fun k hk hlt => (set5 (hkf k hk hlt).1).trans (hkf k hk hlt).2) hb3_, vv_keep HV3.out (fun k hk hlt => (set5 (hkf k hk hlt).1).trans (hkf k hk hlt).2) hb3_⟩, below5 hB7 (Nat.le_refl _)⟩ | exact ⟨⟨_, _, rfl, Kd.V_nil _ _ _ _ _, Kd.V_nil _ _ _ _ _⟩, below5 hB7 (Nat.le_refl _)⟩
end Go.Proofs.YtpiafpkpdbknfaaGreatDoor.Sup
