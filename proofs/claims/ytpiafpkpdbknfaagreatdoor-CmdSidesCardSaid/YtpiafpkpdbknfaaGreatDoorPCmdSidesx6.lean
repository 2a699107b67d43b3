/- Written by a program of this session: for Go functions that the law reaches, what each answers (F.f) and that it answers so (F.calls). Conditions: none beyond those in each statement. -/
import Derived.Test.YtpiafpkpdbknfaaGreatDoorPCmdSidesx0
import Derived.Test.YtpiafpkpdbknfaaGreatDoorPCmdSidesx3
import Derived.Test.YtpiafpkpdbknfaaGreatDoorPCmdSidesx5
namespace Go.Proofs.YtpiafpkpdbknfaaGreatDoor.PCmdSides
open Go.RowKit Go.Proofs.YtpiafpkpdbknfaaGreatDoorW.PrintWords Go.Proofs.YtpiafpkpdbknfaaGreatDoorW.PrintLast Go.Proofs.YtpiafpkpdbknfaaGreatDoorW.PrintMore
attribute [local go_sem] max2_int min2_int max_two min_two max_three min_three max_four min_four   -- for this text's walks alone
set_option linter.unusedVariables false
set_option linter.unusedSimpArgs false

/-! ### cmd_saying_writes: function 203 -/
def cmd_saying_writes.f (l0_0 : List ByteArray) : Option (ByteArray × Bool) := some ((⟨#[]⟩ : ByteArray), false)
set_option maxHeartbeats 8000000 in
set_option maxRecDepth 100000 in
theorem cmd_saying_writes.calls (A0_0 : Option Addr) (c0_0 : Nat) (l0_0 : List ByteArray) (r1 : ByteArray) (r2 : Bool) (w : World) (hr0_0 : Kd.C Kd.string w A0_0 l0_0.length l0_0) (hc0_0 : l0_0.length ≤ c0_0) (h : cmd_saying_writes.f l0_0 = some (r1, r2)) :
    Calls Tryz.prog 203 #[.agg #[.slice A0_0 l0_0.length c0_0]] w fun e w' => e = .returned (.tuple #[.string r1, .bool r2]) ∧ Below w.heap.size w w' := by
  have hu96 := Tryz.underlying96
  have HR0_0 := Aside0.mk hr0_0
  have HC0_0 := Aside0.mk hc0_0
  clear hr0_0 hc0_0
  have HB := Aside0.mk (Below.refl w.heap.size w)
  have H : (some ((⟨#[]⟩ : ByteArray), false)) = some (r1, r2) := h
  clear h
  simp only [Option.some.injEq, Prod.mk.injEq] at H
  obtain ⟨rfl, rfl⟩ := H
  go_enter Tryz.func203, Tryz.ntmps203
  go_wp2_with (first | ((with_reducible refine gate_dst (N := 1) rfl ?_); refine box_event ?hg (N := 1) ?hd (cs := #[.slice A0_0 l0_0.length c0_0]) (t := 96) ?hr ?_; (case hd => rfl); (case hg => rfl); (case hr => first | (go_simp; done) | (go_simp; rfl)); intro gb228 hg w2 hbox hb; have n0_ := Aside0.mk (below_step (by repeat (first | (with_reducible first | exact HB.out | apply below_alloc | apply pw_below_drewN | apply below_drew1) | exact HB.out)) hb); have n1_ := Aside0.mk (hbox); have n2_ := Aside0.mk ((by rw [hg]; exact (below_size (by repeat (first | (with_reducible first | exact HB.out | apply below_alloc | apply pw_below_drewN | apply below_drew1) | exact HB.out))) : w.heap.size ≤ gb228)); have n3_ := Aside0.mk ((by rw [hg]; exact (below_size (by repeat (first | (with_reducible first | exact HB.out | apply below_alloc | apply pw_below_drewN | apply below_drew1) | exact HB.out))) : w.heap.size ≤ gb228)); clear HB; have HB := n0_; have BK228 := n1_; have GW228 := n2_; have GE228 := n3_; clear n0_ n1_ n2_ n3_; clear hb hbox hg))
  go_ret2
  exact ⟨by first | rfl | (simp [errW_none, errW_some] <;> rfl) | (simp [*, errW_none, errW_some] <;> rfl), by repeat (first | (with_reducible first | exact HB.out | apply below_alloc | apply pw_below_drewN | apply below_drew1 | refine below_set ?_ GE228.out) | exact HB.out)⟩

/-! ### cmd_Writes: function 17 -/
open Go.Proofs.YtpiafpkpdbknfaaGreatDoor.Sup
def cmd_Writes.of (k : Nat) (j : Nat) (dst : ByteArray) (src words : List ByteArray) (st : Int) : Option (ByteArray × Bool) :=
  match j with
  | 1 => cmd_copying_writes.f (src.headD ByteArray.empty) dst
  | 2 => cmd_joining_writes.f dst src
  | 3 => cmd_echoing_writes.f dst words
  | 4 => cmd_touching_writes.f dst
  | 5 => cmd_removing_writes.f dst
  | 6 => cmd_testing_writes.f (src.headD ByteArray.empty)
  | 7 => cmd_failing_writes.f st
  | 8 => cmd_saying_writes.f words
  | _ => none
def cmd_Writes.f (k : Nat) (op : Int) (dst : ByteArray) (src words : List ByteArray) (st : Int) : Option (ByteArray × Bool × Int) :=
  (cmd_Check.f k op dst src words st).bind fun e => if e = 0 then (cmd_Writes.of k (cmd_Check.shape op dst src words st) dst src words st).bind fun r => some (r.1, r.2, 0) else some (ByteArray.empty, false, e)
theorem cmd_Writes.mono : ∀ a0 a1 a2 a3 a4 k, LeO (cmd_Writes.f k a0 a1 a2 a3 a4) (cmd_Writes.f (k + 1) a0 a1 a2 a3 a4) := by
  intro a0 a1 a2 a3 a4 k r h
  unfold cmd_Writes.f at h ⊢
  replace h := Option.bind_eq_some_iff.1 h
  obtain ⟨e, he, h⟩ := h
  rw [cmd_Check.mono a0 a1 a2 a3 a4 k e he]
  simp only [Option.bind_some]
  split at h
  · rw [if_pos (by assumption)]
    replace h := Option.bind_eq_some_iff.1 h
    obtain ⟨q, hq, h⟩ := h
    have hq2 : cmd_Writes.of (k + 1) (cmd_Check.shape a0 a1 a2 a3 a4) a1 a2 a3 a4 = some q := by
      unfold cmd_Writes.of at hq ⊢
      split at hq <;> first | exact hq
    rw [hq2]
    exact h
  · rw [if_neg (by assumption)]
    exact h
def cmd_Writes.mfn (j : Nat) : Nat := match j with | 1 => 163 | 2 => 168 | 3 => 176 | 4 => 183 | 5 => 188 | 6 => 193 | 7 => 198 | _ => 203
theorem cmd_Writes.meth_ {k : Nat} {dst : ByteArray} {src words : List ByteArray} {st : Int} {r : ByteArray × Bool} (base : Nat) (w : World) (j : Nat) (h : cmd_Writes.of k j dst src words st = some r) :
    Meth2 (cmd_Writes.mfn j) (cmd_Check.obj j base dst src words st) w (.string r.1) (.bool r.2) := by
  match j, h with
  | 1, h =>
    intro W o hq hb
    obtain rfl : o = _ := hq
    exact cmd_copying_writes.calls _ _ r.1 r.2 W h
  | 2, h =>
    intro W o hq hb
    obtain ⟨A, c, rfl, hv⟩ := hq
    obtain ⟨hC, hl⟩ := cmd_Check.vc_ hv
    exact cmd_joining_writes.calls _ A c _ r.1 r.2 W hC hl h
  | 3, h =>
    intro W o hq hb
    obtain ⟨A, c, rfl, hv⟩ := hq
    obtain ⟨hC, hl⟩ := cmd_Check.vc_ hv
    exact cmd_echoing_writes.calls _ A c _ r.1 r.2 W hC hl h
  | 4, h =>
    intro W o hq hb
    obtain rfl : o = _ := hq
    exact cmd_touching_writes.calls _ r.1 r.2 W h
  | 5, h =>
    intro W o hq hb
    obtain rfl : o = _ := hq
    exact cmd_removing_writes.calls _ r.1 r.2 W h
  | 6, h =>
    intro W o hq hb
    obtain rfl : o = _ := hq
    exact cmd_testing_writes.calls _ r.1 r.2 W h
  | 7, h =>
    intro W o hq hb
    obtain rfl : o = _ := hq
    exact cmd_failing_writes.calls _ r.1 r.2 W h
  | 8, h =>
    intro W o hq hb
    obtain ⟨A, c, rfl, hv⟩ := hq
    obtain ⟨hC, hl⟩ := cmd_Check.vc_ hv
    exact cmd_saying_writes.calls A c _ r.1 r.2 W hC hl h
  | 0, h => cases h
  | n + 9, h => cases h
theorem cmd_Writes.calls (k : Nat) (a0_0 : Int) (a0_1 : ByteArray) (A0_2 : Option Addr) (c0_2 : Nat) (l0_2 : List ByteArray) (A0_3 : Option Addr) (c0_3 : Nat) (l0_3 : List ByteArray) (a0_4 : Int) (r1 : ByteArray) (r2 : Bool) (r3 : Int) (w : World) (hr0_2 : Kd.C Kd.string w A0_2 l0_2.length l0_2) (hc0_2 : l0_2.length ≤ c0_2) (hr0_3 : Kd.C Kd.string w A0_3 l0_3.length l0_3) (hc0_3 : l0_3.length ≤ c0_3) (h : cmd_Writes.f k a0_0 a0_1 l0_2 l0_3 a0_4 = some (r1, r2, r3)) :
    Calls Tryz.prog 17 #[.agg #[.int .i64 a0_0, .string a0_1, .slice A0_2 l0_2.length c0_2, .slice A0_3 l0_3.length c0_3, .int .i64 a0_4]] w fun e w' => e = .returned (.tuple #[.string r1, .bool r2, .int .i64 r3]) ∧ Below w.heap.size w w' := by
  unfold cmd_Writes.f at h
  replace h := Option.bind_eq_some_iff.1 h
  obtain ⟨e, he, h⟩ := h
  have ht := cmd_Check.told_ k a0_0 a0_1 A0_2 c0_2 l0_2 A0_3 c0_3 l0_3 a0_4 e w hr0_2 hc0_2 hr0_3 hc0_3 he
  split at h
  · rename_i e0
    obtain ⟨hj, hG⟩ := ht.1 e0
    have hle := cmd_Check.shape_le a0_0 a0_1 l0_2 l0_3 a0_4
    replace h := Option.bind_eq_some_iff.1 h
    obtain ⟨q, hq, h⟩ := h
    cases h
    have hM := cmd_Writes.meth_ w.heap.size w _ hq
    generalize cmd_Check.shape a0_0 a0_1 l0_2 l0_3 a0_4 = j at hG hM hj hle
    have hS := cmd_Check.stays j w.heap.size a0_1 l0_2 l0_3 a0_4
    match j, hj, hle with
    | 1, _, _ => exact writes_1 hS a0_0 a0_1 _ _ a0_4 w hG hM
    | 2, _, _ => exact writes_2 hS a0_0 a0_1 _ _ a0_4 w hG hM
    | 3, _, _ => exact writes_3 hS a0_0 a0_1 _ _ a0_4 w hG hM
    | 4, _, _ => exact writes_4 hS a0_0 a0_1 _ _ a0_4 w hG hM
    | 5, _, _ => exact writes_5 hS a0_0 a0_1 _ _ a0_4 w hG hM
    | 6, _, _ => exact writes_6 hS a0_0 a0_1 _ _ a0_4 w hG hM
    | 7, _, _ => exact writes_7 hS a0_0 a0_1 _ _ a0_4 w hG hM
    | 8, _, _ => exact writes_8 hS a0_0 a0_1 _ _ a0_4 w hG hM
    | n + 9, _, h => omega
  · rename_i e0
    cases h
    exact (writes_none a0_0 a0_1 _ _ a0_4 w (bne_iff_ne.2 e0) (beq_eq_false_iff_ne.2 e0) (ht.2 e0)).mono fun e w' ⟨he, hB⟩ => ⟨he, hB⟩

/-! ### smithylaw16_CmdSides: function 5 -/
open Go.Proofs.YtpiafpkpdbknfaaGreatDoor.Sup
def smithylaw16_CmdSides.f (k : Nat) (op : Int) (dst : ByteArray) (src words : List ByteArray) (st : Int) : Option Bool :=
  (cmd_Check.f k op dst src words st).bind fun e => if e = 0 then
    (cmd_Reads.f k op dst src words st).bind fun r => (cmd_Writes.f k op dst src words st).bind fun q =>
      if r.2 = 0 ∧ q.2.2 = 0 ∧ (1 ≤ op ∧ op ≤ 8) ∧ decide ((r.1.length : Int) > 0) = readsB op ∧ q.2.1 = writesB op then some true else none
  else some true
theorem smithylaw16_CmdSides.calls (k : Nat) (op : Int) (dst : ByteArray) (A2 : Option Addr) (c2 : Nat) (src : List ByteArray) (A3 : Option Addr) (c3 : Nat) (words : List ByteArray) (st : Int) (r : Bool) (w : World)
    (hr2 : Kd.C Kd.string w A2 src.length src) (hc2 : src.length ≤ c2) (hr3 : Kd.C Kd.string w A3 words.length words) (hc3 : words.length ≤ c3) (hT : Go.Proofs.YtpiafpkpdbknfaaGreatDoor.Sup.Tab w) (h : smithylaw16_CmdSides.f k op dst src words st = some r) :
    Calls Tryz.prog 5 #[.agg #[.int .i64 op, .string dst, .slice A2 src.length c2, .slice A3 words.length c3, .int .i64 st]] w fun e w' => e = .returned (.bool r) ∧ Below w.heap.size w w' := by
  unfold smithylaw16_CmdSides.f at h
  replace h := Option.bind_eq_some_iff.1 h
  obtain ⟨e, he, h⟩ := h
  have H1 : ∀ W : World, Below w.heap.size w W → Calls Tryz.prog 15 #[.agg #[.int .i64 op, .string dst, .slice A2 src.length c2, .slice A3 words.length c3, .int .i64 st]] W fun e' w' => e' = .returned (.int .i64 e) ∧ Below W.heap.size W w' :=
    fun W hB => cmd_Check.calls k op dst A2 c2 src A3 c3 words st e W (Kd.C_below hr2 hB) hc2 (Kd.C_below hr3 hB) hc3 he
  have H4 : ∀ W : World, Below w.heap.size w W → Calls Tryz.prog 12 #[] W fun e w' => e = .returned (.bool true) ∧ Below W.heap.size W w' := fun W hB => smithylaw16_speaks.calls true W (Tab.below hT hB) rfl
  split at h
  · rename_i e0
    subst e0
    replace h := Option.bind_eq_some_iff.1 h
    obtain ⟨⟨rl, r2⟩, hr, h⟩ := h
    replace h := Option.bind_eq_some_iff.1 h
    obtain ⟨⟨x, b, r3⟩, hq, h⟩ := h
    split at h
    · rename_i hc
      obtain ⟨e1, e2, hop, hm, hb⟩ := hc
      obtain rfl := Option.some.inj h
      dsimp only at e1 e2 hm hb
      subst e1 e2
      refine sides_walk op dst A2 src.length c2 A3 words.length c3 st w rl.length b hop hm hb H1 (fun W hB => ?_) (fun W hB => ?_) H4
      · refine (cmd_Reads.calls k op dst A2 c2 src A3 c3 words st rl 0 W (Kd.C_below hr2 hB) hc2 (Kd.C_below hr3 hB) hc3 hr).mono fun e' w' ⟨v, he', hv, hb'⟩ => ?_
        obtain ⟨A, c, rfl⟩ := Kd.V_slice hv
        exact ⟨⟨A, c, he'⟩, hb'⟩
      · exact (cmd_Writes.calls k op dst A2 c2 src A3 c3 words st x b 0 W (Kd.C_below hr2 hB) hc2 (Kd.C_below hr3 hB) hc3 hq).mono fun e' w' ⟨he', hb'⟩ => ⟨⟨x, he'⟩, hb'⟩
    · cases h
  · rename_i e0
    obtain rfl := Option.some.inj h
    exact sides_bad op dst A2 src.length c2 A3 words.length c3 st w (bne_iff_ne.2 e0) H1 H4

end Go.Proofs.YtpiafpkpdbknfaaGreatDoor.PCmdSides
