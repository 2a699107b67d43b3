/- Written by a program of this session: for Go functions that the law reaches, what each answers (F.f) and that it answers so (F.calls). Conditions: none beyond those in each statement. -/
import Derived.Test.YtpiafpkpdbknfaaGreatDoorPCmdBackx0
import Derived.Test.YtpiafpkpdbknfaaGreatDoorPCmdBackx2
import Derived.Test.YtpiafpkpdbknfaaGreatDoorPCmdBackx3
import Derived.Test.YtpiafpkpdbknfaaGreatDoorPCmdBackx4
namespace Go.Proofs.YtpiafpkpdbknfaaGreatDoor.PCmdBack
open Go.RowKit Go.Proofs.YtpiafpkpdbknfaaGreatDoorW.PrintWords Go.Proofs.YtpiafpkpdbknfaaGreatDoorW.PrintLast Go.Proofs.YtpiafpkpdbknfaaGreatDoorW.PrintMore
attribute [local go_sem] max2_int min2_int max_two min_two max_three min_three max_four min_four   -- for this text's walks alone
set_option linter.unusedVariables false
set_option linter.unusedSimpArgs false

/-! ### cmd_Check: function 15 -/
open Go.Proofs.YtpiafpkpdbknfaaGreatDoor.Sup
/-- The operation, if its fields alone are set; else 0. -/
def cmd_Check.shape (op : Int) (dst : ByteArray) (src words : List ByteArray) (st : Int) : Nat :=
  if op = 1 ∧ src.length = 1 ∧ words = [] ∧ st = 0 then 1
  else if op = 2 ∧ words = [] ∧ st = 0 ∧ src.length ≤ 8796093022200 then 2
  else if op = 3 ∧ src = [] ∧ st = 0 ∧ words.length ≤ 8796093022200 then 3
  else if op = 4 ∧ src = [] ∧ words = [] ∧ st = 0 then 4
  else if op = 5 ∧ src = [] ∧ words = [] ∧ st = 0 then 5
  else if op = 6 ∧ dst = ByteArray.empty ∧ src.length = 1 ∧ words = [] ∧ st = 0 then 6
  else if op = 7 ∧ dst = ByteArray.empty ∧ src = [] ∧ words = [] then 7
  else if op = 8 ∧ dst = ByteArray.empty ∧ src = [] ∧ st = 0 ∧ words.length ≤ 8796093022200 then 8 else 0
def cmd_Check.f (k : Nat) (op : Int) (dst : ByteArray) (src words : List ByteArray) (st : Int) : Option Int :=
  if src.length ≤ 8796093022200 ∧ words.length ≤ 8796093022200 then
    (match cmd_Check.shape op dst src words st with
    | 1 => cmd_copying_right.f k (src.headD ByteArray.empty) dst
    | 2 => cmd_joining_right.f k dst src
    | 3 => cmd_echoing_right.f k dst words
    | 4 => cmd_touching_right.f k dst
    | 5 => cmd_removing_right.f k dst
    | 6 => cmd_testing_right.f k (src.headD ByteArray.empty)
    | 7 => cmd_failing_right.f st
    | 8 => cmd_saying_right.f words
    | _ => some 160)
  else none
theorem cmd_Check.one_ {l : List ByteArray} (h : l.length = 1) : ∃ s, l = [s] := by
  match l, h with
  | [s], _ => exact ⟨s, rfl⟩
/-- Which command it is. -/
theorem cmd_Check.cases_ (op : Int) (dst : ByteArray) (src words : List ByteArray) (st : Int) {P : Int → ByteArray → List ByteArray → List ByteArray → Int → Nat → Prop}
    (h1 : ∀ s, P 1 dst [s] [] 0 1) (h2 : src.length ≤ 8796093022200 → P 2 dst src [] 0 2) (h3 : words.length ≤ 8796093022200 → P 3 dst [] words 0 3) (h4 : P 4 dst [] [] 0 4) (h5 : P 5 dst [] [] 0 5) (h6 : ∀ s, P 6 ByteArray.empty [s] [] 0 6) (h7 : P 7 ByteArray.empty [] [] st 7) (h8 : words.length ≤ 8796093022200 → P 8 ByteArray.empty [] words 0 8)
    (h0 : cmd_Check.shape op dst src words st = 0 → P op dst src words st 0) : P op dst src words st (cmd_Check.shape op dst src words st) := by
  by_cases c1 : op = 1 ∧ src.length = 1 ∧ words = [] ∧ st = 0
  · have e : cmd_Check.shape op dst src words st = 1 := by unfold cmd_Check.shape; rw [if_pos c1]
    rw [e]
    obtain ⟨rfl, hs, rfl, rfl⟩ := c1
    obtain ⟨s, rfl⟩ := cmd_Check.one_ hs
    exact h1 s
  by_cases c2 : op = 2 ∧ words = [] ∧ st = 0 ∧ src.length ≤ 8796093022200
  · have e : cmd_Check.shape op dst src words st = 2 := by unfold cmd_Check.shape; rw [if_neg c1, if_pos c2]
    rw [e]
    obtain ⟨rfl, rfl, rfl, hs⟩ := c2
    exact h2 hs
  by_cases c3 : op = 3 ∧ src = [] ∧ st = 0 ∧ words.length ≤ 8796093022200
  · have e : cmd_Check.shape op dst src words st = 3 := by unfold cmd_Check.shape; rw [if_neg c1, if_neg c2, if_pos c3]
    rw [e]
    obtain ⟨rfl, rfl, rfl, hs⟩ := c3
    exact h3 hs
  by_cases c4 : op = 4 ∧ src = [] ∧ words = [] ∧ st = 0
  · have e : cmd_Check.shape op dst src words st = 4 := by unfold cmd_Check.shape; rw [if_neg c1, if_neg c2, if_neg c3, if_pos c4]
    rw [e]
    obtain ⟨rfl, rfl, rfl, rfl⟩ := c4
    exact h4
  by_cases c5 : op = 5 ∧ src = [] ∧ words = [] ∧ st = 0
  · have e : cmd_Check.shape op dst src words st = 5 := by unfold cmd_Check.shape; rw [if_neg c1, if_neg c2, if_neg c3, if_neg c4, if_pos c5]
    rw [e]
    obtain ⟨rfl, rfl, rfl, rfl⟩ := c5
    exact h5
  by_cases c6 : op = 6 ∧ dst = ByteArray.empty ∧ src.length = 1 ∧ words = [] ∧ st = 0
  · have e : cmd_Check.shape op dst src words st = 6 := by unfold cmd_Check.shape; rw [if_neg c1, if_neg c2, if_neg c3, if_neg c4, if_neg c5, if_pos c6]
    rw [e]
    obtain ⟨rfl, rfl, hs, rfl, rfl⟩ := c6
    obtain ⟨s, rfl⟩ := cmd_Check.one_ hs
    exact h6 s
  by_cases c7 : op = 7 ∧ dst = ByteArray.empty ∧ src = [] ∧ words = []
  · have e : cmd_Check.shape op dst src words st = 7 := by unfold cmd_Check.shape; rw [if_neg c1, if_neg c2, if_neg c3, if_neg c4, if_neg c5, if_neg c6, if_pos c7]
    rw [e]
    obtain ⟨rfl, rfl, rfl, rfl⟩ := c7
    exact h7
  by_cases c8 : op = 8 ∧ dst = ByteArray.empty ∧ src = [] ∧ st = 0 ∧ words.length ≤ 8796093022200
  · have e : cmd_Check.shape op dst src words st = 8 := by unfold cmd_Check.shape; rw [if_neg c1, if_neg c2, if_neg c3, if_neg c4, if_neg c5, if_neg c6, if_neg c7, if_pos c8]
    rw [e]
    obtain ⟨rfl, rfl, rfl, rfl, hs⟩ := c8
    exact h8 hs
  · have e : cmd_Check.shape op dst src words st = 0 := by unfold cmd_Check.shape; rw [if_neg c1, if_neg c2, if_neg c3, if_neg c4, if_neg c5, if_neg c6, if_neg c7, if_neg c8]
    rw [e]
    exact h0 e
/-- The object that is made of a command. -/
def cmd_Check.obj (j : Nat) (base : Nat) (dst : ByteArray) (src words : List ByteArray) (st : Int) (W : World) (o : Value) : Prop :=
  match j with
  | 1 => o = .agg #[.string (src.headD ByteArray.empty), .string dst]
  | 2 => ∃ A c, o = .agg #[.string dst, .slice A src.length c] ∧ Kd.V Kd.string 9 W 0 (fun k_ => base ≤ k_) (.slice A src.length c) src
  | 3 => ∃ A c, o = .agg #[.string dst, .slice A words.length c] ∧ Kd.V Kd.string 9 W 0 (fun k_ => base ≤ k_) (.slice A words.length c) words
  | 4 => o = .agg #[.string dst]
  | 5 => o = .agg #[.string dst]
  | 6 => o = .agg #[.string (src.headD ByteArray.empty)]
  | 7 => o = .agg #[.int .i64 st]
  | 8 => ∃ A c, o = .agg #[.slice A words.length c] ∧ Kd.V Kd.string 9 W 0 (fun k_ => base ≤ k_) (.slice A words.length c) words
  | _ => False
theorem cmd_Check.v_below {W W' : World} {b : Nat} {ok : Nat → Prop} {v : Value} {l : List ByteArray} (h : Kd.V Kd.string 9 W b ok v l) (hb : Below W.heap.size W W') : Kd.V Kd.string 9 W' b ok v l := by
  obtain ⟨A, c, hv, hl, hF⟩ := h
  exact ⟨A, c, hv, hl, Foot.step hF (fun k _ hlt => hb.block k hlt)⟩
theorem cmd_Check.stays (j : Nat) (base : Nat) (dst : ByteArray) (src words : List ByteArray) (st : Int) : Stays (cmd_Check.obj j base dst src words st) := by
  intro W W' o h hb
  unfold cmd_Check.obj at h ⊢
  split at h <;> first | exact h | (obtain ⟨A, c, e, hv⟩ := h; exact ⟨A, c, e, cmd_Check.v_below hv hb⟩)
def cmd_Check.typ (j : Nat) : Nat := match j with | 1 => 83 | 2 => 85 | 3 => 87 | 4 => 89 | 5 => 90 | 6 => 92 | 7 => 94 | _ => 96
theorem cmd_Check.clone_ : CloneOk := cmd_Parse.clone_
theorem cmd_Check.v_base {W : World} {b0 b1 : Nat} {v : Value} {l : List ByteArray} (h : Kd.V Kd.string 9 W 0 (fun k_ => b0 ≤ k_) v l) (hb : b1 ≤ b0) : Kd.V Kd.string 9 W 0 (fun k_ => b1 ≤ k_) v l := by
  obtain ⟨A, c, hv, hl, hF⟩ := h
  exact ⟨A, c, hv, hl, Foot.mono hF (fun _ hk => Nat.le_trans hb hk)⟩
theorem cmd_Check.of_ (op : Int) (dst : ByteArray) (A2 : Option Addr) (c2 : Nat) (src : List ByteArray) (A3 : Option Addr) (c3 : Nat) (words : List ByteArray) (st : Int) (w : World)
    (hr2 : Kd.C Kd.string w A2 src.length src) (hc2 : src.length ≤ c2) (hr3 : Kd.C Kd.string w A3 words.length words) (hc3 : words.length ≤ c3) (hs2 : src.length ≤ 8796093022200) (hs3 : words.length ≤ 8796093022200) :
    (cmd_Check.shape op dst src words st ≠ 0 → Gives 43 (cmd_Check.typ (cmd_Check.shape op dst src words st)) (cval op dst (.slice A2 src.length c2) (.slice A3 words.length c3) st) w (cmd_Check.obj (cmd_Check.shape op dst src words st) w.heap.size dst src words st)) ∧
    (cmd_Check.shape op dst src words st = 0 → Fails 43 (cval op dst (.slice A2 src.length c2) (.slice A3 words.length c3) st) w 160) := by
  have HL := cmd_Check.clone_
  revert hr2 hr3 hs2 hs3 hc2 hc3
  refine cmd_Check.cases_ op dst src words st (P := fun op dst src words st j => Kd.C Kd.string w A2 src.length src → src.length ≤ c2 → Kd.C Kd.string w A3 words.length words → words.length ≤ c3 → src.length ≤ 8796093022200 → words.length ≤ 8796093022200 →
    (j ≠ 0 → Gives 43 (cmd_Check.typ j) (cval op dst (.slice A2 src.length c2) (.slice A3 words.length c3) st) w (cmd_Check.obj j w.heap.size dst src words st)) ∧ (j = 0 → Fails 43 (cval op dst (.slice A2 src.length c2) (.slice A3 words.length c3) st) w 160)) ?_ ?_ ?_ ?_ ?_ ?_ ?_ ?_ ?_
  · intro s hr2 hc2 hr3 hc3 hs2 hs3
    refine ⟨fun _ W hb => ?_, fun h => absurd h (by decide)⟩
    exact (of_1 dst s A2 c2 A3 c3 W (Kd.C_below hr2 hb)).mono fun e w' ⟨he, hB⟩ => ⟨⟨_, he, rfl⟩, hB⟩
  · intro hs hr2 hc2 hr3 hc3 hs2 hs3
    refine ⟨fun _ W hb => ?_, fun h => absurd h (by decide)⟩
    by_cases h1 : src.length = 1
    · obtain ⟨s, rfl⟩ := cmd_Check.one_ h1
      exact (of_2 dst s A2 c2 A3 c3 W (Kd.C_below hr2 hb) hc2 HL).mono fun e w' ⟨A, c, he, hv, hB⟩ => ⟨⟨_, he, A, c, rfl, cmd_Check.v_base hv hb.size⟩, hB⟩
    · exact (of_2m dst src A2 c2 A3 c3 W (Kd.C_below hr2 hb) hc2 hs2 h1 HL).mono fun e w' ⟨A, c, he, hv, hB⟩ => ⟨⟨_, he, A, c, rfl, cmd_Check.v_base hv hb.size⟩, hB⟩
  · intro hs hr2 hc2 hr3 hc3 hs2 hs3
    refine ⟨fun _ W hb => ?_, fun h => absurd h (by decide)⟩
    exact (of_3 dst words A2 c2 A3 c3 W (Kd.C_below hr3 hb) hc3 hs3 HL).mono fun e w' ⟨A, c, he, hv, hB⟩ => ⟨⟨_, he, A, c, rfl, cmd_Check.v_base hv hb.size⟩, hB⟩
  · intro hr2 hc2 hr3 hc3 hs2 hs3
    refine ⟨fun _ W hb => ?_, fun h => absurd h (by decide)⟩
    exact (of_4 dst A2 c2 A3 c3 W).mono fun e w' ⟨he, hB⟩ => ⟨⟨_, he, rfl⟩, hB⟩
  · intro hr2 hc2 hr3 hc3 hs2 hs3
    refine ⟨fun _ W hb => ?_, fun h => absurd h (by decide)⟩
    exact (of_5 dst A2 c2 A3 c3 W).mono fun e w' ⟨he, hB⟩ => ⟨⟨_, he, rfl⟩, hB⟩
  · intro s hr2 hc2 hr3 hc3 hs2 hs3
    refine ⟨fun _ W hb => ?_, fun h => absurd h (by decide)⟩
    exact (of_6 s A2 c2 A3 c3 W (Kd.C_below hr2 hb)).mono fun e w' ⟨he, hB⟩ => ⟨⟨_, he, rfl⟩, hB⟩
  · intro hr2 hc2 hr3 hc3 hs2 hs3
    refine ⟨fun _ W hb => ?_, fun h => absurd h (by decide)⟩
    exact (of_7 st A2 c2 A3 c3 W).mono fun e w' ⟨he, hB⟩ => ⟨⟨_, he, rfl⟩, hB⟩
  · intro hs hr2 hc2 hr3 hc3 hs2 hs3
    refine ⟨fun _ W hb => ?_, fun h => absurd h (by decide)⟩
    exact (of_8 words A2 c2 A3 c3 W (Kd.C_below hr3 hb) hc3 hs3 HL).mono fun e w' ⟨A, c, he, hv, hB⟩ => ⟨⟨_, he, A, c, rfl, cmd_Check.v_base hv hb.size⟩, hB⟩
  · intro h0 hr2 hc2 hr3 hc3 hs2 hs3
    refine ⟨fun h => absurd rfl h, fun _ W hb => ?_⟩
    have hr2' := Kd.C_below hr2 hb
    have hr3' := Kd.C_below hr3 hb
    have L2 : src = [] ∨ (∃ s, src = [s]) ∨ (src.length ≠ 1 ∧ src.length ≠ 0) := by
      rcases src with _ | ⟨s, _ | ⟨u, r⟩⟩
      · exact .inl rfl
      · exact .inr (.inl ⟨s, rfl⟩)
      · exact .inr (.inr ⟨by simp, by simp⟩)
    have L3 : words = [] ∨ 0 < words.length := by
      rcases words with _ | ⟨s, r⟩
      · exact .inl rfl
      · exact .inr (by simp)
    unfold cmd_Check.shape at h0
    by_cases o1 : op = 1
    · subst o1
      rcases L2 with rfl | ⟨s, rfl⟩ | ⟨h1, h1'⟩
      · exact of_1_n0 dst st words.length A2 c2 A3 c3 W
      · rcases L3 with rfl | h3
        · by_cases hst : st = 0
          · simp [hst] at h0
          · exact of_1_s dst st s A2 c2 A3 c3 W hr2' hst
        · exact of_1_w dst st s words.length A2 c2 A3 c3 W hr2' h3
      · exact of_1_nM dst st src.length words.length A2 c2 A3 c3 W h1 h1'
    by_cases o2 : op = 2
    · subst o2
      rcases L3 with rfl | h3
      · have hst : st ≠ 0 := fun e => by simp [e, hs2] at h0
        by_cases h1 : src.length = 1
        · obtain ⟨s, rfl⟩ := cmd_Check.one_ h1
          exact of_2_s1 dst st s A2 c2 A3 c3 W hr2' hc2 hst HL
        · exact of_2_sM dst st src A2 c2 A3 c3 W hr2' hc2 hs2 h1 hst HL
      · by_cases h1 : src.length = 1
        · obtain ⟨s, rfl⟩ := cmd_Check.one_ h1
          exact of_2_w1 dst st s words.length A2 c2 A3 c3 W hr2' hc2 h3 HL
        · exact of_2_wM dst st src words.length A2 c2 A3 c3 W hr2' hc2 hs2 h1 h3 HL
    by_cases o3 : op = 3
    · subst o3
      rcases L2 with rfl | ⟨s, rfl⟩ | ⟨h1, h1'⟩
      · have hst : st ≠ 0 := fun e => by simp [e, hs3] at h0
        exact of_3_s dst st words A2 c2 A3 c3 W hr3' hc3 hs3 hst HL
      · exact of_3_n1 dst st s words A2 c2 A3 c3 W hr2' hr3' hc3 hs3 HL
      · exact of_3_nM dst st src.length words A2 c2 A3 c3 W h1 h1' hr3' hc3 hs3 HL
    by_cases o4 : op = 4
    · subst o4
      rcases L2 with rfl | ⟨s, rfl⟩ | ⟨h1, h1'⟩
      · rcases L3 with rfl | h3
        · have hst : st ≠ 0 := fun e => by simp [e] at h0
          exact of_4_s dst st A2 c2 A3 c3 W hst
        · exact of_4_w dst st words.length A2 c2 A3 c3 W h3
      · exact of_4_n1 dst st s words.length A2 c2 A3 c3 W hr2'
      · exact of_4_nM dst st src.length words.length A2 c2 A3 c3 W h1 h1'
    by_cases o5 : op = 5
    · subst o5
      rcases L2 with rfl | ⟨s, rfl⟩ | ⟨h1, h1'⟩
      · rcases L3 with rfl | h3
        · have hst : st ≠ 0 := fun e => by simp [e] at h0
          exact of_5_s dst st A2 c2 A3 c3 W hst
        · exact of_5_w dst st words.length A2 c2 A3 c3 W h3
      · exact of_5_n1 dst st s words.length A2 c2 A3 c3 W hr2'
      · exact of_5_nM dst st src.length words.length A2 c2 A3 c3 W h1 h1'
    by_cases o6 : op = 6
    · subst o6
      rcases L2 with rfl | ⟨s, rfl⟩ | ⟨h1, h1'⟩
      · exact of_6_n0 dst st words.length A2 c2 A3 c3 W
      · by_cases hd : dst = ByteArray.empty
        · subst hd
          rcases L3 with rfl | h3
          · have hst : st ≠ 0 := fun e => by simp [e] at h0
            exact of_6_s st s A2 c2 A3 c3 W hr2' hst
          · exact of_6_w st s words.length A2 c2 A3 c3 W hr2' h3
        · exact of_6_d dst st s words.length A2 c2 A3 c3 W hr2' hd
      · exact of_6_nM dst st src.length words.length A2 c2 A3 c3 W h1 h1'
    by_cases o7 : op = 7
    · subst o7
      rcases L2 with rfl | ⟨s, rfl⟩ | ⟨h1, h1'⟩
      · by_cases hd : dst = ByteArray.empty
        · subst hd
          rcases L3 with rfl | h3
          · simp at h0
          · exact of_7_w st words.length A2 c2 A3 c3 W h3
        · exact of_7_d dst st words.length A2 c2 A3 c3 W hd
      · exact of_7_n1 dst st s words.length A2 c2 A3 c3 W hr2'
      · exact of_7_nM dst st src.length words.length A2 c2 A3 c3 W h1 h1'
    by_cases o8 : op = 8
    · subst o8
      rcases L2 with rfl | ⟨s, rfl⟩ | ⟨h1, h1'⟩
      · by_cases hd : dst = ByteArray.empty
        · subst hd
          have hst : st ≠ 0 := fun e => by simp [e, hs3] at h0
          exact of_8_s st words A2 c2 A3 c3 W hr3' hc3 hs3 hst HL
        · exact of_8_d dst st words A2 c2 A3 c3 W hr3' hc3 hs3 hd HL
      · exact of_8_n1 dst st s words A2 c2 A3 c3 W hr2' hr3' hc3 hs3 HL
      · exact of_8_nM dst st src.length words A2 c2 A3 c3 W h1 h1' hr3' hc3 hs3 HL
    have b : ∀ i : Int, op ≠ i → (op == i) = false := fun i h => beq_eq_false_iff_ne.2 h
    rcases L2 with rfl | ⟨s, rfl⟩ | ⟨h1, h1'⟩
    · exact of_0_n0 dst st words.length op A2 c2 A3 c3 W (b _ o1) (b _ o2) (b _ o3) (b _ o4) (b _ o5) (b _ o6) (b _ o7) (b _ o8)
    · exact of_0_n1 dst st s words.length op A2 c2 A3 c3 W hr2' (b _ o1) (b _ o2) (b _ o3) (b _ o4) (b _ o5) (b _ o6) (b _ o7) (b _ o8)
    · exact of_0_nM dst st src.length words.length op A2 c2 A3 c3 W h1 h1' (b _ o1) (b _ o2) (b _ o3) (b _ o4) (b _ o5) (b _ o6) (b _ o7) (b _ o8)
theorem cmd_Check.shape_le (op : Int) (dst : ByteArray) (src words : List ByteArray) (st : Int) : cmd_Check.shape op dst src words st ≤ 8 := by
  unfold cmd_Check.shape
  repeat' split
  all_goals omega
theorem cmd_Check.vc_ {W : World} {b n c : Nat} {ok : Nat → Prop} {A : Option Addr} {l : List ByteArray} (h : Kd.V Kd.string 9 W b ok (.slice A n c) l) : Kd.C Kd.string W A l.length l ∧ l.length ≤ c := by
  obtain ⟨A', c', hv, hl, hF⟩ := h
  injection hv with e1 _ e3
  subst e1 e3
  exact ⟨Foot.now hF, hl⟩
def cmd_Check.rfn (j : Nat) : Nat := match j with | 1 => 160 | 2 => 165 | 3 => 173 | 4 => 180 | 5 => 185 | 6 => 190 | 7 => 195 | _ => 200
theorem cmd_Check.meth_ {m : Nat} {Q : World → Value → Prop} {w : World} {er : Int} (h : ∀ W o, Q W o → Calls Tryz.prog m #[o] W fun e w' => e = .returned (.int .i64 er) ∧ Below W.heap.size W w') : Meth m Q w (isE er) :=
  fun W o hq _ => (h W o hq).mono fun e w' ⟨he, hB⟩ => ⟨⟨_, he, rfl⟩, hB⟩
theorem cmd_Check.right_ {k : Nat} {op : Int} {dst : ByteArray} {src words : List ByteArray} {st er : Int} (base : Nat) (w : World) (j : Nat) (hj : cmd_Check.shape op dst src words st = j) (h0 : j ≠ 0) (h8 : j ≤ 8) (h : cmd_Check.f k op dst src words st = some er) :
    Meth (cmd_Check.rfn j) (cmd_Check.obj j base dst src words st) w (isE er) := by
  unfold cmd_Check.f at h
  split at h
  · rw [hj] at h
    match j, h0, h8 with
    | 1, _, _ => exact cmd_Check.meth_ fun W o hq => by obtain rfl : o = _ := hq; exact cmd_copying_right.calls k _ _ er W h
    | 2, _, _ => exact cmd_Check.meth_ fun W o hq => by obtain ⟨A, c, rfl, hv⟩ := hq; obtain ⟨hC, hl⟩ := cmd_Check.vc_ hv; exact cmd_joining_right.calls k _ A c _ er W hC hl h
    | 3, _, _ => exact cmd_Check.meth_ fun W o hq => by obtain ⟨A, c, rfl, hv⟩ := hq; obtain ⟨hC, hl⟩ := cmd_Check.vc_ hv; exact cmd_echoing_right.calls k _ A c _ er W hC hl h
    | 4, _, _ => exact cmd_Check.meth_ fun W o hq => by obtain rfl : o = _ := hq; exact cmd_touching_right.calls k _ er W h
    | 5, _, _ => exact cmd_Check.meth_ fun W o hq => by obtain rfl : o = _ := hq; exact cmd_removing_right.calls k _ er W h
    | 6, _, _ => exact cmd_Check.meth_ fun W o hq => by obtain rfl : o = _ := hq; exact cmd_testing_right.calls k _ er W h
    | 7, _, _ => exact cmd_Check.meth_ fun W o hq => by obtain rfl : o = _ := hq; exact cmd_failing_right.calls _ er W h
    | 8, _, _ => exact cmd_Check.meth_ fun W o hq => by obtain ⟨A, c, rfl, hv⟩ := hq; obtain ⟨hC, hl⟩ := cmd_Check.vc_ hv; exact cmd_saying_right.calls A c _ er W hC hl h
    | n + 9, _, h => omega
  · cases h
theorem cmd_Check.bound_ {k : Nat} {op : Int} {dst : ByteArray} {src words : List ByteArray} {st er : Int} (h : cmd_Check.f k op dst src words st = some er) : src.length ≤ 8796093022200 ∧ words.length ≤ 8796093022200 := by
  unfold cmd_Check.f at h
  split at h
  · assumption
  · cases h
theorem cmd_Check.none_ {k : Nat} {op : Int} {dst : ByteArray} {src words : List ByteArray} {st er : Int} (h : cmd_Check.f k op dst src words st = some er) (hj : cmd_Check.shape op dst src words st = 0) : er = 160 := by
  unfold cmd_Check.f at h
  split at h
  · rw [hj] at h
    exact (Option.some.inj h).symm
  · cases h
/-- told: the object, or what is wrong. -/
theorem cmd_Check.told_ (k : Nat) (op : Int) (dst : ByteArray) (A2 : Option Addr) (c2 : Nat) (src : List ByteArray) (A3 : Option Addr) (c3 : Nat) (words : List ByteArray) (st : Int) (er : Int) (w : World)
    (hr2 : Kd.C Kd.string w A2 src.length src) (hc2 : src.length ≤ c2) (hr3 : Kd.C Kd.string w A3 words.length words) (hc3 : words.length ≤ c3) (h : cmd_Check.f k op dst src words st = some er) :
    (er = 0 → cmd_Check.shape op dst src words st ≠ 0 ∧ Gives 44 (cmd_Check.typ (cmd_Check.shape op dst src words st)) (cval op dst (.slice A2 src.length c2) (.slice A3 words.length c3) st) w (cmd_Check.obj (cmd_Check.shape op dst src words st) w.heap.size dst src words st)) ∧
    (er ≠ 0 → Fails 44 (cval op dst (.slice A2 src.length c2) (.slice A3 words.length c3) st) w er) := by
  obtain ⟨hs2, hs3⟩ := cmd_Check.bound_ h
  have hof := cmd_Check.of_ op dst A2 c2 src A3 c3 words st w hr2 hc2 hr3 hc3 hs2 hs3
  have hle := cmd_Check.shape_le op dst src words st
  by_cases hj : cmd_Check.shape op dst src words st = 0
  · have he := cmd_Check.none_ h hj
    subst he
    refine ⟨fun e => absurd e (by decide), fun _ W hb => ?_⟩
    exact (told_none op dst _ _ st W (by decide) (by decide) (fun W' hb' => hof.2 hj W' (hb.trans (hb'.mono hb.size)))).mono fun e w' ⟨he, hB⟩ => ⟨he, hB⟩
  · have hG := hof.1 hj
    have hM := fun base w => cmd_Check.right_ base w _ rfl hj hle h
    generalize cmd_Check.shape op dst src words st = j at hG hM hj hle ⊢
    have hS := cmd_Check.stays j w.heap.size dst src words st
    have up : ∀ {W : World}, Below w.heap.size w W → Gives 43 (cmd_Check.typ j) (cval op dst (.slice A2 src.length c2) (.slice A3 words.length c3) st) W (cmd_Check.obj j w.heap.size dst src words st) := fun hb W' hb' => hG W' (hb.trans (hb'.mono hb.size))
    refine ⟨fun e => ⟨hj, fun W hb => ?_⟩, fun e W hb => ?_⟩
    · subst e
      have hMW := hM w.heap.size W
      have hGW := up hb
      match j, hj, hle with
      | 1, _, _ => exact told_1 hS op dst _ _ st W (er := 0) hGW hMW
      | 2, _, _ => exact told_2 hS op dst _ _ st W (er := 0) hGW hMW
      | 3, _, _ => exact told_3 hS op dst _ _ st W (er := 0) hGW hMW
      | 4, _, _ => exact told_4 hS op dst _ _ st W (er := 0) hGW hMW
      | 5, _, _ => exact told_5 hS op dst _ _ st W (er := 0) hGW hMW
      | 6, _, _ => exact told_6 hS op dst _ _ st W (er := 0) hGW hMW
      | 7, _, _ => exact told_7 hS op dst _ _ st W (er := 0) hGW hMW
      | 8, _, _ => exact told_8 hS op dst _ _ st W (er := 0) hGW hMW
      | n + 9, _, h => omega
    · have e1 : (er != 0) = true := bne_iff_ne.2 e
      have e0 : (er == 0) = false := beq_eq_false_iff_ne.2 e
      have hMW := hM w.heap.size W
      have hGW := up hb
      match j, hj, hle with
      | 1, _, _ => exact told_wrong_1 hS op dst _ _ st W e1 e0 hGW hMW
      | 2, _, _ => exact told_wrong_2 hS op dst _ _ st W e1 e0 hGW hMW
      | 3, _, _ => exact told_wrong_3 hS op dst _ _ st W e1 e0 hGW hMW
      | 4, _, _ => exact told_wrong_4 hS op dst _ _ st W e1 e0 hGW hMW
      | 5, _, _ => exact told_wrong_5 hS op dst _ _ st W e1 e0 hGW hMW
      | 6, _, _ => exact told_wrong_6 hS op dst _ _ st W e1 e0 hGW hMW
      | 7, _, _ => exact told_wrong_7 hS op dst _ _ st W e1 e0 hGW hMW
      | 8, _, _ => exact told_wrong_8 hS op dst _ _ st W e1 e0 hGW hMW
      | n + 9, _, h => omega
theorem cmd_Check.calls (k : Nat) (a0_0 : Int) (a0_1 : ByteArray) (A0_2 : Option Addr) (c0_2 : Nat) (l0_2 : List ByteArray) (A0_3 : Option Addr) (c0_3 : Nat) (l0_3 : List ByteArray) (a0_4 : Int) (r : Int) (w : World) (hr0_2 : Kd.C Kd.string w A0_2 l0_2.length l0_2) (hc0_2 : l0_2.length ≤ c0_2) (hr0_3 : Kd.C Kd.string w A0_3 l0_3.length l0_3) (hc0_3 : l0_3.length ≤ c0_3) (h : cmd_Check.f k a0_0 a0_1 l0_2 l0_3 a0_4 = some r) :
    Calls Tryz.prog 15 #[.agg #[.int .i64 a0_0, .string a0_1, .slice A0_2 l0_2.length c0_2, .slice A0_3 l0_3.length c0_3, .int .i64 a0_4]] w fun e w' => e = .returned (.int .i64 r) ∧ Below w.heap.size w w' := by
  obtain ⟨hs2, hs3⟩ := cmd_Check.bound_ h
  have hof := cmd_Check.of_ a0_0 a0_1 A0_2 c0_2 l0_2 A0_3 c0_3 l0_3 a0_4 w hr0_2 hc0_2 hr0_3 hc0_3 hs2 hs3
  have hle := cmd_Check.shape_le a0_0 a0_1 l0_2 l0_3 a0_4
  by_cases hj : cmd_Check.shape a0_0 a0_1 l0_2 l0_3 a0_4 = 0
  · have he := cmd_Check.none_ h hj
    subst he
    exact check_none a0_0 a0_1 _ _ a0_4 w (by decide) (by decide) (hof.2 hj)
  · have hG := hof.1 hj
    have hM := fun base w => cmd_Check.right_ base w _ rfl hj hle h
    generalize cmd_Check.shape a0_0 a0_1 l0_2 l0_3 a0_4 = j at hG hM hj hle
    have hS := cmd_Check.stays j w.heap.size a0_1 l0_2 l0_3 a0_4
    have hMW := hM w.heap.size w
    match j, hj, hle with
    | 1, _, _ => exact check_1 hS a0_0 a0_1 _ _ a0_4 w hG hMW
    | 2, _, _ => exact check_2 hS a0_0 a0_1 _ _ a0_4 w hG hMW
    | 3, _, _ => exact check_3 hS a0_0 a0_1 _ _ a0_4 w hG hMW
    | 4, _, _ => exact check_4 hS a0_0 a0_1 _ _ a0_4 w hG hMW
    | 5, _, _ => exact check_5 hS a0_0 a0_1 _ _ a0_4 w hG hMW
    | 6, _, _ => exact check_6 hS a0_0 a0_1 _ _ a0_4 w hG hMW
    | 7, _, _ => exact check_7 hS a0_0 a0_1 _ _ a0_4 w hG hMW
    | 8, _, _ => exact check_8 hS a0_0 a0_1 _ _ a0_4 w hG hMW
    | n + 9, _, h => omega

/-! ### cmd_copying_words: function 162 -/
def cmd_copying_words.f (a0_0 : ByteArray) (a0_1 : ByteArray) : Option (List ByteArray) := some (([(⟨#[99, 111, 112, 121]⟩ : ByteArray), a0_0, a0_1] : List ByteArray))
set_option maxHeartbeats 8000000 in
set_option maxRecDepth 100000 in
theorem cmd_copying_words.calls (a0_0 : ByteArray) (a0_1 : ByteArray) (r : List ByteArray) (w : World) (h : cmd_copying_words.f a0_0 a0_1 = some r) :
    Calls Tryz.prog 162 #[.agg #[.string a0_0, .string a0_1]] w fun e w' => ∃ v0_ : Value, e = .returned (v0_) ∧ Kd.R Kd.string 9 w' w.heap.size (fun _ => True) v0_ r ∧ Below w.heap.size w w' := by
  have hu83 := Tryz.underlying83
  have HB := Aside0.mk (Below.refl w.heap.size w)
  have H : (some (([(⟨#[99, 111, 112, 121]⟩ : ByteArray), a0_0, a0_1] : List ByteArray))) = some r := h
  clear h
  obtain ⟨y204, hy204⟩ : ∃ y_ : List ByteArray, y_ = (([(⟨#[99, 111, 112, 121]⟩ : ByteArray), a0_0, a0_1] : List ByteArray)) := ⟨_, rfl⟩
  replace H : (some y204) = some r := by first | (rw [hy204]; with_reducible exact H) | (have H2_ := (Option.bind_some _ _).symm.trans H; rw [hy204]; with_reducible exact H2_) | (have H2_ := (Option.bind_some _ _).symm.trans H; with_reducible exact H2_) | with_reducible exact H | (rw [hy204]; exact H) | exact H
  have Ny204 := Aside0.mk hy204
  clear hy204
  obtain rfl := Option.some.inj H
  go_enter Tryz.func162, Tryz.ntmps162
  go_wp2_with (first | ((with_reducible refine gate_dst (N := 1) rfl ?_); refine box_event ?hg (N := 1) ?hd (cs := #[.string a0_0, .string a0_1]) (t := 83) ?hr ?_; (case hd => rfl); (case hg => rfl); (case hr => first | (go_simp; done) | (go_simp; rfl)); intro gb203 hg w2 hbox hb; have n0_ := Aside0.mk (below_step (by repeat (first | (with_reducible first | exact HB.out | apply below_alloc | apply pw_below_drewN | apply below_drew1) | exact HB.out)) hb); have n1_ := Aside0.mk (hbox); have n2_ := Aside0.mk ((by rw [hg]; exact (below_size (by repeat (first | (with_reducible first | exact HB.out | apply below_alloc | apply pw_below_drewN | apply below_drew1) | exact HB.out))) : w.heap.size ≤ gb203)); have n3_ := Aside0.mk ((by rw [hg]; exact (below_size (by repeat (first | (with_reducible first | exact HB.out | apply below_alloc | apply pw_below_drewN | apply below_drew1) | exact HB.out))) : w.heap.size ≤ gb203)); clear HB; have HB := n0_; have BK203 := n1_; have GW203 := n2_; have GE203 := n3_; clear n0_ n1_ n2_ n3_; clear hb hbox hg; have hcz3_0 : w2.cell? ⟨gb203, 0, none⟩ = some (.string a0_0) := (blk_cell BK203.out 0).trans rfl; have hcz3_1 : w2.cell? ⟨gb203, 1, none⟩ = some (.string a0_1) := (blk_cell BK203.out 1).trans rfl; have hfz3_0 := blk_frozen BK203.out 0; have hfz3_1 := blk_frozen BK203.out 1) | ((with_reducible refine gate_dst (N := 7) rfl ?_); refine Kd.R_lit Kd.string _ 9 ?hg (N := 7) ?hd (xs := ([(⟨#[99, 111, 112, 121]⟩ : ByteArray), a0_0, a0_1] : List ByteArray)) (inner := [.string (⟨#[99, 111, 112, 121]⟩ : ByteArray), .string a0_0, .string a0_1]) (ok := fun _ => True) (okp := fun _ => True) ?hr ?hp (fun _ hk => hk) trivial (Below.refl _ _) (Nat.le_refl _) (by simp) ?_; (case hd => rfl); (case hg => rfl); (case hr => first | (go_simp; done) | (go_simp; rfl)); (case hp => exact (Reps.one (show Kd.M Kd.string _ _ _ (⟨#[99, 111, 112, 121]⟩ : ByteArray) [.string (⟨#[99, 111, 112, 121]⟩ : ByteArray)] from rfl) (Reps.one (show Kd.M Kd.string _ _ _ a0_0 [.string a0_0] from rfl) (Reps.one (show Kd.M Kd.string _ _ _ a0_1 [.string a0_1] from rfl) (Reps.none _ _))))); intro v205 w4 ho5 hb hg_ hnew_; clear hg_ hnew_; (first | rw [← Ny204.out] at ho5 | (simp only [Int.reduceToNat] at ho5; rw [← Ny204.out] at ho5)); have n0_ := Aside0.mk (Kd.R_lower ho5 (below_size (by repeat (first | (with_reducible first | exact HB.out | apply below_alloc | apply pw_below_drewN | apply below_drew1 | refine below_set ?_ GE203.out) | exact HB.out)))); have n1_ := Aside0.mk (blk_below (g := gb203) (o := .cells #[.string a0_0, .string a0_1] 83 (0, 0)) (by (with_reducible repeat (first | refine blk_drewN ?_ _ | refine blk_drew ?_ | refine blk_alloc ?_ _)); exact BK203.out) hb); have n2_ := Aside0.mk (below_step (by repeat (first | (with_reducible first | exact HB.out | apply below_alloc | apply pw_below_drewN | apply below_drew1 | refine below_set ?_ GE203.out) | exact HB.out)) hb); clear BK203; clear HB; have HO206 := n0_; have BK203 := n1_; have HB := n2_; clear n0_ n1_ n2_; clear hb ho5))
  go_ret
  exact ⟨_, by first | rfl | (simp [errW_none, errW_some] <;> rfl) | (simp [*, errW_none, errW_some] <;> rfl), by (with_reducible repeat (first | apply Kd.R_alloc | apply Kd.R_drewN | apply Kd.R_drew)); exact HO206.out, by repeat (first | (with_reducible first | exact HB.out | apply below_alloc | apply pw_below_drewN | apply below_drew1 | refine below_set ?_ GE203.out) | exact HB.out)⟩

/-! ### cmd_joining_words: function 167 -/
def cmd_joining_words.f (a0_0 : ByteArray) (l0_1 : List ByteArray) : Option (List ByteArray) := (some (([(⟨#[99, 111, 110, 99, 97, 116]⟩ : ByteArray), a0_0] : List ByteArray) : List ByteArray)).bind fun y208 => (if y208.length + l0_1.length < 8796093022208 then (some (y208 ++ l0_1)) else (none))
set_option maxHeartbeats 8000000 in
set_option maxRecDepth 100000 in
theorem cmd_joining_words.calls (a0_0 : ByteArray) (A0_1 : Option Addr) (c0_1 : Nat) (l0_1 : List ByteArray) (r : List ByteArray) (w : World) (hr0_1 : Kd.C Kd.string w A0_1 l0_1.length l0_1) (hc0_1 : l0_1.length ≤ c0_1) (h : cmd_joining_words.f a0_0 l0_1 = some r) :
    Calls Tryz.prog 167 #[.agg #[.string a0_0, .slice A0_1 l0_1.length c0_1]] w fun e w' => ∃ v0_ : Value, e = .returned (v0_) ∧ Kd.R Kd.string 9 w' w.heap.size (fun _ => True) v0_ r ∧ Below w.heap.size w w' := by
  have hu85 := Tryz.underlying85
  have HR0_1 := Aside0.mk hr0_1
  have HC0_1 := Aside0.mk hc0_1
  clear hr0_1 hc0_1
  have HB := Aside0.mk (Below.refl w.heap.size w)
  have H : ((some (([(⟨#[99, 111, 110, 99, 97, 116]⟩ : ByteArray), a0_0] : List ByteArray) : List ByteArray)).bind fun y208 => (if y208.length + l0_1.length < 8796093022208 then (some (y208 ++ l0_1)) else (none))) = some r := h
  clear h
  obtain ⟨y208, hy208⟩ : ∃ y_ : List ByteArray, y_ = (([(⟨#[99, 111, 110, 99, 97, 116]⟩ : ByteArray), a0_0] : List ByteArray)) := ⟨_, rfl⟩
  replace H : (if y208.length + l0_1.length < 8796093022208 then (some (y208 ++ l0_1)) else (none)) = some r := by first | (rw [hy208]; with_reducible exact H) | (have H2_ := (Option.bind_some _ _).symm.trans H; rw [hy208]; with_reducible exact H2_) | (have H2_ := (Option.bind_some _ _).symm.trans H; with_reducible exact H2_) | with_reducible exact H | (rw [hy208]; exact H) | exact H
  have Ny208 := Aside0.mk hy208
  clear hy208
  by_cases c2 : y208.length + l0_1.length < 8796093022208
  · rw [if_pos c2] at H
    have LMc2 := Aside0.mk c2
    clear c2
    obtain ⟨y211, hy211⟩ : ∃ y_ : List ByteArray, y_ = (y208 ++ l0_1) := ⟨_, rfl⟩
    replace H : (some y211) = some r := by first | (rw [hy211]; with_reducible exact H) | (have H2_ := (Option.bind_some _ _).symm.trans H; rw [hy211]; with_reducible exact H2_) | (have H2_ := (Option.bind_some _ _).symm.trans H; with_reducible exact H2_) | with_reducible exact H | (rw [hy211]; exact H) | exact H
    have Ny211 := Aside0.mk hy211
    clear hy211
    obtain rfl := Option.some.inj H
    go_enter Tryz.func167, Tryz.ntmps167
    go_wp2_with (first | ((with_reducible refine gate_dst (N := 1) rfl ?_); refine box_event ?hg (N := 1) ?hd (cs := #[.string a0_0, .slice A0_1 l0_1.length c0_1]) (t := 85) ?hr ?_; (case hd => rfl); (case hg => rfl); (case hr => first | (go_simp; done) | (go_simp; rfl)); intro gb207 hg w3 hbox hb; have n0_ := Aside0.mk (below_step (by repeat (first | (with_reducible first | exact HB.out | apply below_alloc | apply pw_below_drewN | apply below_drew1) | exact HB.out)) hb); have n1_ := Aside0.mk (hbox); have n2_ := Aside0.mk ((by rw [hg]; exact (below_size (by repeat (first | (with_reducible first | exact HB.out | apply below_alloc | apply pw_below_drewN | apply below_drew1) | exact HB.out))) : w.heap.size ≤ gb207)); have n3_ := Aside0.mk ((by rw [hg]; exact (below_size (by repeat (first | (with_reducible first | exact HB.out | apply below_alloc | apply pw_below_drewN | apply below_drew1) | exact HB.out))) : w.heap.size ≤ gb207)); clear HB; have HB := n0_; have BK207 := n1_; have GW207 := n2_; have GE207 := n3_; clear n0_ n1_ n2_ n3_; clear hb hbox hg; have hcz4_0 : w3.cell? ⟨gb207, 0, none⟩ = some (.string a0_0) := (blk_cell BK207.out 0).trans rfl; have hcz4_1 : w3.cell? ⟨gb207, 1, none⟩ = some (.slice A0_1 l0_1.length c0_1) := (blk_cell BK207.out 1).trans rfl; have hfz4_0 := blk_frozen BK207.out 0; have hfz4_1 := blk_frozen BK207.out 1) | ((with_reducible refine gate_dst (N := 5) rfl ?_); refine Kd.R_lit Kd.string _ 9 ?hg (N := 5) ?hd (xs := ([(⟨#[99, 111, 110, 99, 97, 116]⟩ : ByteArray), a0_0] : List ByteArray)) (inner := [.string (⟨#[99, 111, 110, 99, 97, 116]⟩ : ByteArray), .string a0_0]) (ok := fun _ => True) (okp := fun _ => True) ?hr ?hp (fun _ hk => hk) trivial (Below.refl _ _) (Nat.le_refl _) (by simp) ?_; (case hd => rfl); (case hg => rfl); (case hr => first | (go_simp; done) | (go_simp; rfl)); (case hp => exact (Reps.one (show Kd.M Kd.string _ _ _ (⟨#[99, 111, 110, 99, 97, 116]⟩ : ByteArray) [.string (⟨#[99, 111, 110, 99, 97, 116]⟩ : ByteArray)] from rfl) (Reps.one (show Kd.M Kd.string _ _ _ a0_0 [.string a0_0] from rfl) (Reps.none _ _)))); intro v209 w5 ho6 hb hg_ hnew_; clear hg_ hnew_; (first | rw [← Ny208.out] at ho6 | (simp only [Int.reduceToNat] at ho6; rw [← Ny208.out] at ho6)); have n0_ := Aside0.mk (Kd.R_lower ho6 (below_size (by repeat (first | (with_reducible first | exact HB.out | apply below_alloc | apply pw_below_drewN | apply below_drew1 | refine below_set ?_ GE207.out) | exact HB.out)))); have n1_ := Aside0.mk (blk_below (g := gb207) (o := .cells #[.string a0_0, .slice A0_1 l0_1.length c0_1] 85 (0, 0)) (by (with_reducible repeat (first | refine blk_drewN ?_ _ | refine blk_drew ?_ | refine blk_alloc ?_ _)); exact BK207.out) hb); have n2_ := Aside0.mk (below_step (by repeat (first | (with_reducible first | exact HB.out | apply below_alloc | apply pw_below_drewN | apply below_drew1 | refine below_set ?_ GE207.out) | exact HB.out)) hb); clear BK207; clear HB; have HO210 := n0_; have BK207 := n1_; have HB := n2_; clear n0_ n1_ n2_; clear hb ho6; have hcz7_0 : w5.cell? ⟨gb207, 0, none⟩ = some (.string a0_0) := (blk_cell BK207.out 0).trans rfl; have hcz7_1 : w5.cell? ⟨gb207, 1, none⟩ = some (.slice A0_1 l0_1.length c0_1) := (blk_cell BK207.out 1).trans rfl; have hfz7_0 := blk_frozen BK207.out 0; have hfz7_1 := blk_frozen BK207.out 1) | ((with_reducible refine gate_builtin (b := .append) (xs := #[.tmp 5, .tmp 7]) rfl ?_); at_builtin; refine Kd.R_append_rows Kd.string (w0 := w) w.heap.size rfl (.tmp 5) (.tmp 7) 22 9 (.string ⟨#[]⟩) 16 rfl Tryz.underlying22 info9 rfl (by decide) (by omega) v209 y208 l0_1 _ _ _ (fun _ => True) (fun _ => False) rfl rfl ?aO ?aR (fun _ _ h => h) (fun _ h => h.elim) ?aF ?aB ?aS ?aL ?_; (case aR => repeat (first | exact (Kd.C_below HR0_1.out HB.out) | (with_reducible refine Kd.C_alloc ?_ _) | (with_reducible refine Kd.C_drewN ?_ _) | (with_reducible refine Kd.C_drew ?_))); (case aB => exact (by repeat (first | (with_reducible first | exact HB.out | apply below_alloc | apply pw_below_drewN | apply below_drew1 | refine below_set ?_ GE207.out) | exact HB.out))); (case aF => exact (fun _ _ => trivial)); (case aO => exact (by (with_reducible repeat (first | apply Kd.R_alloc | apply Kd.R_drewN | apply Kd.R_drew)); exact HO210.out)); (case aS => exact (below_size (by repeat (first | (with_reducible first | exact HB.out | apply below_alloc | apply pw_below_drewN | apply below_drew1 | refine below_set ?_ GE207.out) | exact HB.out)))); (case aL => have := LMc2.out; omega); intro v212 w8 ho hb hg hat; rw [← Ny211.out] at ho; have n0_ := Aside0.mk (blk_grown (g := gb207) (o := .cells #[.string a0_0, .slice A0_1 l0_1.length c0_1] 85 (0, 0)) (by (with_reducible repeat (first | refine blk_drewN ?_ _ | refine blk_drew ?_ | refine blk_alloc ?_ _)); exact BK207.out) hg (Kd.R_ne HO210.out BK207.out (by decide))); have n1_ := Aside0.mk (hb); have n2_ := Aside0.mk (ho); clear BK207; clear HB; clear HO210; have BK207 := n0_; have HB := n1_; have HO213 := n2_; clear n0_ n1_ n2_; clear ho hb hg hat))
    go_ret
    exact ⟨_, by first | rfl | (simp [errW_none, errW_some] <;> rfl) | (simp [*, errW_none, errW_some] <;> rfl), by (with_reducible repeat (first | apply Kd.R_alloc | apply Kd.R_drewN | apply Kd.R_drew)); exact HO213.out, by repeat (first | (with_reducible first | exact HB.out | apply below_alloc | apply pw_below_drewN | apply below_drew1 | refine below_set ?_ GE207.out) | exact HB.out)⟩
  · rw [if_neg c2] at H
    exact absurd H (by simp)

/-! ### cmd_echoing_words: function 175 -/
def cmd_echoing_words.f (a0_0 : ByteArray) (l0_1 : List ByteArray) : Option (List ByteArray) := (some (([(⟨#[101, 99, 104, 111, 45, 116, 111]⟩ : ByteArray), a0_0] : List ByteArray) : List ByteArray)).bind fun y215 => (if y215.length + l0_1.length < 8796093022208 then (some (y215 ++ l0_1)) else (none))
set_option maxHeartbeats 8000000 in
set_option maxRecDepth 100000 in
theorem cmd_echoing_words.calls (a0_0 : ByteArray) (A0_1 : Option Addr) (c0_1 : Nat) (l0_1 : List ByteArray) (r : List ByteArray) (w : World) (hr0_1 : Kd.C Kd.string w A0_1 l0_1.length l0_1) (hc0_1 : l0_1.length ≤ c0_1) (h : cmd_echoing_words.f a0_0 l0_1 = some r) :
    Calls Tryz.prog 175 #[.agg #[.string a0_0, .slice A0_1 l0_1.length c0_1]] w fun e w' => ∃ v0_ : Value, e = .returned (v0_) ∧ Kd.R Kd.string 9 w' w.heap.size (fun _ => True) v0_ r ∧ Below w.heap.size w w' := by
  have hu87 := Tryz.underlying87
  have HR0_1 := Aside0.mk hr0_1
  have HC0_1 := Aside0.mk hc0_1
  clear hr0_1 hc0_1
  have HB := Aside0.mk (Below.refl w.heap.size w)
  have H : ((some (([(⟨#[101, 99, 104, 111, 45, 116, 111]⟩ : ByteArray), a0_0] : List ByteArray) : List ByteArray)).bind fun y215 => (if y215.length + l0_1.length < 8796093022208 then (some (y215 ++ l0_1)) else (none))) = some r := h
  clear h
  obtain ⟨y215, hy215⟩ : ∃ y_ : List ByteArray, y_ = (([(⟨#[101, 99, 104, 111, 45, 116, 111]⟩ : ByteArray), a0_0] : List ByteArray)) := ⟨_, rfl⟩
  replace H : (if y215.length + l0_1.length < 8796093022208 then (some (y215 ++ l0_1)) else (none)) = some r := by first | (rw [hy215]; with_reducible exact H) | (have H2_ := (Option.bind_some _ _).symm.trans H; rw [hy215]; with_reducible exact H2_) | (have H2_ := (Option.bind_some _ _).symm.trans H; with_reducible exact H2_) | with_reducible exact H | (rw [hy215]; exact H) | exact H
  have Ny215 := Aside0.mk hy215
  clear hy215
  by_cases c2 : y215.length + l0_1.length < 8796093022208
  · rw [if_pos c2] at H
    have LMc2 := Aside0.mk c2
    clear c2
    obtain ⟨y218, hy218⟩ : ∃ y_ : List ByteArray, y_ = (y215 ++ l0_1) := ⟨_, rfl⟩
    replace H : (some y218) = some r := by first | (rw [hy218]; with_reducible exact H) | (have H2_ := (Option.bind_some _ _).symm.trans H; rw [hy218]; with_reducible exact H2_) | (have H2_ := (Option.bind_some _ _).symm.trans H; with_reducible exact H2_) | with_reducible exact H | (rw [hy218]; exact H) | exact H
    have Ny218 := Aside0.mk hy218
    clear hy218
    obtain rfl := Option.some.inj H
    go_enter Tryz.func175, Tryz.ntmps175
    go_wp2_with (first | ((with_reducible refine gate_dst (N := 1) rfl ?_); refine box_event ?hg (N := 1) ?hd (cs := #[.string a0_0, .slice A0_1 l0_1.length c0_1]) (t := 87) ?hr ?_; (case hd => rfl); (case hg => rfl); (case hr => first | (go_simp; done) | (go_simp; rfl)); intro gb214 hg w3 hbox hb; have n0_ := Aside0.mk (below_step (by repeat (first | (with_reducible first | exact HB.out | apply below_alloc | apply pw_below_drewN | apply below_drew1) | exact HB.out)) hb); have n1_ := Aside0.mk (hbox); have n2_ := Aside0.mk ((by rw [hg]; exact (below_size (by repeat (first | (with_reducible first | exact HB.out | apply below_alloc | apply pw_below_drewN | apply below_drew1) | exact HB.out))) : w.heap.size ≤ gb214)); have n3_ := Aside0.mk ((by rw [hg]; exact (below_size (by repeat (first | (with_reducible first | exact HB.out | apply below_alloc | apply pw_below_drewN | apply below_drew1) | exact HB.out))) : w.heap.size ≤ gb214)); clear HB; have HB := n0_; have BK214 := n1_; have GW214 := n2_; have GE214 := n3_; clear n0_ n1_ n2_ n3_; clear hb hbox hg; have hcz4_0 : w3.cell? ⟨gb214, 0, none⟩ = some (.string a0_0) := (blk_cell BK214.out 0).trans rfl; have hcz4_1 : w3.cell? ⟨gb214, 1, none⟩ = some (.slice A0_1 l0_1.length c0_1) := (blk_cell BK214.out 1).trans rfl; have hfz4_0 := blk_frozen BK214.out 0; have hfz4_1 := blk_frozen BK214.out 1) | ((with_reducible refine gate_dst (N := 5) rfl ?_); refine Kd.R_lit Kd.string _ 9 ?hg (N := 5) ?hd (xs := ([(⟨#[101, 99, 104, 111, 45, 116, 111]⟩ : ByteArray), a0_0] : List ByteArray)) (inner := [.string (⟨#[101, 99, 104, 111, 45, 116, 111]⟩ : ByteArray), .string a0_0]) (ok := fun _ => True) (okp := fun _ => True) ?hr ?hp (fun _ hk => hk) trivial (Below.refl _ _) (Nat.le_refl _) (by simp) ?_; (case hd => rfl); (case hg => rfl); (case hr => first | (go_simp; done) | (go_simp; rfl)); (case hp => exact (Reps.one (show Kd.M Kd.string _ _ _ (⟨#[101, 99, 104, 111, 45, 116, 111]⟩ : ByteArray) [.string (⟨#[101, 99, 104, 111, 45, 116, 111]⟩ : ByteArray)] from rfl) (Reps.one (show Kd.M Kd.string _ _ _ a0_0 [.string a0_0] from rfl) (Reps.none _ _)))); intro v216 w5 ho6 hb hg_ hnew_; clear hg_ hnew_; (first | rw [← Ny215.out] at ho6 | (simp only [Int.reduceToNat] at ho6; rw [← Ny215.out] at ho6)); have n0_ := Aside0.mk (Kd.R_lower ho6 (below_size (by repeat (first | (with_reducible first | exact HB.out | apply below_alloc | apply pw_below_drewN | apply below_drew1 | refine below_set ?_ GE214.out) | exact HB.out)))); have n1_ := Aside0.mk (blk_below (g := gb214) (o := .cells #[.string a0_0, .slice A0_1 l0_1.length c0_1] 87 (0, 0)) (by (with_reducible repeat (first | refine blk_drewN ?_ _ | refine blk_drew ?_ | refine blk_alloc ?_ _)); exact BK214.out) hb); have n2_ := Aside0.mk (below_step (by repeat (first | (with_reducible first | exact HB.out | apply below_alloc | apply pw_below_drewN | apply below_drew1 | refine below_set ?_ GE214.out) | exact HB.out)) hb); clear BK214; clear HB; have HO217 := n0_; have BK214 := n1_; have HB := n2_; clear n0_ n1_ n2_; clear hb ho6; have hcz7_0 : w5.cell? ⟨gb214, 0, none⟩ = some (.string a0_0) := (blk_cell BK214.out 0).trans rfl; have hcz7_1 : w5.cell? ⟨gb214, 1, none⟩ = some (.slice A0_1 l0_1.length c0_1) := (blk_cell BK214.out 1).trans rfl; have hfz7_0 := blk_frozen BK214.out 0; have hfz7_1 := blk_frozen BK214.out 1) | ((with_reducible refine gate_builtin (b := .append) (xs := #[.tmp 5, .tmp 7]) rfl ?_); at_builtin; refine Kd.R_append_rows Kd.string (w0 := w) w.heap.size rfl (.tmp 5) (.tmp 7) 22 9 (.string ⟨#[]⟩) 16 rfl Tryz.underlying22 info9 rfl (by decide) (by omega) v216 y215 l0_1 _ _ _ (fun _ => True) (fun _ => False) rfl rfl ?aO ?aR (fun _ _ h => h) (fun _ h => h.elim) ?aF ?aB ?aS ?aL ?_; (case aR => repeat (first | exact (Kd.C_below HR0_1.out HB.out) | (with_reducible refine Kd.C_alloc ?_ _) | (with_reducible refine Kd.C_drewN ?_ _) | (with_reducible refine Kd.C_drew ?_))); (case aB => exact (by repeat (first | (with_reducible first | exact HB.out | apply below_alloc | apply pw_below_drewN | apply below_drew1 | refine below_set ?_ GE214.out) | exact HB.out))); (case aF => exact (fun _ _ => trivial)); (case aO => exact (by (with_reducible repeat (first | apply Kd.R_alloc | apply Kd.R_drewN | apply Kd.R_drew)); exact HO217.out)); (case aS => exact (below_size (by repeat (first | (with_reducible first | exact HB.out | apply below_alloc | apply pw_below_drewN | apply below_drew1 | refine below_set ?_ GE214.out) | exact HB.out)))); (case aL => have := LMc2.out; omega); intro v219 w8 ho hb hg hat; rw [← Ny218.out] at ho; have n0_ := Aside0.mk (blk_grown (g := gb214) (o := .cells #[.string a0_0, .slice A0_1 l0_1.length c0_1] 87 (0, 0)) (by (with_reducible repeat (first | refine blk_drewN ?_ _ | refine blk_drew ?_ | refine blk_alloc ?_ _)); exact BK214.out) hg (Kd.R_ne HO217.out BK214.out (by decide))); have n1_ := Aside0.mk (hb); have n2_ := Aside0.mk (ho); clear BK214; clear HB; clear HO217; have BK214 := n0_; have HB := n1_; have HO220 := n2_; clear n0_ n1_ n2_; clear ho hb hg hat))
    go_ret
    exact ⟨_, by first | rfl | (simp [errW_none, errW_some] <;> rfl) | (simp [*, errW_none, errW_some] <;> rfl), by (with_reducible repeat (first | apply Kd.R_alloc | apply Kd.R_drewN | apply Kd.R_drew)); exact HO220.out, by repeat (first | (with_reducible first | exact HB.out | apply below_alloc | apply pw_below_drewN | apply below_drew1 | refine below_set ?_ GE214.out) | exact HB.out)⟩
  · rw [if_neg c2] at H
    exact absurd H (by simp)

/-! ### cmd_touching_words: function 182 -/
def cmd_touching_words.f (a0_0 : ByteArray) : Option (List ByteArray) := some (([(⟨#[116, 111, 117, 99, 104]⟩ : ByteArray), a0_0] : List ByteArray))
set_option maxHeartbeats 8000000 in
set_option maxRecDepth 100000 in
theorem cmd_touching_words.calls (a0_0 : ByteArray) (r : List ByteArray) (w : World) (h : cmd_touching_words.f a0_0 = some r) :
    Calls Tryz.prog 182 #[.agg #[.string a0_0]] w fun e w' => ∃ v0_ : Value, e = .returned (v0_) ∧ Kd.R Kd.string 9 w' w.heap.size (fun _ => True) v0_ r ∧ Below w.heap.size w w' := by
  have hu89 := Tryz.underlying89
  have HB := Aside0.mk (Below.refl w.heap.size w)
  have H : (some (([(⟨#[116, 111, 117, 99, 104]⟩ : ByteArray), a0_0] : List ByteArray))) = some r := h
  clear h
  obtain ⟨y222, hy222⟩ : ∃ y_ : List ByteArray, y_ = (([(⟨#[116, 111, 117, 99, 104]⟩ : ByteArray), a0_0] : List ByteArray)) := ⟨_, rfl⟩
  replace H : (some y222) = some r := by first | (rw [hy222]; with_reducible exact H) | (have H2_ := (Option.bind_some _ _).symm.trans H; rw [hy222]; with_reducible exact H2_) | (have H2_ := (Option.bind_some _ _).symm.trans H; with_reducible exact H2_) | with_reducible exact H | (rw [hy222]; exact H) | exact H
  have Ny222 := Aside0.mk hy222
  clear hy222
  obtain rfl := Option.some.inj H
  go_enter Tryz.func182, Tryz.ntmps182
  go_wp2_with (first | ((with_reducible refine gate_dst (N := 1) rfl ?_); refine box_event ?hg (N := 1) ?hd (cs := #[.string a0_0]) (t := 89) ?hr ?_; (case hd => rfl); (case hg => rfl); (case hr => first | (go_simp; done) | (go_simp; rfl)); intro gb221 hg w2 hbox hb; have n0_ := Aside0.mk (below_step (by repeat (first | (with_reducible first | exact HB.out | apply below_alloc | apply pw_below_drewN | apply below_drew1) | exact HB.out)) hb); have n1_ := Aside0.mk (hbox); have n2_ := Aside0.mk ((by rw [hg]; exact (below_size (by repeat (first | (with_reducible first | exact HB.out | apply below_alloc | apply pw_below_drewN | apply below_drew1) | exact HB.out))) : w.heap.size ≤ gb221)); have n3_ := Aside0.mk ((by rw [hg]; exact (below_size (by repeat (first | (with_reducible first | exact HB.out | apply below_alloc | apply pw_below_drewN | apply below_drew1) | exact HB.out))) : w.heap.size ≤ gb221)); clear HB; have HB := n0_; have BK221 := n1_; have GW221 := n2_; have GE221 := n3_; clear n0_ n1_ n2_ n3_; clear hb hbox hg; have hcz3_0 : w2.cell? ⟨gb221, 0, none⟩ = some (.string a0_0) := (blk_cell BK221.out 0).trans rfl; have hfz3_0 := blk_frozen BK221.out 0) | ((with_reducible refine gate_dst (N := 5) rfl ?_); refine Kd.R_lit Kd.string _ 9 ?hg (N := 5) ?hd (xs := ([(⟨#[116, 111, 117, 99, 104]⟩ : ByteArray), a0_0] : List ByteArray)) (inner := [.string (⟨#[116, 111, 117, 99, 104]⟩ : ByteArray), .string a0_0]) (ok := fun _ => True) (okp := fun _ => True) ?hr ?hp (fun _ hk => hk) trivial (Below.refl _ _) (Nat.le_refl _) (by simp) ?_; (case hd => rfl); (case hg => rfl); (case hr => first | (go_simp; done) | (go_simp; rfl)); (case hp => exact (Reps.one (show Kd.M Kd.string _ _ _ (⟨#[116, 111, 117, 99, 104]⟩ : ByteArray) [.string (⟨#[116, 111, 117, 99, 104]⟩ : ByteArray)] from rfl) (Reps.one (show Kd.M Kd.string _ _ _ a0_0 [.string a0_0] from rfl) (Reps.none _ _)))); intro v223 w4 ho5 hb hg_ hnew_; clear hg_ hnew_; (first | rw [← Ny222.out] at ho5 | (simp only [Int.reduceToNat] at ho5; rw [← Ny222.out] at ho5)); have n0_ := Aside0.mk (Kd.R_lower ho5 (below_size (by repeat (first | (with_reducible first | exact HB.out | apply below_alloc | apply pw_below_drewN | apply below_drew1 | refine below_set ?_ GE221.out) | exact HB.out)))); have n1_ := Aside0.mk (blk_below (g := gb221) (o := .cells #[.string a0_0] 89 (0, 0)) (by (with_reducible repeat (first | refine blk_drewN ?_ _ | refine blk_drew ?_ | refine blk_alloc ?_ _)); exact BK221.out) hb); have n2_ := Aside0.mk (below_step (by repeat (first | (with_reducible first | exact HB.out | apply below_alloc | apply pw_below_drewN | apply below_drew1 | refine below_set ?_ GE221.out) | exact HB.out)) hb); clear BK221; clear HB; have HO224 := n0_; have BK221 := n1_; have HB := n2_; clear n0_ n1_ n2_; clear hb ho5))
  go_ret
  exact ⟨_, by first | rfl | (simp [errW_none, errW_some] <;> rfl) | (simp [*, errW_none, errW_some] <;> rfl), by (with_reducible repeat (first | apply Kd.R_alloc | apply Kd.R_drewN | apply Kd.R_drew)); exact HO224.out, by repeat (first | (with_reducible first | exact HB.out | apply below_alloc | apply pw_below_drewN | apply below_drew1 | refine below_set ?_ GE221.out) | exact HB.out)⟩

/-! ### cmd_removing_words: function 187 -/
def cmd_removing_words.f (a0_0 : ByteArray) : Option (List ByteArray) := some (([(⟨#[114, 101, 109, 111, 118, 101]⟩ : ByteArray), a0_0] : List ByteArray))
set_option maxHeartbeats 8000000 in
set_option maxRecDepth 100000 in
theorem cmd_removing_words.calls (a0_0 : ByteArray) (r : List ByteArray) (w : World) (h : cmd_removing_words.f a0_0 = some r) :
    Calls Tryz.prog 187 #[.agg #[.string a0_0]] w fun e w' => ∃ v0_ : Value, e = .returned (v0_) ∧ Kd.R Kd.string 9 w' w.heap.size (fun _ => True) v0_ r ∧ Below w.heap.size w w' := by
  have hu90 := Tryz.underlying90
  have HB := Aside0.mk (Below.refl w.heap.size w)
  have H : (some (([(⟨#[114, 101, 109, 111, 118, 101]⟩ : ByteArray), a0_0] : List ByteArray))) = some r := h
  clear h
  obtain ⟨y226, hy226⟩ : ∃ y_ : List ByteArray, y_ = (([(⟨#[114, 101, 109, 111, 118, 101]⟩ : ByteArray), a0_0] : List ByteArray)) := ⟨_, rfl⟩
  replace H : (some y226) = some r := by first | (rw [hy226]; with_reducible exact H) | (have H2_ := (Option.bind_some _ _).symm.trans H; rw [hy226]; with_reducible exact H2_) | (have H2_ := (Option.bind_some _ _).symm.trans H; with_reducible exact H2_) | with_reducible exact H | (rw [hy226]; exact H) | exact H
  have Ny226 := Aside0.mk hy226
  clear hy226
  obtain rfl := Option.some.inj H
  go_enter Tryz.func187, Tryz.ntmps187
  go_wp2_with (first | ((with_reducible refine gate_dst (N := 1) rfl ?_); refine box_event ?hg (N := 1) ?hd (cs := #[.string a0_0]) (t := 90) ?hr ?_; (case hd => rfl); (case hg => rfl); (case hr => first | (go_simp; done) | (go_simp; rfl)); intro gb225 hg w2 hbox hb; have n0_ := Aside0.mk (below_step (by repeat (first | (with_reducible first | exact HB.out | apply below_alloc | apply pw_below_drewN | apply below_drew1) | exact HB.out)) hb); have n1_ := Aside0.mk (hbox); have n2_ := Aside0.mk ((by rw [hg]; exact (below_size (by repeat (first | (with_reducible first | exact HB.out | apply below_alloc | apply pw_below_drewN | apply below_drew1) | exact HB.out))) : w.heap.size ≤ gb225)); have n3_ := Aside0.mk ((by rw [hg]; exact (below_size (by repeat (first | (with_reducible first | exact HB.out | apply below_alloc | apply pw_below_drewN | apply below_drew1) | exact HB.out))) : w.heap.size ≤ gb225)); clear HB; have HB := n0_; have BK225 := n1_; have GW225 := n2_; have GE225 := n3_; clear n0_ n1_ n2_ n3_; clear hb hbox hg; have hcz3_0 : w2.cell? ⟨gb225, 0, none⟩ = some (.string a0_0) := (blk_cell BK225.out 0).trans rfl; have hfz3_0 := blk_frozen BK225.out 0) | ((with_reducible refine gate_dst (N := 5) rfl ?_); refine Kd.R_lit Kd.string _ 9 ?hg (N := 5) ?hd (xs := ([(⟨#[114, 101, 109, 111, 118, 101]⟩ : ByteArray), a0_0] : List ByteArray)) (inner := [.string (⟨#[114, 101, 109, 111, 118, 101]⟩ : ByteArray), .string a0_0]) (ok := fun _ => True) (okp := fun _ => True) ?hr ?hp (fun _ hk => hk) trivial (Below.refl _ _) (Nat.le_refl _) (by simp) ?_; (case hd => rfl); (case hg => rfl); (case hr => first | (go_simp; done) | (go_simp; rfl)); (case hp => exact (Reps.one (show Kd.M Kd.string _ _ _ (⟨#[114, 101, 109, 111, 118, 101]⟩ : ByteArray) [.string (⟨#[114, 101, 109, 111, 118, 101]⟩ : ByteArray)] from rfl) (Reps.one (show Kd.M Kd.string _ _ _ a0_0 [.string a0_0] from rfl) (Reps.none _ _)))); intro v227 w4 ho5 hb hg_ hnew_; clear hg_ hnew_; (first | rw [← Ny226.out] at ho5 | (simp only [Int.reduceToNat] at ho5; rw [← Ny226.out] at ho5)); have n0_ := Aside0.mk (Kd.R_lower ho5 (below_size (by repeat (first | (with_reducible first | exact HB.out | apply below_alloc | apply pw_below_drewN | apply below_drew1 | refine below_set ?_ GE225.out) | exact HB.out)))); have n1_ := Aside0.mk (blk_below (g := gb225) (o := .cells #[.string a0_0] 90 (0, 0)) (by (with_reducible repeat (first | refine blk_drewN ?_ _ | refine blk_drew ?_ | refine blk_alloc ?_ _)); exact BK225.out) hb); have n2_ := Aside0.mk (below_step (by repeat (first | (with_reducible first | exact HB.out | apply below_alloc | apply pw_below_drewN | apply below_drew1 | refine below_set ?_ GE225.out) | exact HB.out)) hb); clear BK225; clear HB; have HO228 := n0_; have BK225 := n1_; have HB := n2_; clear n0_ n1_ n2_; clear hb ho5))
  go_ret
  exact ⟨_, by first | rfl | (simp [errW_none, errW_some] <;> rfl) | (simp [*, errW_none, errW_some] <;> rfl), by (with_reducible repeat (first | apply Kd.R_alloc | apply Kd.R_drewN | apply Kd.R_drew)); exact HO228.out, by repeat (first | (with_reducible first | exact HB.out | apply below_alloc | apply pw_below_drewN | apply below_drew1 | refine below_set ?_ GE225.out) | exact HB.out)⟩

/-! ### cmd_testing_words: function 192 -/
def cmd_testing_words.f (a0_0 : ByteArray) : Option (List ByteArray) := some (([(⟨#[116, 101, 115, 116, 45, 101, 120, 105, 115, 116, 115]⟩ : ByteArray), a0_0] : List ByteArray))
set_option maxHeartbeats 8000000 in
set_option maxRecDepth 100000 in
theorem cmd_testing_words.calls (a0_0 : ByteArray) (r : List ByteArray) (w : World) (h : cmd_testing_words.f a0_0 = some r) :
    Calls Tryz.prog 192 #[.agg #[.string a0_0]] w fun e w' => ∃ v0_ : Value, e = .returned (v0_) ∧ Kd.R Kd.string 9 w' w.heap.size (fun _ => True) v0_ r ∧ Below w.heap.size w w' := by
  have hu92 := Tryz.underlying92
  have HB := Aside0.mk (Below.refl w.heap.size w)
  have H : (some (([(⟨#[116, 101, 115, 116, 45, 101, 120, 105, 115, 116, 115]⟩ : ByteArray), a0_0] : List ByteArray))) = some r := h
  clear h
  obtain ⟨y230, hy230⟩ : ∃ y_ : List ByteArray, y_ = (([(⟨#[116, 101, 115, 116, 45, 101, 120, 105, 115, 116, 115]⟩ : ByteArray), a0_0] : List ByteArray)) := ⟨_, rfl⟩
  replace H : (some y230) = some r := by first | (rw [hy230]; with_reducible exact H) | (have H2_ := (Option.bind_some _ _).symm.trans H; rw [hy230]; with_reducible exact H2_) | (have H2_ := (Option.bind_some _ _).symm.trans H; with_reducible exact H2_) | with_reducible exact H | (rw [hy230]; exact H) | exact H
  have Ny230 := Aside0.mk hy230
  clear hy230
  obtain rfl := Option.some.inj H
  go_enter Tryz.func192, Tryz.ntmps192
  go_wp2_with (first | ((with_reducible refine gate_dst (N := 1) rfl ?_); refine box_event ?hg (N := 1) ?hd (cs := #[.string a0_0]) (t := 92) ?hr ?_; (case hd => rfl); (case hg => rfl); (case hr => first | (go_simp; done) | (go_simp; rfl)); intro gb229 hg w2 hbox hb; have n0_ := Aside0.mk (below_step (by repeat (first | (with_reducible first | exact HB.out | apply below_alloc | apply pw_below_drewN | apply below_drew1) | exact HB.out)) hb); have n1_ := Aside0.mk (hbox); have n2_ := Aside0.mk ((by rw [hg]; exact (below_size (by repeat (first | (with_reducible first | exact HB.out | apply below_alloc | apply pw_below_drewN | apply below_drew1) | exact HB.out))) : w.heap.size ≤ gb229)); have n3_ := Aside0.mk ((by rw [hg]; exact (below_size (by repeat (first | (with_reducible first | exact HB.out | apply below_alloc | apply pw_below_drewN | apply below_drew1) | exact HB.out))) : w.heap.size ≤ gb229)); clear HB; have HB := n0_; have BK229 := n1_; have GW229 := n2_; have GE229 := n3_; clear n0_ n1_ n2_ n3_; clear hb hbox hg; have hcz3_0 : w2.cell? ⟨gb229, 0, none⟩ = some (.string a0_0) := (blk_cell BK229.out 0).trans rfl; have hfz3_0 := blk_frozen BK229.out 0) | ((with_reducible refine gate_dst (N := 5) rfl ?_); refine Kd.R_lit Kd.string _ 9 ?hg (N := 5) ?hd (xs := ([(⟨#[116, 101, 115, 116, 45, 101, 120, 105, 115, 116, 115]⟩ : ByteArray), a0_0] : List ByteArray)) (inner := [.string (⟨#[116, 101, 115, 116, 45, 101, 120, 105, 115, 116, 115]⟩ : ByteArray), .string a0_0]) (ok := fun _ => True) (okp := fun _ => True) ?hr ?hp (fun _ hk => hk) trivial (Below.refl _ _) (Nat.le_refl _) (by simp) ?_; (case hd => rfl); (case hg => rfl); (case hr => first | (go_simp; done) | (go_simp; rfl)); (case hp => exact (Reps.one (show Kd.M Kd.string _ _ _ (⟨#[116, 101, 115, 116, 45, 101, 120, 105, 115, 116, 115]⟩ : ByteArray) [.string (⟨#[116, 101, 115, 116, 45, 101, 120, 105, 115, 116, 115]⟩ : ByteArray)] from rfl) (Reps.one (show Kd.M Kd.string _ _ _ a0_0 [.string a0_0] from rfl) (Reps.none _ _)))); intro v231 w4 ho5 hb hg_ hnew_; clear hg_ hnew_; (first | rw [← Ny230.out] at ho5 | (simp only [Int.reduceToNat] at ho5; rw [← Ny230.out] at ho5)); have n0_ := Aside0.mk (Kd.R_lower ho5 (below_size (by repeat (first | (with_reducible first | exact HB.out | apply below_alloc | apply pw_below_drewN | apply below_drew1 | refine below_set ?_ GE229.out) | exact HB.out)))); have n1_ := Aside0.mk (blk_below (g := gb229) (o := .cells #[.string a0_0] 92 (0, 0)) (by (with_reducible repeat (first | refine blk_drewN ?_ _ | refine blk_drew ?_ | refine blk_alloc ?_ _)); exact BK229.out) hb); have n2_ := Aside0.mk (below_step (by repeat (first | (with_reducible first | exact HB.out | apply below_alloc | apply pw_below_drewN | apply below_drew1 | refine below_set ?_ GE229.out) | exact HB.out)) hb); clear BK229; clear HB; have HO232 := n0_; have BK229 := n1_; have HB := n2_; clear n0_ n1_ n2_; clear hb ho5))
  go_ret
  exact ⟨_, by first | rfl | (simp [errW_none, errW_some] <;> rfl) | (simp [*, errW_none, errW_some] <;> rfl), by (with_reducible repeat (first | apply Kd.R_alloc | apply Kd.R_drewN | apply Kd.R_drew)); exact HO232.out, by repeat (first | (with_reducible first | exact HB.out | apply below_alloc | apply pw_below_drewN | apply below_drew1 | refine below_set ?_ GE229.out) | exact HB.out)⟩

-- NOT PRINTED: function 86 (strconv_small)

-- NOT PRINTED: function 100 (strconv_log10Pow2)

-- NOT PRINTED: function 101 (bits_Len64)

-- NOT PRINTED: function 102 (strconv_bool2_int)

-- NOT PRINTED: function 87 (strconv_numDigits)

-- NOT PRINTED: function 88 (strconv_formatBase10)

-- NOT PRINTED: function 103 (strconv_isPowerOfTwo)

-- NOT PRINTED: function 111 (bits_TrailingZeros32)

-- NOT PRINTED: function 112 (bits_TrailingZeros64)

-- NOT PRINTED: function 104 (bits_TrailingZeros)

-- NOT PRINTED: function 89 (strconv_formatBits)

-- NOT PRINTED: function 70 (strconv_FormatInt)

-- NOT PRINTED: function 53 (strconv_Itoa_53)

/-! ### strconv_Itoa_35: function 35 -/
open Go.Proofs.YtpiafpkpdbknfaaGreatDoor.Sup
def strconv_Itoa_35.f (a0 : Int) : Option ByteArray := if -9223372036854775808 ≤ a0 ∧ a0 ≤ 9223372036854775807 then some ⟨(Lib.itoa a0).toArray⟩ else none
theorem strconv_Itoa_35.calls (a0 : Int) (r : ByteArray) (w : World) (hT : Go.Proofs.YtpiafpkpdbknfaaGreatDoor.Sup.Tab w) (h : strconv_Itoa_35.f a0 = some r) :
    Calls Tryz.prog 35 #[.int .i64 a0] w fun e w' => e = .returned (.string r) ∧ Below w.heap.size w w' := by
  unfold strconv_Itoa_35.f at h
  split at h
  · rename_i hb
    obtain rfl := Option.some.inj h
    exact itoa_call a0 hb.1 hb.2 w hT
  · cases h

/-! ### cmd_failing_words: function 197 -/
def cmd_failing_words.f (a0_0 : Int) : Option (List ByteArray) := if a0_0 = 1 then (some (([(⟨#[102, 97, 105, 108]⟩ : ByteArray)] : List ByteArray))) else ((strconv_Itoa_35.f a0_0).bind fun t237 => (some (([(⟨#[102, 97, 105, 108]⟩ : ByteArray), t237] : List ByteArray))))
set_option maxHeartbeats 8000000 in
set_option maxRecDepth 100000 in
theorem cmd_failing_words.calls (a0_0 : Int) (r : List ByteArray) (w : World) (hT : Go.Proofs.YtpiafpkpdbknfaaGreatDoor.Sup.Tab w) (h : cmd_failing_words.f a0_0 = some r) :
    Calls Tryz.prog 197 #[.agg #[.int .i64 a0_0]] w fun e w' => ∃ v0_ : Value, e = .returned (v0_) ∧ Kd.R Kd.string 9 w' w.heap.size (fun _ => True) v0_ r ∧ Below w.heap.size w w' := by
  have hu94 := Tryz.underlying94
  have HT := Aside0.mk hT
  clear hT
  have HB := Aside0.mk (Below.refl w.heap.size w)
  have H : (if a0_0 = 1 then (some (([(⟨#[102, 97, 105, 108]⟩ : ByteArray)] : List ByteArray))) else ((strconv_Itoa_35.f a0_0).bind fun t237 => (some (([(⟨#[102, 97, 105, 108]⟩ : ByteArray), t237] : List ByteArray))))) = some r := h
  clear h
  by_cases c2 : a0_0 = 1
  · rw [if_pos c2] at H
    have c2b0 : (a0_0 == 1) = true := beq_iff_eq.mpr c2
    have c2b1 : (a0_0 != 1) = false := bne_eq_false_iff_eq.mpr c2
    clear c2
    obtain ⟨y234, hy234⟩ : ∃ y_ : List ByteArray, y_ = (([(⟨#[102, 97, 105, 108]⟩ : ByteArray)] : List ByteArray)) := ⟨_, rfl⟩
    replace H : (some y234) = some r := by first | (rw [hy234]; with_reducible exact H) | (have H2_ := (Option.bind_some _ _).symm.trans H; rw [hy234]; with_reducible exact H2_) | (have H2_ := (Option.bind_some _ _).symm.trans H; with_reducible exact H2_) | with_reducible exact H | (rw [hy234]; exact H) | exact H
    have Ny234 := Aside0.mk hy234
    clear hy234
    obtain rfl := Option.some.inj H
    go_enter Tryz.func197, Tryz.ntmps197
    go_wp2_with (first | ((with_reducible refine gate_dst (N := 1) rfl ?_); refine box_event ?hg (N := 1) ?hd (cs := #[.int .i64 a0_0]) (t := 94) ?hr ?_; (case hd => rfl); (case hg => rfl); (case hr => first | (go_simp; done) | (go_simp; rfl)); intro gb233 hg w3 hbox hb; have n0_ := Aside0.mk (below_step (by repeat (first | (with_reducible first | exact HB.out | apply below_alloc | apply pw_below_drewN | apply below_drew1) | exact HB.out)) hb); have n1_ := Aside0.mk (hbox); have n2_ := Aside0.mk ((by rw [hg]; exact (below_size (by repeat (first | (with_reducible first | exact HB.out | apply below_alloc | apply pw_below_drewN | apply below_drew1) | exact HB.out))) : w.heap.size ≤ gb233)); have n3_ := Aside0.mk ((by rw [hg]; exact (below_size (by repeat (first | (with_reducible first | exact HB.out | apply below_alloc | apply pw_below_drewN | apply below_drew1) | exact HB.out))) : w.heap.size ≤ gb233)); clear HB; have HB := n0_; have BK233 := n1_; have GW233 := n2_; have GE233 := n3_; clear n0_ n1_ n2_ n3_; clear hb hbox hg; have hcz4_0 : w3.cell? ⟨gb233, 0, none⟩ = some (.int .i64 a0_0) := (blk_cell BK233.out 0).trans rfl; have hfz4_0 := blk_frozen BK233.out 0) | ((with_reducible refine gate_dst (N := 6) rfl ?_); refine Kd.R_lit Kd.string _ 9 ?hg (N := 6) ?hd (xs := ([(⟨#[102, 97, 105, 108]⟩ : ByteArray)] : List ByteArray)) (inner := [.string (⟨#[102, 97, 105, 108]⟩ : ByteArray)]) (ok := fun _ => True) (okp := fun _ => True) ?hr ?hp (fun _ hk => hk) trivial (Below.refl _ _) (Nat.le_refl _) (by simp) ?_; (case hd => rfl); (case hg => rfl); (case hr => first | (go_simp; done) | (go_simp; rfl)); (case hp => exact (Reps.one (show Kd.M Kd.string _ _ _ (⟨#[102, 97, 105, 108]⟩ : ByteArray) [.string (⟨#[102, 97, 105, 108]⟩ : ByteArray)] from rfl) (Reps.none _ _))); intro v235 w5 ho6 hb hg_ hnew_; clear hg_ hnew_; (first | rw [← Ny234.out] at ho6 | (simp only [Int.reduceToNat] at ho6; rw [← Ny234.out] at ho6)); have n0_ := Aside0.mk (Kd.R_lower ho6 (below_size (by repeat (first | (with_reducible first | exact HB.out | apply below_alloc | apply pw_below_drewN | apply below_drew1 | refine below_set ?_ GE233.out) | exact HB.out)))); have n1_ := Aside0.mk (blk_below (g := gb233) (o := .cells #[.int .i64 a0_0] 94 (0, 0)) (by (with_reducible repeat (first | refine blk_drewN ?_ _ | refine blk_drew ?_ | refine blk_alloc ?_ _)); exact BK233.out) hb); have n2_ := Aside0.mk (below_step (by repeat (first | (with_reducible first | exact HB.out | apply below_alloc | apply pw_below_drewN | apply below_drew1 | refine below_set ?_ GE233.out) | exact HB.out)) hb); clear BK233; clear HB; have HO236 := n0_; have BK233 := n1_; have HB := n2_; clear n0_ n1_ n2_; clear hb ho6))
    go_ret
    exact ⟨_, by first | rfl | (simp [errW_none, errW_some] <;> rfl) | (simp [*, errW_none, errW_some] <;> rfl), by (with_reducible repeat (first | apply Kd.R_alloc | apply Kd.R_drewN | apply Kd.R_drew)); exact HO236.out, by repeat (first | (with_reducible first | exact HB.out | apply below_alloc | apply pw_below_drewN | apply below_drew1 | refine below_set ?_ GE233.out) | exact HB.out)⟩
  · rw [if_neg c2] at H
    have c2b0 : (a0_0 == 1) = false := beq_eq_false_iff_ne.mpr c2
    have c2b1 : (a0_0 != 1) = true := bne_iff_ne.mpr c2
    replace H := Option.bind_eq_some_iff.mp H
    obtain ⟨t237, A70, H⟩ := H
    replace H : (some (([(⟨#[102, 97, 105, 108]⟩ : ByteArray), t237] : List ByteArray))) = some r := H
    have A7 := Aside0.mk A70
    clear A70
    obtain ⟨y238, hy238⟩ : ∃ y_ : List ByteArray, y_ = (([(⟨#[102, 97, 105, 108]⟩ : ByteArray), t237] : List ByteArray)) := ⟨_, rfl⟩
    replace H : (some y238) = some r := by first | (rw [hy238]; with_reducible exact H) | (have H2_ := (Option.bind_some _ _).symm.trans H; rw [hy238]; with_reducible exact H2_) | (have H2_ := (Option.bind_some _ _).symm.trans H; with_reducible exact H2_) | with_reducible exact H | (rw [hy238]; exact H) | exact H
    have Ny238 := Aside0.mk hy238
    clear hy238
    obtain rfl := Option.some.inj H
    go_enter Tryz.func197, Tryz.ntmps197
    go_wp2_with (first | ((with_reducible refine gate_dst (N := 1) rfl ?_); refine box_event ?hg (N := 1) ?hd (cs := #[.int .i64 a0_0]) (t := 94) ?hr ?_; (case hd => rfl); (case hg => rfl); (case hr => first | (go_simp; done) | (go_simp; rfl)); intro gb233 hg w8 hbox hb; have n0_ := Aside0.mk (below_step (by repeat (first | (with_reducible first | exact HB.out | apply below_alloc | apply pw_below_drewN | apply below_drew1) | exact HB.out)) hb); have n1_ := Aside0.mk (hbox); have n2_ := Aside0.mk ((by rw [hg]; exact (below_size (by repeat (first | (with_reducible first | exact HB.out | apply below_alloc | apply pw_below_drewN | apply below_drew1) | exact HB.out))) : w.heap.size ≤ gb233)); have n3_ := Aside0.mk ((by rw [hg]; exact (below_size (by repeat (first | (with_reducible first | exact HB.out | apply below_alloc | apply pw_below_drewN | apply below_drew1) | exact HB.out))) : w.heap.size ≤ gb233)); clear HB; have HB := n0_; have BK233 := n1_; have GW233 := n2_; have GE233 := n3_; clear n0_ n1_ n2_ n3_; clear hb hbox hg; have hcz9_0 : w8.cell? ⟨gb233, 0, none⟩ = some (.int .i64 a0_0) := (blk_cell BK233.out 0).trans rfl; have hfz9_0 := blk_frozen BK233.out 0) | ((with_reducible refine gate_callee (f := 35) rfl ?_); refine goesL_ (some 9) rfl rfl Tryz.func35 (by kernel_rfl) rfl #[.int .i64 a0_0] rfl (by (try simp only [List.map_toArray, List.map_cons, List.map_nil]); first | done | rfl | (simp only [List.length_drop, List.length_take]; rfl)) ?_; (with_reducible refine (strconv_Itoa_35.calls a0_0 t237 _ ?side1 A7.out).mono ?_); (case side1 => exact Go.Proofs.YtpiafpkpdbknfaaGreatDoor.Sup.Tab.below HT.out (by repeat (first | (with_reducible first | exact HB.out | apply below_alloc | apply pw_below_drewN | apply below_drew1 | refine below_set ?_ GE233.out) | exact HB.out))); rintro e w10 ⟨rfl, hb⟩; refine ⟨_, rfl, ?_⟩; have n0_ := Aside0.mk (blk_below (g := gb233) (o := .cells #[.int .i64 a0_0] 94 (0, 0)) (by (with_reducible repeat (first | refine blk_drewN ?_ _ | refine blk_drew ?_ | refine blk_alloc ?_ _)); exact BK233.out) hb); have n1_ := Aside0.mk (below_step (by repeat (first | (with_reducible first | exact HB.out | apply below_alloc | apply pw_below_drewN | apply below_drew1 | refine below_set ?_ GE233.out) | exact HB.out)) hb); clear BK233; clear HB; have BK233 := n0_; have HB := n1_; clear n0_ n1_; (try clear hb); (try clear hb2); (try clear hk); (try clear hi)) | ((with_reducible refine gate_dst (N := 10) rfl ?_); refine Kd.R_lit Kd.string _ 9 ?hg (N := 10) ?hd (xs := ([(⟨#[102, 97, 105, 108]⟩ : ByteArray), t237] : List ByteArray)) (inner := [.string (⟨#[102, 97, 105, 108]⟩ : ByteArray), .string t237]) (ok := fun _ => True) (okp := fun _ => True) ?hr ?hp (fun _ hk => hk) trivial (Below.refl _ _) (Nat.le_refl _) (by simp) ?_; (case hd => rfl); (case hg => rfl); (case hr => first | (go_simp; done) | (go_simp; rfl)); (case hp => exact (Reps.one (show Kd.M Kd.string _ _ _ (⟨#[102, 97, 105, 108]⟩ : ByteArray) [.string (⟨#[102, 97, 105, 108]⟩ : ByteArray)] from rfl) (Reps.one (show Kd.M Kd.string _ _ _ t237 [.string t237] from rfl) (Reps.none _ _)))); intro v239 w11 ho12 hb hg_ hnew_; clear hg_ hnew_; (first | rw [← Ny238.out] at ho12 | (simp only [Int.reduceToNat] at ho12; rw [← Ny238.out] at ho12)); have n0_ := Aside0.mk (Kd.R_lower ho12 (below_size (by repeat (first | (with_reducible first | exact HB.out | apply below_alloc | apply pw_below_drewN | apply below_drew1 | refine below_set ?_ GE233.out) | exact HB.out)))); have n1_ := Aside0.mk (blk_below (g := gb233) (o := .cells #[.int .i64 a0_0] 94 (0, 0)) (by (with_reducible repeat (first | refine blk_drewN ?_ _ | refine blk_drew ?_ | refine blk_alloc ?_ _)); exact BK233.out) hb); have n2_ := Aside0.mk (below_step (by repeat (first | (with_reducible first | exact HB.out | apply below_alloc | apply pw_below_drewN | apply below_drew1 | refine below_set ?_ GE233.out) | exact HB.out)) hb); clear BK233; clear HB; have HO240 := n0_; have BK233 := n1_; have HB := n2_; clear n0_ n1_ n2_; clear hb ho12))
    go_ret
    exact ⟨_, by first | rfl | (simp [errW_none, errW_some] <;> rfl) | (simp [*, errW_none, errW_some] <;> rfl), by (with_reducible repeat (first | apply Kd.R_alloc | apply Kd.R_drewN | apply Kd.R_drew)); exact HO240.out, by repeat (first | (with_reducible first | exact HB.out | apply below_alloc | apply pw_below_drewN | apply below_drew1 | refine below_set ?_ GE233.out) | exact HB.out)⟩

/-! ### cmd_saying_words: function 202 -/
def cmd_saying_words.f (l0_0 : List ByteArray) : Option (List ByteArray) := (some (([(⟨#[115, 97, 121]⟩ : ByteArray)] : List ByteArray) : List ByteArray)).bind fun y242 => (if y242.length + l0_0.length < 8796093022208 then (some (y242 ++ l0_0)) else (none))
set_option maxHeartbeats 8000000 in
set_option maxRecDepth 100000 in
theorem cmd_saying_words.calls (A0_0 : Option Addr) (c0_0 : Nat) (l0_0 : List ByteArray) (r : List ByteArray) (w : World) (hr0_0 : Kd.C Kd.string w A0_0 l0_0.length l0_0) (hc0_0 : l0_0.length ≤ c0_0) (h : cmd_saying_words.f l0_0 = some r) :
    Calls Tryz.prog 202 #[.agg #[.slice A0_0 l0_0.length c0_0]] w fun e w' => ∃ v0_ : Value, e = .returned (v0_) ∧ Kd.R Kd.string 9 w' w.heap.size (fun _ => True) v0_ r ∧ Below w.heap.size w w' := by
  have hu96 := Tryz.underlying96
  have HR0_0 := Aside0.mk hr0_0
  have HC0_0 := Aside0.mk hc0_0
  clear hr0_0 hc0_0
  have HB := Aside0.mk (Below.refl w.heap.size w)
  have H : ((some (([(⟨#[115, 97, 121]⟩ : ByteArray)] : List ByteArray) : List ByteArray)).bind fun y242 => (if y242.length + l0_0.length < 8796093022208 then (some (y242 ++ l0_0)) else (none))) = some r := h
  clear h
  obtain ⟨y242, hy242⟩ : ∃ y_ : List ByteArray, y_ = (([(⟨#[115, 97, 121]⟩ : ByteArray)] : List ByteArray)) := ⟨_, rfl⟩
  replace H : (if y242.length + l0_0.length < 8796093022208 then (some (y242 ++ l0_0)) else (none)) = some r := by first | (rw [hy242]; with_reducible exact H) | (have H2_ := (Option.bind_some _ _).symm.trans H; rw [hy242]; with_reducible exact H2_) | (have H2_ := (Option.bind_some _ _).symm.trans H; with_reducible exact H2_) | with_reducible exact H | (rw [hy242]; exact H) | exact H
  have Ny242 := Aside0.mk hy242
  clear hy242
  by_cases c2 : y242.length + l0_0.length < 8796093022208
  · rw [if_pos c2] at H
    have LMc2 := Aside0.mk c2
    clear c2
    obtain ⟨y245, hy245⟩ : ∃ y_ : List ByteArray, y_ = (y242 ++ l0_0) := ⟨_, rfl⟩
    replace H : (some y245) = some r := by first | (rw [hy245]; with_reducible exact H) | (have H2_ := (Option.bind_some _ _).symm.trans H; rw [hy245]; with_reducible exact H2_) | (have H2_ := (Option.bind_some _ _).symm.trans H; with_reducible exact H2_) | with_reducible exact H | (rw [hy245]; exact H) | exact H
    have Ny245 := Aside0.mk hy245
    clear hy245
    obtain rfl := Option.some.inj H
    go_enter Tryz.func202, Tryz.ntmps202
    go_wp2_with (first | ((with_reducible refine gate_dst (N := 1) rfl ?_); refine box_event ?hg (N := 1) ?hd (cs := #[.slice A0_0 l0_0.length c0_0]) (t := 96) ?hr ?_; (case hd => rfl); (case hg => rfl); (case hr => first | (go_simp; done) | (go_simp; rfl)); intro gb241 hg w3 hbox hb; have n0_ := Aside0.mk (below_step (by repeat (first | (with_reducible first | exact HB.out | apply below_alloc | apply pw_below_drewN | apply below_drew1) | exact HB.out)) hb); have n1_ := Aside0.mk (hbox); have n2_ := Aside0.mk ((by rw [hg]; exact (below_size (by repeat (first | (with_reducible first | exact HB.out | apply below_alloc | apply pw_below_drewN | apply below_drew1) | exact HB.out))) : w.heap.size ≤ gb241)); have n3_ := Aside0.mk ((by rw [hg]; exact (below_size (by repeat (first | (with_reducible first | exact HB.out | apply below_alloc | apply pw_below_drewN | apply below_drew1) | exact HB.out))) : w.heap.size ≤ gb241)); clear HB; have HB := n0_; have BK241 := n1_; have GW241 := n2_; have GE241 := n3_; clear n0_ n1_ n2_ n3_; clear hb hbox hg) | ((with_reducible refine gate_dst (N := 3) rfl ?_); refine Kd.R_lit Kd.string _ 9 ?hg (N := 3) ?hd (xs := ([(⟨#[115, 97, 121]⟩ : ByteArray)] : List ByteArray)) (inner := [.string (⟨#[115, 97, 121]⟩ : ByteArray)]) (ok := fun _ => True) (okp := fun _ => True) ?hr ?hp (fun _ hk => hk) trivial (Below.refl _ _) (Nat.le_refl _) (by simp) ?_; (case hd => rfl); (case hg => rfl); (case hr => first | (go_simp; done) | (go_simp; rfl)); (case hp => exact (Reps.one (show Kd.M Kd.string _ _ _ (⟨#[115, 97, 121]⟩ : ByteArray) [.string (⟨#[115, 97, 121]⟩ : ByteArray)] from rfl) (Reps.none _ _))); intro v243 w4 ho5 hb hg_ hnew_; clear hg_ hnew_; (first | rw [← Ny242.out] at ho5 | (simp only [Int.reduceToNat] at ho5; rw [← Ny242.out] at ho5)); have n0_ := Aside0.mk (Kd.R_lower ho5 (below_size (by repeat (first | (with_reducible first | exact HB.out | apply below_alloc | apply pw_below_drewN | apply below_drew1 | refine below_set ?_ GE241.out) | exact HB.out)))); have n1_ := Aside0.mk (blk_below (g := gb241) (o := .cells #[.slice A0_0 l0_0.length c0_0] 96 (0, 0)) (by (with_reducible repeat (first | refine blk_drewN ?_ _ | refine blk_drew ?_ | refine blk_alloc ?_ _)); exact BK241.out) hb); have n2_ := Aside0.mk (below_step (by repeat (first | (with_reducible first | exact HB.out | apply below_alloc | apply pw_below_drewN | apply below_drew1 | refine below_set ?_ GE241.out) | exact HB.out)) hb); clear BK241; clear HB; have HO244 := n0_; have BK241 := n1_; have HB := n2_; clear n0_ n1_ n2_; clear hb ho5; have hcz6_0 : w4.cell? ⟨gb241, 0, none⟩ = some (.slice A0_0 l0_0.length c0_0) := (blk_cell BK241.out 0).trans rfl; have hfz6_0 := blk_frozen BK241.out 0) | ((with_reducible refine gate_builtin (b := .append) (xs := #[.tmp 3, .tmp 5]) rfl ?_); at_builtin; refine Kd.R_append_rows Kd.string (w0 := w) w.heap.size rfl (.tmp 3) (.tmp 5) 22 9 (.string ⟨#[]⟩) 16 rfl Tryz.underlying22 info9 rfl (by decide) (by omega) v243 y242 l0_0 _ _ _ (fun _ => True) (fun _ => False) rfl rfl ?aO ?aR (fun _ _ h => h) (fun _ h => h.elim) ?aF ?aB ?aS ?aL ?_; (case aR => repeat (first | exact (Kd.C_below HR0_0.out HB.out) | (with_reducible refine Kd.C_alloc ?_ _) | (with_reducible refine Kd.C_drewN ?_ _) | (with_reducible refine Kd.C_drew ?_))); (case aB => exact (by repeat (first | (with_reducible first | exact HB.out | apply below_alloc | apply pw_below_drewN | apply below_drew1 | refine below_set ?_ GE241.out) | exact HB.out))); (case aF => exact (fun _ _ => trivial)); (case aO => exact (by (with_reducible repeat (first | apply Kd.R_alloc | apply Kd.R_drewN | apply Kd.R_drew)); exact HO244.out)); (case aS => exact (below_size (by repeat (first | (with_reducible first | exact HB.out | apply below_alloc | apply pw_below_drewN | apply below_drew1 | refine below_set ?_ GE241.out) | exact HB.out)))); (case aL => have := LMc2.out; omega); intro v246 w7 ho hb hg hat; rw [← Ny245.out] at ho; have n0_ := Aside0.mk (blk_grown (g := gb241) (o := .cells #[.slice A0_0 l0_0.length c0_0] 96 (0, 0)) (by (with_reducible repeat (first | refine blk_drewN ?_ _ | refine blk_drew ?_ | refine blk_alloc ?_ _)); exact BK241.out) hg (Kd.R_ne HO244.out BK241.out (by decide))); have n1_ := Aside0.mk (hb); have n2_ := Aside0.mk (ho); clear BK241; clear HB; clear HO244; have BK241 := n0_; have HB := n1_; have HO247 := n2_; clear n0_ n1_ n2_; clear ho hb hg hat))
    go_ret
    exact ⟨_, by first | rfl | (simp [errW_none, errW_some] <;> rfl) | (simp [*, errW_none, errW_some] <;> rfl), by (with_reducible repeat (first | apply Kd.R_alloc | apply Kd.R_drewN | apply Kd.R_drew)); exact HO247.out, by repeat (first | (with_reducible first | exact HB.out | apply below_alloc | apply pw_below_drewN | apply below_drew1 | refine below_set ?_ GE241.out) | exact HB.out)⟩
  · rw [if_neg c2] at H
    exact absurd H (by simp)

/-! ### cmd_Words: function 18 -/
open Go.Proofs.YtpiafpkpdbknfaaGreatDoor.Sup
def cmd_Words.of (k : Nat) (j : Nat) (dst : ByteArray) (src words : List ByteArray) (st : Int) : Option (List ByteArray) :=
  match j with
  | 1 => cmd_copying_words.f (src.headD ByteArray.empty) dst
  | 2 => cmd_joining_words.f dst src
  | 3 => cmd_echoing_words.f dst words
  | 4 => cmd_touching_words.f dst
  | 5 => cmd_removing_words.f dst
  | 6 => cmd_testing_words.f (src.headD ByteArray.empty)
  | 7 => cmd_failing_words.f st
  | 8 => cmd_saying_words.f words
  | _ => none
def cmd_Words.f (k : Nat) (op : Int) (dst : ByteArray) (src words : List ByteArray) (st : Int) : Option (List ByteArray × Int) :=
  (cmd_Check.f k op dst src words st).bind fun e => if e = 0 then (cmd_Words.of k (cmd_Check.shape op dst src words st) dst src words st).bind fun r => some (r, 0) else some ([], e)
def cmd_Words.mfn (j : Nat) : Nat := match j with | 1 => 162 | 2 => 167 | 3 => 175 | 4 => 182 | 5 => 187 | 6 => 192 | 7 => 197 | _ => 202
theorem cmd_Words.meth_ {k : Nat} {dst : ByteArray} {src words : List ByteArray} {st : Int} {r : List ByteArray} (base : Nat) (w : World) (hT : Go.Proofs.YtpiafpkpdbknfaaGreatDoor.Sup.Tab w) (j : Nat) (h : cmd_Words.of k j dst src words st = some r) :
    Meth (cmd_Words.mfn j) (cmd_Check.obj j base dst src words st) w (fun w' v => Kd.V Kd.string 9 w' 0 (fun k_ => w.heap.size ≤ k_) v r) := by
  match j, h with
  | 1, h =>
    intro W o hq hb
    obtain rfl : o = _ := hq
    exact (cmd_copying_words.calls _ _ r W h).mono fun e w' ⟨v, he, hR, hB⟩ => ⟨⟨v, he, v_keep hR hb.size (fun _ _ _ => rfl)⟩, hB⟩
  | 2, h =>
    intro W o hq hb
    obtain ⟨A, c, rfl, hv⟩ := hq
    obtain ⟨hC, hl⟩ := cmd_Check.vc_ hv
    exact (cmd_joining_words.calls _ A c _ r W hC hl h).mono fun e w' ⟨v, he, hR, hB⟩ => ⟨⟨v, he, v_keep hR hb.size (fun _ _ _ => rfl)⟩, hB⟩
  | 3, h =>
    intro W o hq hb
    obtain ⟨A, c, rfl, hv⟩ := hq
    obtain ⟨hC, hl⟩ := cmd_Check.vc_ hv
    exact (cmd_echoing_words.calls _ A c _ r W hC hl h).mono fun e w' ⟨v, he, hR, hB⟩ => ⟨⟨v, he, v_keep hR hb.size (fun _ _ _ => rfl)⟩, hB⟩
  | 4, h =>
    intro W o hq hb
    obtain rfl : o = _ := hq
    exact (cmd_touching_words.calls _ r W h).mono fun e w' ⟨v, he, hR, hB⟩ => ⟨⟨v, he, v_keep hR hb.size (fun _ _ _ => rfl)⟩, hB⟩
  | 5, h =>
    intro W o hq hb
    obtain rfl : o = _ := hq
    exact (cmd_removing_words.calls _ r W h).mono fun e w' ⟨v, he, hR, hB⟩ => ⟨⟨v, he, v_keep hR hb.size (fun _ _ _ => rfl)⟩, hB⟩
  | 6, h =>
    intro W o hq hb
    obtain rfl : o = _ := hq
    exact (cmd_testing_words.calls _ r W h).mono fun e w' ⟨v, he, hR, hB⟩ => ⟨⟨v, he, v_keep hR hb.size (fun _ _ _ => rfl)⟩, hB⟩
  | 7, h =>
    intro W o hq hb
    obtain rfl : o = _ := hq
    exact (cmd_failing_words.calls _ r W (Tab.below hT hb) h).mono fun e w' ⟨v, he, hR, hB⟩ => ⟨⟨v, he, v_keep hR hb.size (fun _ _ _ => rfl)⟩, hB⟩
  | 8, h =>
    intro W o hq hb
    obtain ⟨A, c, rfl, hv⟩ := hq
    obtain ⟨hC, hl⟩ := cmd_Check.vc_ hv
    exact (cmd_saying_words.calls A c _ r W hC hl h).mono fun e w' ⟨v, he, hR, hB⟩ => ⟨⟨v, he, v_keep hR hb.size (fun _ _ _ => rfl)⟩, hB⟩
  | 0, h => cases h
  | n + 9, h => cases h
theorem cmd_Words.calls (k : Nat) (a0_0 : Int) (a0_1 : ByteArray) (A0_2 : Option Addr) (c0_2 : Nat) (l0_2 : List ByteArray) (A0_3 : Option Addr) (c0_3 : Nat) (l0_3 : List ByteArray) (a0_4 : Int) (r1 : List ByteArray) (r2 : Int) (w : World) (hr0_2 : Kd.C Kd.string w A0_2 l0_2.length l0_2) (hc0_2 : l0_2.length ≤ c0_2) (hr0_3 : Kd.C Kd.string w A0_3 l0_3.length l0_3) (hc0_3 : l0_3.length ≤ c0_3) (hT : Go.Proofs.YtpiafpkpdbknfaaGreatDoor.Sup.Tab w) (h : cmd_Words.f k a0_0 a0_1 l0_2 l0_3 a0_4 = some (r1, r2)) :
    Calls Tryz.prog 18 #[.agg #[.int .i64 a0_0, .string a0_1, .slice A0_2 l0_2.length c0_2, .slice A0_3 l0_3.length c0_3, .int .i64 a0_4]] w fun e w' => ∃ v0_ : Value, e = .returned (.tuple #[v0_, .int .i64 r2]) ∧ Kd.V Kd.string 9 w' w.heap.size (fun k_ => (w.heap.size ≤ k_)) v0_ r1 ∧ Below w.heap.size w w' := by
  unfold cmd_Words.f at h
  replace h := Option.bind_eq_some_iff.1 h
  obtain ⟨e, he, h⟩ := h
  have ht := cmd_Check.told_ k a0_0 a0_1 A0_2 c0_2 l0_2 A0_3 c0_3 l0_3 a0_4 e w hr0_2 hc0_2 hr0_3 hc0_3 he
  split at h
  · rename_i e0
    obtain ⟨hj, hG⟩ := ht.1 e0
    have hle := cmd_Check.shape_le a0_0 a0_1 l0_2 l0_3 a0_4
    replace h := Option.bind_eq_some_iff.1 h
    obtain ⟨q, hq, h⟩ := h
    cases h
    have hM := cmd_Words.meth_ w.heap.size w hT _ hq
    generalize cmd_Check.shape a0_0 a0_1 l0_2 l0_3 a0_4 = j at hG hM hj hle
    have hS := cmd_Check.stays j w.heap.size a0_1 l0_2 l0_3 a0_4
    suffices hh : Calls Tryz.prog 18 #[.agg #[.int .i64 a0_0, .string a0_1, .slice A0_2 l0_2.length c0_2, .slice A0_3 l0_3.length c0_3, .int .i64 a0_4]] w fun e w' => (∃ v, e = .returned (.tuple #[v, .int .i64 0]) ∧ Kd.V Kd.string 9 w' 0 (fun k_ => w.heap.size ≤ k_) v r1) ∧ Below w.heap.size w w' from hh.mono fun e w' ⟨⟨v, he, hv⟩, hB⟩ => ⟨v, he, hv, hB⟩
    match j, hj, hle with
    | 1, _, _ => exact words_1 hS a0_0 a0_1 _ _ a0_4 w hG hM
    | 2, _, _ => exact words_2 hS a0_0 a0_1 _ _ a0_4 w hG hM
    | 3, _, _ => exact words_3 hS a0_0 a0_1 _ _ a0_4 w hG hM
    | 4, _, _ => exact words_4 hS a0_0 a0_1 _ _ a0_4 w hG hM
    | 5, _, _ => exact words_5 hS a0_0 a0_1 _ _ a0_4 w hG hM
    | 6, _, _ => exact words_6 hS a0_0 a0_1 _ _ a0_4 w hG hM
    | 7, _, _ => exact words_7 hS a0_0 a0_1 _ _ a0_4 w hG hM
    | 8, _, _ => exact words_8 hS a0_0 a0_1 _ _ a0_4 w hG hM
    | n + 9, _, h => omega
  · rename_i e0
    cases h
    exact (words_none a0_0 a0_1 _ _ a0_4 w (bne_iff_ne.2 e0) (beq_eq_false_iff_ne.2 e0) (ht.2 e0)).mono fun e w' ⟨he, hB⟩ => ⟨_, he, Kd.V_nil _ _ _ _ _, hB⟩

-- NOT PRINTED: function 79 (strings_NewReplacer)

-- NOT PRINTED: function 113 (atomic_LoadUint32)

-- NOT PRINTED: function 107 (atomic_Bool_Load)

-- NOT PRINTED: function 125 (race_Disable)

-- NOT PRINTED: function 126 (atomic_CompareAndSwapInt32)

-- NOT PRINTED: function 127 (race_Enable)

-- NOT PRINTED: function 128 (race_Acquire)

-- NOT PRINTED: function 131 (atomic_AddInt32)

-- NOT PRINTED: function 135 (sync_runtime_canSpin)

-- NOT PRINTED: function 136 (sync_runtime_doSpin)

-- NOT PRINTED: function 137 (sync_throw)

-- NOT PRINTED: function 138 (sync_runtime_nanotime)

-- NOT PRINTED: function 139 (sync_runtime_SemacquireMutex)

-- NOT PRINTED: function 129 (sync_Mutex_lockSlow)

-- NOT PRINTED: function 119 (sync_Mutex_Lock_119)

-- NOT PRINTED: function 114 (sync_Mutex_Lock_114)

-- NOT PRINTED: function 130 (race_ReleaseMerge)

-- NOT PRINTED: function 140 (sync_fatal)

-- NOT PRINTED: function 141 (sync_runtime_Semrelease)

-- NOT PRINTED: function 132 (sync_Mutex_unlockSlow)

-- NOT PRINTED: function 120 (sync_Mutex_Unlock_120)

-- NOT PRINTED: function 115 (sync_Mutex_Unlock_115)

-- NOT PRINTED: function 121 (atomic_StoreUint32)

/-! ### atomic_b32: function 122 -/
/-! ### stringslite_HasPrefix: function 142 -/
/-! ### strings_HasPrefix: function 133 -/
end Go.Proofs.YtpiafpkpdbknfaaGreatDoor.PCmdBack
