/- Written by a program of this session: for Go functions that the law reaches, what each answers (F.f) and that it answers so (F.calls). Conditions: none beyond those in each statement. -/
import Derived.Test.YtpiafpkpdbknfaaGreatDoorPCmdSidesx0
import Derived.Test.YtpiafpkpdbknfaaGreatDoorPCmdSidesx1
import Derived.Test.YtpiafpkpdbknfaaGreatDoorPCmdSidesx2
import Derived.Test.YtpiafpkpdbknfaaGreatDoorPCmdSidesx3
import Derived.Test.YtpiafpkpdbknfaaGreatDoorPCmdSidesx4
namespace Go.Proofs.YtpiafpkpdbknfaaGreatDoor.PCmdSides
open Go.RowKit Go.Proofs.YtpiafpkpdbknfaaGreatDoorW.PrintWords Go.Proofs.YtpiafpkpdbknfaaGreatDoorW.PrintLast Go.Proofs.YtpiafpkpdbknfaaGreatDoorW.PrintMore
attribute [local go_sem] max2_int min2_int max_two min_two max_three min_three max_four min_four   -- for this text's walks alone
set_option linter.unusedVariables false
set_option linter.unusedSimpArgs false

/-! ### cmd_Check: function 15 -/
open Go.Proofs.YtpiafpkpdbknfaaGreatDoor.Sup
/-- The operation, if its fields alone are set; else 0. -/
def cmd_Check.shape (op : Int) (dst : ByteArray) (src words : List ByteArray) (st : Int) : Nat :=
  if op = 1 ∧ src.length = 1 ∧ words = [] ∧ st = 0 then 1
  else if op = 2 ∧ words = [] ∧ st = 0 ∧ src.length ≤ 8796093022200 then 2
  else if op = 3 ∧ src = [] ∧ st = 0 ∧ words.length ≤ 8796093022200 then 3
  else if op = 4 ∧ src = [] ∧ words = [] ∧ st = 0 then 4
  else if op = 5 ∧ src = [] ∧ words = [] ∧ st = 0 then 5
  else if op = 6 ∧ dst = ByteArray.empty ∧ src.length = 1 ∧ words = [] ∧ st = 0 then 6
  else if op = 7 ∧ dst = ByteArray.empty ∧ src = [] ∧ words = [] then 7
  else if op = 8 ∧ dst = ByteArray.empty ∧ src = [] ∧ st = 0 ∧ words.length ≤ 8796093022200 then 8 else 0
def cmd_Check.f (k : Nat) (op : Int) (dst : ByteArray) (src words : List ByteArray) (st : Int) : Option Int :=
  if src.length ≤ 8796093022200 ∧ words.length ≤ 8796093022200 then
    (match cmd_Check.shape op dst src words st with
    | 1 => cmd_copying_right.f k (src.headD ByteArray.empty) dst
    | 2 => cmd_joining_right.f k dst src
    | 3 => cmd_echoing_right.f k dst words
    | 4 => cmd_touching_right.f k dst
    | 5 => cmd_removing_right.f k dst
    | 6 => cmd_testing_right.f k (src.headD ByteArray.empty)
    | 7 => cmd_failing_right.f st
    | 8 => cmd_saying_right.f words
    | _ => some 160)
  else none
theorem cmd_Check.mono : ∀ a0 a1 a2 a3 a4 k, LeO (cmd_Check.f k a0 a1 a2 a3 a4) (cmd_Check.f (k + 1) a0 a1 a2 a3 a4) := by
  intro a0 a1 a2 a3 a4 k r h
  unfold cmd_Check.f at h ⊢
  split at h
  · rw [if_pos (by assumption)]
    split at h <;> first | exact h | exact cmd_copying_right.mono _ _ k r h | exact cmd_joining_right.mono _ _ k r h | exact cmd_echoing_right.mono _ _ k r h | exact cmd_touching_right.mono _ k r h | exact cmd_removing_right.mono _ k r h | exact cmd_testing_right.mono _ k r h
  · cases h
theorem cmd_Check.one_ {l : List ByteArray} (h : l.length = 1) : ∃ s, l = [s] := by
  match l, h with
  | [s], _ => exact ⟨s, rfl⟩
/-- Which command it is. -/
theorem cmd_Check.cases_ (op : Int) (dst : ByteArray) (src words : List ByteArray) (st : Int) {P : Int → ByteArray → List ByteArray → List ByteArray → Int → Nat → Prop}
    (h1 : ∀ s, P 1 dst [s] [] 0 1) (h2 : src.length ≤ 8796093022200 → P 2 dst src [] 0 2) (h3 : words.length ≤ 8796093022200 → P 3 dst [] words 0 3) (h4 : P 4 dst [] [] 0 4) (h5 : P 5 dst [] [] 0 5) (h6 : ∀ s, P 6 ByteArray.empty [s] [] 0 6) (h7 : P 7 ByteArray.empty [] [] st 7) (h8 : words.length ≤ 8796093022200 → P 8 ByteArray.empty [] words 0 8)
    (h0 : cmd_Check.shape op dst src words st = 0 → P op dst src words st 0) : P op dst src words st (cmd_Check.shape op dst src words st) := by
  by_cases c1 : op = 1 ∧ src.length = 1 ∧ words = [] ∧ st = 0
  · have e : cmd_Check.shape op dst src words st = 1 := by unfold cmd_Check.shape; rw [if_pos c1]
    rw [e]
    obtain ⟨rfl, hs, rfl, rfl⟩ := c1
    obtain ⟨s, rfl⟩ := cmd_Check.one_ hs
    exact h1 s
  by_cases c2 : op = 2 ∧ words = [] ∧ st = 0 ∧ src.length ≤ 8796093022200
  · have e : cmd_Check.shape op dst src words st = 2 := by unfold cmd_Check.shape; rw [if_neg c1, if_pos c2]
    rw [e]
    obtain ⟨rfl, rfl, rfl, hs⟩ := c2
    exact h2 hs
  by_cases c3 : op = 3 ∧ src = [] ∧ st = 0 ∧ words.length ≤ 8796093022200
  · have e : cmd_Check.shape op dst src words st = 3 := by unfold cmd_Check.shape; rw [if_neg c1, if_neg c2, if_pos c3]
    rw [e]
    obtain ⟨rfl, rfl, rfl, hs⟩ := c3
    exact h3 hs
  by_cases c4 : op = 4 ∧ src = [] ∧ words = [] ∧ st = 0
  · have e : cmd_Check.shape op dst src words st = 4 := by unfold cmd_Check.shape; rw [if_neg c1, if_neg c2, if_neg c3, if_pos c4]
    rw [e]
    obtain ⟨rfl, rfl, rfl, rfl⟩ := c4
    exact h4
  by_cases c5 : op = 5 ∧ src = [] ∧ words = [] ∧ st = 0
  · have e : cmd_Check.shape op dst src words st = 5 := by unfold cmd_Check.shape; rw [if_neg c1, if_neg c2, if_neg c3, if_neg c4, if_pos c5]
    rw [e]
    obtain ⟨rfl, rfl, rfl, rfl⟩ := c5
    exact h5
  by_cases c6 : op = 6 ∧ dst = ByteArray.empty ∧ src.length = 1 ∧ words = [] ∧ st = 0
  · have e : cmd_Check.shape op dst src words st = 6 := by unfold cmd_Check.shape; rw [if_neg c1, if_neg c2, if_neg c3, if_neg c4, if_neg c5, if_pos c6]
    rw [e]
    obtain ⟨rfl, rfl, hs, rfl, rfl⟩ := c6
    obtain ⟨s, rfl⟩ := cmd_Check.one_ hs
    exact h6 s
  by_cases c7 : op = 7 ∧ dst = ByteArray.empty ∧ src = [] ∧ words = []
  · have e : cmd_Check.shape op dst src words st = 7 := by unfold cmd_Check.shape; rw [if_neg c1, if_neg c2, if_neg c3, if_neg c4, if_neg c5, if_neg c6, if_pos c7]
    rw [e]
    obtain ⟨rfl, rfl, rfl, rfl⟩ := c7
    exact h7
  by_cases c8 : op = 8 ∧ dst = ByteArray.empty ∧ src = [] ∧ st = 0 ∧ words.length ≤ 8796093022200
  · have e : cmd_Check.shape op dst src words st = 8 := by unfold cmd_Check.shape; rw [if_neg c1, if_neg c2, if_neg c3, if_neg c4, if_neg c5, if_neg c6, if_neg c7, if_pos c8]
    rw [e]
    obtain ⟨rfl, rfl, rfl, rfl, hs⟩ := c8
    exact h8 hs
  · have e : cmd_Check.shape op dst src words st = 0 := by unfold cmd_Check.shape; rw [if_neg c1, if_neg c2, if_neg c3, if_neg c4, if_neg c5, if_neg c6, if_neg c7, if_neg c8]
    rw [e]
    exact h0 e
/-- The object that is made of a command. -/
def cmd_Check.obj (j : Nat) (base : Nat) (dst : ByteArray) (src words : List ByteArray) (st : Int) (W : World) (o : Value) : Prop :=
  match j with
  | 1 => o = .agg #[.string (src.headD ByteArray.empty), .string dst]
  | 2 => ∃ A c, o = .agg #[.string dst, .slice A src.length c] ∧ Kd.V Kd.string 9 W 0 (fun k_ => base ≤ k_) (.slice A src.length c) src
  | 3 => ∃ A c, o = .agg #[.string dst, .slice A words.length c] ∧ Kd.V Kd.string 9 W 0 (fun k_ => base ≤ k_) (.slice A words.length c) words
  | 4 => o = .agg #[.string dst]
  | 5 => o = .agg #[.string dst]
  | 6 => o = .agg #[.string (src.headD ByteArray.empty)]
  | 7 => o = .agg #[.int .i64 st]
  | 8 => ∃ A c, o = .agg #[.slice A words.length c] ∧ Kd.V Kd.string 9 W 0 (fun k_ => base ≤ k_) (.slice A words.length c) words
  | _ => False
theorem cmd_Check.v_below {W W' : World} {b : Nat} {ok : Nat → Prop} {v : Value} {l : List ByteArray} (h : Kd.V Kd.string 9 W b ok v l) (hb : Below W.heap.size W W') : Kd.V Kd.string 9 W' b ok v l := by
  obtain ⟨A, c, hv, hl, hF⟩ := h
  exact ⟨A, c, hv, hl, Foot.step hF (fun k _ hlt => hb.block k hlt)⟩
theorem cmd_Check.stays (j : Nat) (base : Nat) (dst : ByteArray) (src words : List ByteArray) (st : Int) : Stays (cmd_Check.obj j base dst src words st) := by
  intro W W' o h hb
  unfold cmd_Check.obj at h ⊢
  split at h <;> first | exact h | (obtain ⟨A, c, e, hv⟩ := h; exact ⟨A, c, e, cmd_Check.v_below hv hb⟩)
def cmd_Check.typ (j : Nat) : Nat := match j with | 1 => 83 | 2 => 85 | 3 => 87 | 4 => 89 | 5 => 90 | 6 => 92 | 7 => 94 | _ => 96
theorem cmd_Check.clone_ : CloneOk := cmd_Parse.clone_
theorem cmd_Check.v_base {W : World} {b0 b1 : Nat} {v : Value} {l : List ByteArray} (h : Kd.V Kd.string 9 W 0 (fun k_ => b0 ≤ k_) v l) (hb : b1 ≤ b0) : Kd.V Kd.string 9 W 0 (fun k_ => b1 ≤ k_) v l := by
  obtain ⟨A, c, hv, hl, hF⟩ := h
  exact ⟨A, c, hv, hl, Foot.mono hF (fun _ hk => Nat.le_trans hb hk)⟩
theorem cmd_Check.of_ (op : Int) (dst : ByteArray) (A2 : Option Addr) (c2 : Nat) (src : List ByteArray) (A3 : Option Addr) (c3 : Nat) (words : List ByteArray) (st : Int) (w : World)
    (hr2 : Kd.C Kd.string w A2 src.length src) (hc2 : src.length ≤ c2) (hr3 : Kd.C Kd.string w A3 words.length words) (hc3 : words.length ≤ c3) (hs2 : src.length ≤ 8796093022200) (hs3 : words.length ≤ 8796093022200) :
    (cmd_Check.shape op dst src words st ≠ 0 → Gives 43 (cmd_Check.typ (cmd_Check.shape op dst src words st)) (cval op dst (.slice A2 src.length c2) (.slice A3 words.length c3) st) w (cmd_Check.obj (cmd_Check.shape op dst src words st) w.heap.size dst src words st)) ∧
    (cmd_Check.shape op dst src words st = 0 → Fails 43 (cval op dst (.slice A2 src.length c2) (.slice A3 words.length c3) st) w 160) := by
  have HL := cmd_Check.clone_
  revert hr2 hr3 hs2 hs3 hc2 hc3
  refine cmd_Check.cases_ op dst src words st (P := fun op dst src words st j => Kd.C Kd.string w A2 src.length src → src.length ≤ c2 → Kd.C Kd.string w A3 words.length words → words.length ≤ c3 → src.length ≤ 8796093022200 → words.length ≤ 8796093022200 →
    (j ≠ 0 → Gives 43 (cmd_Check.typ j) (cval op dst (.slice A2 src.length c2) (.slice A3 words.length c3) st) w (cmd_Check.obj j w.heap.size dst src words st)) ∧ (j = 0 → Fails 43 (cval op dst (.slice A2 src.length c2) (.slice A3 words.length c3) st) w 160)) ?_ ?_ ?_ ?_ ?_ ?_ ?_ ?_ ?_
  · intro s hr2 hc2 hr3 hc3 hs2 hs3
    refine ⟨fun _ W hb => ?_, fun h => absurd h (by decide)⟩
    exact (of_1 dst s A2 c2 A3 c3 W (Kd.C_below hr2 hb)).mono fun e w' ⟨he, hB⟩ => ⟨⟨_, he, rfl⟩, hB⟩
  · intro hs hr2 hc2 hr3 hc3 hs2 hs3
    refine ⟨fun _ W hb => ?_, fun h => absurd h (by decide)⟩
    by_cases h1 : src.length = 1
    · obtain ⟨s, rfl⟩ := cmd_Check.one_ h1
      exact (of_2 dst s A2 c2 A3 c3 W (Kd.C_below hr2 hb) hc2 HL).mono fun e w' ⟨A, c, he, hv, hB⟩ => ⟨⟨_, he, A, c, rfl, cmd_Check.v_base hv hb.size⟩, hB⟩
    · exact (of_2m dst src A2 c2 A3 c3 W (Kd.C_below hr2 hb) hc2 hs2 h1 HL).mono fun e w' ⟨A, c, he, hv, hB⟩ => ⟨⟨_, he, A, c, rfl, cmd_Check.v_base hv hb.size⟩, hB⟩
  · intro hs hr2 hc2 hr3 hc3 hs2 hs3
    refine ⟨fun _ W hb => ?_, fun h => absurd h (by decide)⟩
    exact (of_3 dst words A2 c2 A3 c3 W (Kd.C_below hr3 hb) hc3 hs3 HL).mono fun e w' ⟨A, c, he, hv, hB⟩ => ⟨⟨_, he, A, c, rfl, cmd_Check.v_base hv hb.size⟩, hB⟩
  · intro hr2 hc2 hr3 hc3 hs2 hs3
    refine ⟨fun _ W hb => ?_, fun h => absurd h (by decide)⟩
    exact (of_4 dst A2 c2 A3 c3 W).mono fun e w' ⟨he, hB⟩ => ⟨⟨_, he, rfl⟩, hB⟩
  · intro hr2 hc2 hr3 hc3 hs2 hs3
    refine ⟨fun _ W hb => ?_, fun h => absurd h (by decide)⟩
    exact (of_5 dst A2 c2 A3 c3 W).mono fun e w' ⟨he, hB⟩ => ⟨⟨_, he, rfl⟩, hB⟩
  · intro s hr2 hc2 hr3 hc3 hs2 hs3
    refine ⟨fun _ W hb => ?_, fun h => absurd h (by decide)⟩
    exact (of_6 s A2 c2 A3 c3 W (Kd.C_below hr2 hb)).mono fun e w' ⟨he, hB⟩ => ⟨⟨_, he, rfl⟩, hB⟩
  · intro hr2 hc2 hr3 hc3 hs2 hs3
    refine ⟨fun _ W hb => ?_, fun h => absurd h (by decide)⟩
    exact (of_7 st A2 c2 A3 c3 W).mono fun e w' ⟨he, hB⟩ => ⟨⟨_, he, rfl⟩, hB⟩
  · intro hs hr2 hc2 hr3 hc3 hs2 hs3
    refine ⟨fun _ W hb => ?_, fun h => absurd h (by decide)⟩
    exact (of_8 words A2 c2 A3 c3 W (Kd.C_below hr3 hb) hc3 hs3 HL).mono fun e w' ⟨A, c, he, hv, hB⟩ => ⟨⟨_, he, A, c, rfl, cmd_Check.v_base hv hb.size⟩, hB⟩
  · intro h0 hr2 hc2 hr3 hc3 hs2 hs3
    refine ⟨fun h => absurd rfl h, fun _ W hb => ?_⟩
    have hr2' := Kd.C_below hr2 hb
    have hr3' := Kd.C_below hr3 hb
    have L2 : src = [] ∨ (∃ s, src = [s]) ∨ (src.length ≠ 1 ∧ src.length ≠ 0) := by
      rcases src with _ | ⟨s, _ | ⟨u, r⟩⟩
      · exact .inl rfl
      · exact .inr (.inl ⟨s, rfl⟩)
      · exact .inr (.inr ⟨by simp, by simp⟩)
    have L3 : words = [] ∨ 0 < words.length := by
      rcases words with _ | ⟨s, r⟩
      · exact .inl rfl
      · exact .inr (by simp)
    unfold cmd_Check.shape at h0
    by_cases o1 : op = 1
    · subst o1
      rcases L2 with rfl | ⟨s, rfl⟩ | ⟨h1, h1'⟩
      · exact of_1_n0 dst st words.length A2 c2 A3 c3 W
      · rcases L3 with rfl | h3
        · by_cases hst : st = 0
          · simp [hst] at h0
          · exact of_1_s dst st s A2 c2 A3 c3 W hr2' hst
        · exact of_1_w dst st s words.length A2 c2 A3 c3 W hr2' h3
      · exact of_1_nM dst st src.length words.length A2 c2 A3 c3 W h1 h1'
    by_cases o2 : op = 2
    · subst o2
      rcases L3 with rfl | h3
      · have hst : st ≠ 0 := fun e => by simp [e, hs2] at h0
        by_cases h1 : src.length = 1
        · obtain ⟨s, rfl⟩ := cmd_Check.one_ h1
          exact of_2_s1 dst st s A2 c2 A3 c3 W hr2' hc2 hst HL
        · exact of_2_sM dst st src A2 c2 A3 c3 W hr2' hc2 hs2 h1 hst HL
      · by_cases h1 : src.length = 1
        · obtain ⟨s, rfl⟩ := cmd_Check.one_ h1
          exact of_2_w1 dst st s words.length A2 c2 A3 c3 W hr2' hc2 h3 HL
        · exact of_2_wM dst st src words.length A2 c2 A3 c3 W hr2' hc2 hs2 h1 h3 HL
    by_cases o3 : op = 3
    · subst o3
      rcases L2 with rfl | ⟨s, rfl⟩ | ⟨h1, h1'⟩
      · have hst : st ≠ 0 := fun e => by simp [e, hs3] at h0
        exact of_3_s dst st words A2 c2 A3 c3 W hr3' hc3 hs3 hst HL
      · exact of_3_n1 dst st s words A2 c2 A3 c3 W hr2' hr3' hc3 hs3 HL
      · exact of_3_nM dst st src.length words A2 c2 A3 c3 W h1 h1' hr3' hc3 hs3 HL
    by_cases o4 : op = 4
    · subst o4
      rcases L2 with rfl | ⟨s, rfl⟩ | ⟨h1, h1'⟩
      · rcases L3 with rfl | h3
        · have hst : st ≠ 0 := fun e => by simp [e] at h0
          exact of_4_s dst st A2 c2 A3 c3 W hst
        · exact of_4_w dst st words.length A2 c2 A3 c3 W h3
      · exact of_4_n1 dst st s words.length A2 c2 A3 c3 W hr2'
      · exact of_4_nM dst st src.length words.length A2 c2 A3 c3 W h1 h1'
    by_cases o5 : op = 5
    · subst o5
      rcases L2 with rfl | ⟨s, rfl⟩ | ⟨h1, h1'⟩
      · rcases L3 with rfl | h3
        · have hst : st ≠ 0 := fun e => by simp [e] at h0
          exact of_5_s dst st A2 c2 A3 c3 W hst
        · exact of_5_w dst st words.length A2 c2 A3 c3 W h3
      · exact of_5_n1 dst st s words.length A2 c2 A3 c3 W hr2'
      · exact of_5_nM dst st src.length words.length A2 c2 A3 c3 W h1 h1'
    by_cases o6 : op = 6
    · subst o6
      rcases L2 with rfl | ⟨s, rfl⟩ | ⟨h1, h1'⟩
      · exact of_6_n0 dst st words.length A2 c2 A3 c3 W
      · by_cases hd : dst = ByteArray.empty
        · subst hd
          rcases L3 with rfl | h3
          · have hst : st ≠ 0 := fun e => by simp [e] at h0
            exact of_6_s st s A2 c2 A3 c3 W hr2' hst
          · exact of_6_w st s words.length A2 c2 A3 c3 W hr2' h3
        · exact of_6_d dst st s words.length A2 c2 A3 c3 W hr2' hd
      · exact of_6_nM dst st src.length words.length A2 c2 A3 c3 W h1 h1'
    by_cases o7 : op = 7
    · subst o7
      rcases L2 with rfl | ⟨s, rfl⟩ | ⟨h1, h1'⟩
      · by_cases hd : dst = ByteArray.empty
        · subst hd
          rcases L3 with rfl | h3
          · simp at h0
          · exact of_7_w st words.length A2 c2 A3 c3 W h3
        · exact of_7_d dst st words.length A2 c2 A3 c3 W hd
      · exact of_7_n1 dst st s words.length A2 c2 A3 c3 W hr2'
      · exact of_7_nM dst st src.length words.length A2 c2 A3 c3 W h1 h1'
    by_cases o8 : op = 8
    · subst o8
      rcases L2 with rfl | ⟨s, rfl⟩ | ⟨h1, h1'⟩
      · by_cases hd : dst = ByteArray.empty
        · subst hd
          have hst : st ≠ 0 := fun e => by simp [e, hs3] at h0
          exact of_8_s st words A2 c2 A3 c3 W hr3' hc3 hs3 hst HL
        · exact of_8_d dst st words A2 c2 A3 c3 W hr3' hc3 hs3 hd HL
      · exact of_8_n1 dst st s words A2 c2 A3 c3 W hr2' hr3' hc3 hs3 HL
      · exact of_8_nM dst st src.length words A2 c2 A3 c3 W h1 h1' hr3' hc3 hs3 HL
    have b : ∀ i : Int, op ≠ i → (op == i) = false := fun i h => beq_eq_false_iff_ne.2 h
    rcases L2 with rfl | ⟨s, rfl⟩ | ⟨h1, h1'⟩
    · exact of_0_n0 dst st words.length op A2 c2 A3 c3 W (b _ o1) (b _ o2) (b _ o3) (b _ o4) (b _ o5) (b _ o6) (b _ o7) (b _ o8)
    · exact of_0_n1 dst st s words.length op A2 c2 A3 c3 W hr2' (b _ o1) (b _ o2) (b _ o3) (b _ o4) (b _ o5) (b _ o6) (b _ o7) (b _ o8)
    · exact of_0_nM dst st src.length words.length op A2 c2 A3 c3 W h1 h1' (b _ o1) (b _ o2) (b _ o3) (b _ o4) (b _ o5) (b _ o6) (b _ o7) (b _ o8)
theorem cmd_Check.shape_le (op : Int) (dst : ByteArray) (src words : List ByteArray) (st : Int) : cmd_Check.shape op dst src words st ≤ 8 := by
  unfold cmd_Check.shape
  repeat' split
  all_goals omega
theorem cmd_Check.vc_ {W : World} {b n c : Nat} {ok : Nat → Prop} {A : Option Addr} {l : List ByteArray} (h : Kd.V Kd.string 9 W b ok (.slice A n c) l) : Kd.C Kd.string W A l.length l ∧ l.length ≤ c := by
  obtain ⟨A', c', hv, hl, hF⟩ := h
  injection hv with e1 _ e3
  subst e1 e3
  exact ⟨Foot.now hF, hl⟩
def cmd_Check.rfn (j : Nat) : Nat := match j with | 1 => 160 | 2 => 165 | 3 => 173 | 4 => 180 | 5 => 185 | 6 => 190 | 7 => 195 | _ => 200
theorem cmd_Check.meth_ {m : Nat} {Q : World → Value → Prop} {w : World} {er : Int} (h : ∀ W o, Q W o → Calls Tryz.prog m #[o] W fun e w' => e = .returned (.int .i64 er) ∧ Below W.heap.size W w') : Meth m Q w (isE er) :=
  fun W o hq _ => (h W o hq).mono fun e w' ⟨he, hB⟩ => ⟨⟨_, he, rfl⟩, hB⟩
theorem cmd_Check.right_ {k : Nat} {op : Int} {dst : ByteArray} {src words : List ByteArray} {st er : Int} (base : Nat) (w : World) (j : Nat) (hj : cmd_Check.shape op dst src words st = j) (h0 : j ≠ 0) (h8 : j ≤ 8) (h : cmd_Check.f k op dst src words st = some er) :
    Meth (cmd_Check.rfn j) (cmd_Check.obj j base dst src words st) w (isE er) := by
  unfold cmd_Check.f at h
  split at h
  · rw [hj] at h
    match j, h0, h8 with
    | 1, _, _ => exact cmd_Check.meth_ fun W o hq => by obtain rfl : o = _ := hq; exact cmd_copying_right.calls k _ _ er W h
    | 2, _, _ => exact cmd_Check.meth_ fun W o hq => by obtain ⟨A, c, rfl, hv⟩ := hq; obtain ⟨hC, hl⟩ := cmd_Check.vc_ hv; exact cmd_joining_right.calls k _ A c _ er W hC hl h
    | 3, _, _ => exact cmd_Check.meth_ fun W o hq => by obtain ⟨A, c, rfl, hv⟩ := hq; obtain ⟨hC, hl⟩ := cmd_Check.vc_ hv; exact cmd_echoing_right.calls k _ A c _ er W hC hl h
    | 4, _, _ => exact cmd_Check.meth_ fun W o hq => by obtain rfl : o = _ := hq; exact cmd_touching_right.calls k _ er W h
    | 5, _, _ => exact cmd_Check.meth_ fun W o hq => by obtain rfl : o = _ := hq; exact cmd_removing_right.calls k _ er W h
    | 6, _, _ => exact cmd_Check.meth_ fun W o hq => by obtain rfl : o = _ := hq; exact cmd_testing_right.calls k _ er W h
    | 7, _, _ => exact cmd_Check.meth_ fun W o hq => by obtain rfl : o = _ := hq; exact cmd_failing_right.calls _ er W h
    | 8, _, _ => exact cmd_Check.meth_ fun W o hq => by obtain ⟨A, c, rfl, hv⟩ := hq; obtain ⟨hC, hl⟩ := cmd_Check.vc_ hv; exact cmd_saying_right.calls A c _ er W hC hl h
    | n + 9, _, h => omega
  · cases h
theorem cmd_Check.bound_ {k : Nat} {op : Int} {dst : ByteArray} {src words : List ByteArray} {st er : Int} (h : cmd_Check.f k op dst src words st = some er) : src.length ≤ 8796093022200 ∧ words.length ≤ 8796093022200 := by
  unfold cmd_Check.f at h
  split at h
  · assumption
  · cases h
theorem cmd_Check.none_ {k : Nat} {op : Int} {dst : ByteArray} {src words : List ByteArray} {st er : Int} (h : cmd_Check.f k op dst src words st = some er) (hj : cmd_Check.shape op dst src words st = 0) : er = 160 := by
  unfold cmd_Check.f at h
  split at h
  · rw [hj] at h
    exact (Option.some.inj h).symm
  · cases h
/-- told: the object, or what is wrong. -/
theorem cmd_Check.told_ (k : Nat) (op : Int) (dst : ByteArray) (A2 : Option Addr) (c2 : Nat) (src : List ByteArray) (A3 : Option Addr) (c3 : Nat) (words : List ByteArray) (st : Int) (er : Int) (w : World)
    (hr2 : Kd.C Kd.string w A2 src.length src) (hc2 : src.length ≤ c2) (hr3 : Kd.C Kd.string w A3 words.length words) (hc3 : words.length ≤ c3) (h : cmd_Check.f k op dst src words st = some er) :
    (er = 0 → cmd_Check.shape op dst src words st ≠ 0 ∧ Gives 44 (cmd_Check.typ (cmd_Check.shape op dst src words st)) (cval op dst (.slice A2 src.length c2) (.slice A3 words.length c3) st) w (cmd_Check.obj (cmd_Check.shape op dst src words st) w.heap.size dst src words st)) ∧
    (er ≠ 0 → Fails 44 (cval op dst (.slice A2 src.length c2) (.slice A3 words.length c3) st) w er) := by
  obtain ⟨hs2, hs3⟩ := cmd_Check.bound_ h
  have hof := cmd_Check.of_ op dst A2 c2 src A3 c3 words st w hr2 hc2 hr3 hc3 hs2 hs3
  have hle := cmd_Check.shape_le op dst src words st
  by_cases hj : cmd_Check.shape op dst src words st = 0
  · have he := cmd_Check.none_ h hj
    subst he
    refine ⟨fun e => absurd e (by decide), fun _ W hb => ?_⟩
    exact (told_none op dst _ _ st W (by decide) (by decide) (fun W' hb' => hof.2 hj W' (hb.trans (hb'.mono hb.size)))).mono fun e w' ⟨he, hB⟩ => ⟨he, hB⟩
  · have hG := hof.1 hj
    have hM := fun base w => cmd_Check.right_ base w _ rfl hj hle h
    generalize cmd_Check.shape op dst src words st = j at hG hM hj hle ⊢
    have hS := cmd_Check.stays j w.heap.size dst src words st
    have up : ∀ {W : World}, Below w.heap.size w W → Gives 43 (cmd_Check.typ j) (cval op dst (.slice A2 src.length c2) (.slice A3 words.length c3) st) W (cmd_Check.obj j w.heap.size dst src words st) := fun hb W' hb' => hG W' (hb.trans (hb'.mono hb.size))
    refine ⟨fun e => ⟨hj, fun W hb => ?_⟩, fun e W hb => ?_⟩
    · subst e
      have hMW := hM w.heap.size W
      have hGW := up hb
      match j, hj, hle with
      | 1, _, _ => exact told_1 hS op dst _ _ st W (er := 0) hGW hMW
      | 2, _, _ => exact told_2 hS op dst _ _ st W (er := 0) hGW hMW
      | 3, _, _ => exact told_3 hS op dst _ _ st W (er := 0) hGW hMW
      | 4, _, _ => exact told_4 hS op dst _ _ st W (er := 0) hGW hMW
      | 5, _, _ => exact told_5 hS op dst _ _ st W (er := 0) hGW hMW
      | 6, _, _ => exact told_6 hS op dst _ _ st W (er := 0) hGW hMW
      | 7, _, _ => exact told_7 hS op dst _ _ st W (er := 0) hGW hMW
      | 8, _, _ => exact told_8 hS op dst _ _ st W (er := 0) hGW hMW
      | n + 9, _, h => omega
    · have e1 : (er != 0) = true := bne_iff_ne.2 e
      have e0 : (er == 0) = false := beq_eq_false_iff_ne.2 e
      have hMW := hM w.heap.size W
      have hGW := up hb
      match j, hj, hle with
      | 1, _, _ => exact told_wrong_1 hS op dst _ _ st W e1 e0 hGW hMW
      | 2, _, _ => exact told_wrong_2 hS op dst _ _ st W e1 e0 hGW hMW
      | 3, _, _ => exact told_wrong_3 hS op dst _ _ st W e1 e0 hGW hMW
      | 4, _, _ => exact told_wrong_4 hS op dst _ _ st W e1 e0 hGW hMW
      | 5, _, _ => exact told_wrong_5 hS op dst _ _ st W e1 e0 hGW hMW
      | 6, _, _ => exact told_wrong_6 hS op dst _ _ st W e1 e0 hGW hMW
      | 7, _, _ => exact told_wrong_7 hS op dst _ _ st W e1 e0 hGW hMW
      | 8, _, _ => exact told_wrong_8 hS op dst _ _ st W e1 e0 hGW hMW
      | n + 9, _, h => omega
theorem cmd_Check.calls (k : Nat) (a0_0 : Int) (a0_1 : ByteArray) (A0_2 : Option Addr) (c0_2 : Nat) (l0_2 : List ByteArray) (A0_3 : Option Addr) (c0_3 : Nat) (l0_3 : List ByteArray) (a0_4 : Int) (r : Int) (w : World) (hr0_2 : Kd.C Kd.string w A0_2 l0_2.length l0_2) (hc0_2 : l0_2.length ≤ c0_2) (hr0_3 : Kd.C Kd.string w A0_3 l0_3.length l0_3) (hc0_3 : l0_3.length ≤ c0_3) (h : cmd_Check.f k a0_0 a0_1 l0_2 l0_3 a0_4 = some r) :
    Calls Tryz.prog 15 #[.agg #[.int .i64 a0_0, .string a0_1, .slice A0_2 l0_2.length c0_2, .slice A0_3 l0_3.length c0_3, .int .i64 a0_4]] w fun e w' => e = .returned (.int .i64 r) ∧ Below w.heap.size w w' := by
  obtain ⟨hs2, hs3⟩ := cmd_Check.bound_ h
  have hof := cmd_Check.of_ a0_0 a0_1 A0_2 c0_2 l0_2 A0_3 c0_3 l0_3 a0_4 w hr0_2 hc0_2 hr0_3 hc0_3 hs2 hs3
  have hle := cmd_Check.shape_le a0_0 a0_1 l0_2 l0_3 a0_4
  by_cases hj : cmd_Check.shape a0_0 a0_1 l0_2 l0_3 a0_4 = 0
  · have he := cmd_Check.none_ h hj
    subst he
    exact check_none a0_0 a0_1 _ _ a0_4 w (by decide) (by decide) (hof.2 hj)
  · have hG := hof.1 hj
    have hM := fun base w => cmd_Check.right_ base w _ rfl hj hle h
    generalize cmd_Check.shape a0_0 a0_1 l0_2 l0_3 a0_4 = j at hG hM hj hle
    have hS := cmd_Check.stays j w.heap.size a0_1 l0_2 l0_3 a0_4
    have hMW := hM w.heap.size w
    match j, hj, hle with
    | 1, _, _ => exact check_1 hS a0_0 a0_1 _ _ a0_4 w hG hMW
    | 2, _, _ => exact check_2 hS a0_0 a0_1 _ _ a0_4 w hG hMW
    | 3, _, _ => exact check_3 hS a0_0 a0_1 _ _ a0_4 w hG hMW
    | 4, _, _ => exact check_4 hS a0_0 a0_1 _ _ a0_4 w hG hMW
    | 5, _, _ => exact check_5 hS a0_0 a0_1 _ _ a0_4 w hG hMW
    | 6, _, _ => exact check_6 hS a0_0 a0_1 _ _ a0_4 w hG hMW
    | 7, _, _ => exact check_7 hS a0_0 a0_1 _ _ a0_4 w hG hMW
    | 8, _, _ => exact check_8 hS a0_0 a0_1 _ _ a0_4 w hG hMW
    | n + 9, _, h => omega

/-! ### cmd_copying_reads: function 159 -/
def cmd_copying_reads.f (a0_0 : ByteArray) (a0_1 : ByteArray) : Option (List ByteArray) := some (([a0_0] : List ByteArray))
set_option maxHeartbeats 8000000 in
set_option maxRecDepth 100000 in
theorem cmd_copying_reads.calls (a0_0 : ByteArray) (a0_1 : ByteArray) (r : List ByteArray) (w : World) (h : cmd_copying_reads.f a0_0 a0_1 = some r) :
    Calls Tryz.prog 159 #[.agg #[.string a0_0, .string a0_1]] w fun e w' => ∃ v0_ : Value, e = .returned (v0_) ∧ Kd.R Kd.string 9 w' w.heap.size (fun _ => True) v0_ r ∧ Below w.heap.size w w' := by
  have hu83 := Tryz.underlying83
  have HB := Aside0.mk (Below.refl w.heap.size w)
  have H : (some (([a0_0] : List ByteArray))) = some r := h
  clear h
  obtain ⟨y200, hy200⟩ : ∃ y_ : List ByteArray, y_ = (([a0_0] : List ByteArray)) := ⟨_, rfl⟩
  replace H : (some y200) = some r := by first | (rw [hy200]; with_reducible exact H) | (have H2_ := (Option.bind_some _ _).symm.trans H; rw [hy200]; with_reducible exact H2_) | (have H2_ := (Option.bind_some _ _).symm.trans H; with_reducible exact H2_) | with_reducible exact H | (rw [hy200]; exact H) | exact H
  have Ny200 := Aside0.mk hy200
  clear hy200
  obtain rfl := Option.some.inj H
  go_enter Tryz.func159, Tryz.ntmps159
  go_wp2_with (first | ((with_reducible refine gate_dst (N := 1) rfl ?_); refine box_event ?hg (N := 1) ?hd (cs := #[.string a0_0, .string a0_1]) (t := 83) ?hr ?_; (case hd => rfl); (case hg => rfl); (case hr => first | (go_simp; done) | (go_simp; rfl)); intro gb199 hg w2 hbox hb; have n0_ := Aside0.mk (below_step (by repeat (first | (with_reducible first | exact HB.out | apply below_alloc | apply pw_below_drewN | apply below_drew1) | exact HB.out)) hb); have n1_ := Aside0.mk (hbox); have n2_ := Aside0.mk ((by rw [hg]; exact (below_size (by repeat (first | (with_reducible first | exact HB.out | apply below_alloc | apply pw_below_drewN | apply below_drew1) | exact HB.out))) : w.heap.size ≤ gb199)); have n3_ := Aside0.mk ((by rw [hg]; exact (below_size (by repeat (first | (with_reducible first | exact HB.out | apply below_alloc | apply pw_below_drewN | apply below_drew1) | exact HB.out))) : w.heap.size ≤ gb199)); clear HB; have HB := n0_; have BK199 := n1_; have GW199 := n2_; have GE199 := n3_; clear n0_ n1_ n2_ n3_; clear hb hbox hg; have hcz3_0 : w2.cell? ⟨gb199, 0, none⟩ = some (.string a0_0) := (blk_cell BK199.out 0).trans rfl; have hcz3_1 : w2.cell? ⟨gb199, 1, none⟩ = some (.string a0_1) := (blk_cell BK199.out 1).trans rfl; have hfz3_0 := blk_frozen BK199.out 0; have hfz3_1 := blk_frozen BK199.out 1) | ((with_reducible refine gate_dst (N := 5) rfl ?_); refine Kd.R_lit Kd.string _ 9 ?hg (N := 5) ?hd (xs := ([a0_0] : List ByteArray)) (inner := [.string a0_0]) (ok := fun _ => True) (okp := fun _ => True) ?hr ?hp (fun _ hk => hk) trivial (Below.refl _ _) (Nat.le_refl _) (by simp) ?_; (case hd => rfl); (case hg => rfl); (case hr => first | (go_simp; done) | (go_simp; rfl)); (case hp => exact (Reps.one (show Kd.M Kd.string _ _ _ a0_0 [.string a0_0] from rfl) (Reps.none _ _))); intro v201 w4 ho5 hb hg_ hnew_; clear hg_ hnew_; (first | rw [← Ny200.out] at ho5 | (simp only [Int.reduceToNat] at ho5; rw [← Ny200.out] at ho5)); have n0_ := Aside0.mk (Kd.R_lower ho5 (below_size (by repeat (first | (with_reducible first | exact HB.out | apply below_alloc | apply pw_below_drewN | apply below_drew1 | refine below_set ?_ GE199.out) | exact HB.out)))); have n1_ := Aside0.mk (blk_below (g := gb199) (o := .cells #[.string a0_0, .string a0_1] 83 (0, 0)) (by (with_reducible repeat (first | refine blk_drewN ?_ _ | refine blk_drew ?_ | refine blk_alloc ?_ _)); exact BK199.out) hb); have n2_ := Aside0.mk (below_step (by repeat (first | (with_reducible first | exact HB.out | apply below_alloc | apply pw_below_drewN | apply below_drew1 | refine below_set ?_ GE199.out) | exact HB.out)) hb); clear BK199; clear HB; have HO202 := n0_; have BK199 := n1_; have HB := n2_; clear n0_ n1_ n2_; clear hb ho5))
  go_ret
  exact ⟨_, by first | rfl | (simp [errW_none, errW_some] <;> rfl) | (simp [*, errW_none, errW_some] <;> rfl), by (with_reducible repeat (first | apply Kd.R_alloc | apply Kd.R_drewN | apply Kd.R_drew)); exact HO202.out, by repeat (first | (with_reducible first | exact HB.out | apply below_alloc | apply pw_below_drewN | apply below_drew1 | refine below_set ?_ GE199.out) | exact HB.out)⟩

/-! ### slices_Contains_string_string: function 171 -/
def slices_Contains_string_string.f (k : Nat) (l0 : List ByteArray) (a1 : ByteArray) : Option (Bool) := (slices_Index_string_string.f k l0 a1).bind fun t203 => (some (decide (t203 ≥ 0)))
theorem slices_Contains_string_string.mono : ∀ a0 a1 k, LeO (slices_Contains_string_string.f k a0 a1) (slices_Contains_string_string.f (k + 1) a0 a1) := by
  intro a0 a1 k
  unfold slices_Contains_string_string.f
  repeat' first
      | (with_reducible exact slices_Index_string_string.mono _ _ _)
      | (with_reducible exact LeO.refl _)
      | (with_reducible exact LeO.none _)
      | (with_reducible refine LeO.ite ?_ ?_)
      | (with_reducible refine LeO.bind ?_ (fun _ => ?_))
      | exact slices_Index_string_string.mono _ _ _
      | exact LeO.none _
      | refine LeO.ite ?_ ?_
      | refine LeO.bind ?_ (fun _ => ?_)
set_option maxHeartbeats 8000000 in
set_option maxRecDepth 100000 in
theorem slices_Contains_string_string.calls (k : Nat) (A0 : Option Addr) (c0 : Nat) (l0 : List ByteArray) (a1 : ByteArray) (r : Bool) (w : World) (hr0 : Kd.C Kd.string w A0 l0.length l0) (hc0 : l0.length ≤ c0) (h : slices_Contains_string_string.f k l0 a1 = some r) :
    Calls Tryz.prog 171 #[.slice A0 l0.length c0, .string a1] w fun e w' => e = .returned (.bool r) ∧ Drawn0 w w' := by
  have HR0 := Aside0.mk hr0
  have HC0 := Aside0.mk hc0
  clear hr0 hc0
  have H : ((slices_Index_string_string.f k l0 a1).bind fun t203 => (some (decide (t203 ≥ 0)))) = some r := h
  clear h
  replace H := Option.bind_eq_some_iff.mp H
  obtain ⟨t203, A30, H⟩ := H
  replace H : (some (decide (t203 ≥ 0))) = some r := H
  have A3 := Aside0.mk A30
  clear A30
  obtain rfl := Option.some.inj H
  go_enter Tryz.func171, Tryz.ntmps171
  go_wp2_with (first | ((with_reducible refine gate_callee (f := 30) rfl ?_); refine goesL_ (some 7) rfl rfl Tryz.func30 (by kernel_rfl) rfl #[.slice A0 l0.length c0, .string a1] rfl (by (try simp only [List.map_toArray, List.map_cons, List.map_nil]); first | done | rfl | (simp only [List.length_drop, List.length_take]; rfl)) ?_; (with_reducible refine (slices_Index_string_string.calls k _ _ l0 a1 t203 _ ?side1 ?side2 A3.out).mono ?_); (case side1 => repeat (first | exact HR0.out | (with_reducible refine Kd.C_alloc ?_ _) | (with_reducible refine Kd.C_drewN ?_ _) | (with_reducible refine Kd.C_drew ?_))); (case side2 => exact HC0.out); rintro e w' ⟨rfl, ⟨nd, rfl⟩⟩; refine ⟨_, rfl, ?_⟩))
  go_ret
  exact ⟨by first | rfl | (simp; done) | (simp [*]; done) | (simp; generalize ByteArray.toList _ = l_; cases l_ <;> rfl), by repeat (first | exact Drawn0.refl _ | apply Drawn0.step)⟩

/-! ### names_Unique: function 169 -/
def names_Unique.l0 : Nat → List ByteArray → List ByteArray → Int → Int → Option (List ByteArray)
  | 0, _, _, _, _ => none
  | k + 1, x3, x6, x7, x8 => if x8 < x7 then (if 0 ≤ x8 then (if x8 < (x6.length : Int) then ((slices_Contains_string_string.f k x3 (rdOf ByteArray.empty x6 x8)).bind fun t205 => (if t205 = true then (names_Unique.l0 k x3 x6 x7 (wrap64 (x8 + 1))) else (if x3.length < 8796093022208 then (names_Unique.l0 k (x3 ++ [rdOf ByteArray.empty x6 x8]) x6 x7 (wrap64 (x8 + 1))) else (none)))) else (none)) else (none)) else (some x3)
def names_Unique.f (k : Nat) (l0 : List ByteArray) : Option (List ByteArray) := names_Unique.l0 k ([] : List ByteArray) l0 (l0.length : Int) 0
theorem names_Unique.mono_l : ∀ k, (∀ y0 y1 y2 y3, LeO (names_Unique.l0 k y0 y1 y2 y3) (names_Unique.l0 (k + 1) y0 y1 y2 y3))
  | 0 => fun _ _ _ _ r h => by simp [names_Unique.l0] at h
  | k + 1 => by
    have ih0 := names_Unique.mono_l k
    · intro y0 y1 y2 y3
      unfold names_Unique.l0
      repeat' first
      | (with_reducible exact ih0 _ _ _ _)
      | (with_reducible exact slices_Contains_string_string.mono _ _ _)
      | (with_reducible exact LeO.refl _)
      | (with_reducible exact LeO.none _)
      | (with_reducible refine LeO.ite ?_ ?_)
      | (with_reducible refine LeO.bind ?_ (fun _ => ?_))
      | exact ih0 _ _ _ _
      | exact slices_Contains_string_string.mono _ _ _
      | exact LeO.none _
      | refine LeO.ite ?_ ?_
      | refine LeO.bind ?_ (fun _ => ?_)
theorem names_Unique.mono : ∀ a0 k, LeO (names_Unique.f k a0) (names_Unique.f (k + 1) a0) := by
  intro a0 k
  have ih0 := names_Unique.mono_l k
  unfold names_Unique.f
  repeat' first
      | (with_reducible exact ih0 _ _ _ _)
      | (with_reducible exact slices_Contains_string_string.mono _ _ _)
      | (with_reducible exact LeO.refl _)
      | (with_reducible exact LeO.none _)
      | (with_reducible refine LeO.ite ?_ ?_)
      | (with_reducible refine LeO.bind ?_ (fun _ => ?_))
      | exact ih0 _ _ _ _
      | exact slices_Contains_string_string.mono _ _ _
      | exact LeO.none _
      | refine LeO.ite ?_ ?_
      | refine LeO.bind ?_ (fun _ => ?_)
set_option maxHeartbeats 8000000 in
set_option maxRecDepth 100000 in
theorem names_Unique.calls (k : Nat) (A0 : Option Addr) (c0 : Nat) (l0 : List ByteArray) (r : List ByteArray) (w : World) (hr0 : Kd.C Kd.string w A0 l0.length l0) (hc0 : l0.length ≤ c0) (h : names_Unique.f k l0 = some r) :
    Calls Tryz.prog 169 #[.slice A0 l0.length c0] w fun e w' => ∃ v0_ : Value, e = .returned (v0_) ∧ Kd.R Kd.string 9 w' w.heap.size (fun _ => True) v0_ r ∧ Below w.heap.size w w' := by
  have HR0 := Aside0.mk hr0
  have HC0 := Aside0.mk hc0
  clear hr0 hc0
  have HB := Aside0.mk (Below.refl w.heap.size w)
  have H : (names_Unique.l0 k ([] : List ByteArray) l0 (l0.length : Int) 0) = some r := h
  clear h
  have H' := Aside0.mk H
  clear H
  go_enter Tryz.func169, Tryz.ntmps169
  go_wp2
  go_loopg [3, 8] k (fun kq v3 v8 w' => ∃ (x3_1 : List ByteArray) (x8_1 : Int), v8 = .int .i64 x8_1 ∧ Aside0 (names_Unique.l0 kq x3_1 l0 (l0.length : Int) x8_1 = some r) ∧ Aside0 (kq ≤ k) ∧ Aside0 (Kd.R Kd.string 9 w' w.heap.size (fun _ => True) v3 x3_1) ∧ Aside0 (Below w.heap.size w w'))
  case atStart => exact ⟨(([] : List ByteArray)), (0), (by first | rfl | (simp; done) | (simp [*]; done) | (simp; generalize ByteArray.toList _ = l_; cases l_ <;> rfl)), H', ⟨Nat.le_refl _⟩, ⟨by first | exact Kd.R_nil _ _ _ _ _ | exact Kd.N_nil _ _ _ _ _ | exact Kd.V_nil _ _ _ _ _ | exact Kd.Q_nil _ _ _ _ _ | exact Kd.S_nil _ _ _ _ _⟩, ⟨by repeat (first | (with_reducible first | exact HB.out | apply below_alloc | apply pw_below_drewN | apply below_drew1) | exact HB.out)⟩⟩
  case round =>
    clear H'
    try clear c1
    obtain ⟨x3_1, x8_1, rfl, HA, HK1, HO_3, HB⟩ := hrel
    cases gk with
    | zero => exact absurd HA.out (by simp [names_Unique.l0])
    | succ k1 =>
      have H := HA.out
      clear HA
      simp only [names_Unique.l0] at H
      by_cases c2 : x8_1 < (l0.length : Int)
      · rw [if_pos c2] at H
        have c2b0 : decide (x8_1 < (l0.length : Int)) = true := decide_eq_true c2
        clear c2
        by_cases c3 : 0 ≤ x8_1
        · rw [if_pos c3] at H
          have c3b0 : decide (0 ≤ x8_1) = true := decide_eq_true c3
          clear c3
          by_cases c4 : x8_1 < (l0.length : Int)
          · rw [if_pos c4] at H
            have c4b0 : decide (x8_1 < (l0.length : Int)) = true := decide_eq_true c4
            clear c4
            replace H := Option.bind_eq_some_iff.mp H
            obtain ⟨t205, A50, H⟩ := H
            replace H : (if t205 = true then (names_Unique.l0 k1 x3_1 l0 (l0.length : Int) (wrap64 (x8_1 + 1))) else (if x3_1.length < 8796093022208 then (names_Unique.l0 k1 (x3_1 ++ [rdOf ByteArray.empty l0 x8_1]) l0 (l0.length : Int) (wrap64 (x8_1 + 1))) else (none))) = some r := H
            have A5 := Aside0.mk A50
            clear A50
            by_cases c6 : t205 = true
            · subst c6
              have H1 : (names_Unique.l0 k1 x3_1 l0 (l0.length : Int) (wrap64 (x8_1 + 1))) = some r := by rw [if_pos rfl] at H; exact H
              clear H
              have H := H1
              clear H1
              have H' := Aside0.mk H
              clear H
              have p204 : 0 ≤ (x8_1 : Int) := of_decide_eq_true (by first | (with_reducible assumption) | assumption)
              have q204 : x8_1 < (l0.length : Int) := of_decide_eq_true (by first | (with_reducible assumption) | assumption)
              obtain ⟨ad204, e204, hx204_0⟩ := Kd.at_string HR0.out x8_1 p204 q204
              cases e204
              replace hx204_0 := (HB.out.cell (World.block_lt_of_cell? w _ hx204_0)).trans hx204_0
              replace p204 := eq_true p204
              replace q204 := eq_true q204
              obtain ⟨Ao7, co7, eo7⟩ := Kd.R_slice HO_3.out
              subst eo7
              go_wp2_with (first | ((with_reducible refine gate_callee (f := 171) rfl ?_); refine goesL_ (some 14) rfl rfl Tryz.func171 (by kernel_rfl) rfl #[.slice Ao7 x3_1.length co7, .string (rdOf ByteArray.empty l0 x8_1)] rfl (by (try simp only [List.map_toArray, List.map_cons, List.map_nil]); first | done | rfl | (simp only [List.length_drop, List.length_take]; rfl)) ?_; (with_reducible refine (slices_Contains_string_string.calls k1 _ _ x3_1 (rdOf ByteArray.empty l0 x8_1) true _ ?side1 ?side2 A5.out).mono ?_); (case side1 => repeat (first | exact (Kd.R_reads' HO_3.out).2.2 | (with_reducible refine Kd.C_alloc ?_ _) | (with_reducible refine Kd.C_drewN ?_ _) | (with_reducible refine Kd.C_drew ?_))); (case side2 => exact (Kd.R_reads' HO_3.out).2.1); rintro e w' ⟨rfl, ⟨nd, rfl⟩⟩; refine ⟨_, rfl, ?_⟩))
              go_roundg k1
              case measure => have := HK1.out; omega
              case rel => exact ⟨(x3_1), (wrap64 (x8_1 + 1)), (by first | rfl | (simp; done) | (simp [*]; done) | (simp; generalize ByteArray.toList _ = l_; cases l_ <;> rfl)), H', ⟨by have := HK1.out; omega⟩, ⟨by (with_reducible repeat (first | apply Kd.R_alloc | apply Kd.R_drewN | apply Kd.R_drew)); exact HO_3.out⟩, ⟨by repeat (first | (with_reducible first | exact HB.out | apply below_alloc | apply pw_below_drewN | apply below_drew1) | exact HB.out)⟩⟩
            · replace c6 := Bool.eq_false_iff.mpr c6
              subst c6
              have H1 : (if x3_1.length < 8796093022208 then (names_Unique.l0 k1 (x3_1 ++ [rdOf ByteArray.empty l0 x8_1]) l0 (l0.length : Int) (wrap64 (x8_1 + 1))) else (none)) = some r := by rw [if_neg (show ¬ (false = true) by decide)] at H; exact H
              clear H
              have H := H1
              clear H1
              by_cases c8 : x3_1.length < 8796093022208
              · rw [if_pos c8] at H
                have LMc8 := Aside0.mk c8
                clear c8
                obtain ⟨y206, hy206⟩ : ∃ y_ : List ByteArray, y_ = (x3_1 ++ [rdOf ByteArray.empty l0 x8_1]) := ⟨_, rfl⟩
                replace H : (names_Unique.l0 k1 y206 l0 (l0.length : Int) (wrap64 (x8_1 + 1))) = some r := by first | (rw [hy206]; with_reducible exact H) | (have H2_ := (Option.bind_some _ _).symm.trans H; rw [hy206]; with_reducible exact H2_) | (have H2_ := (Option.bind_some _ _).symm.trans H; with_reducible exact H2_) | with_reducible exact H | (rw [hy206]; exact H) | exact H
                have Ny206 := Aside0.mk hy206
                clear hy206
                have H' := Aside0.mk H
                clear H
                have p204 : 0 ≤ (x8_1 : Int) := of_decide_eq_true (by first | (with_reducible assumption) | assumption)
                have q204 : x8_1 < (l0.length : Int) := of_decide_eq_true (by first | (with_reducible assumption) | assumption)
                obtain ⟨ad204, e204, hx204_0⟩ := Kd.at_string HR0.out x8_1 p204 q204
                cases e204
                replace hx204_0 := (HB.out.cell (World.block_lt_of_cell? w _ hx204_0)).trans hx204_0
                replace p204 := eq_true p204
                replace q204 := eq_true q204
                obtain ⟨Ao9, co9, eo9⟩ := Kd.R_slice HO_3.out
                subst eo9
                go_wp2_with (first | ((with_reducible refine gate_callee (f := 171) rfl ?_); refine goesL_ (some 14) rfl rfl Tryz.func171 (by kernel_rfl) rfl #[.slice Ao9 x3_1.length co9, .string (rdOf ByteArray.empty l0 x8_1)] rfl (by (try simp only [List.map_toArray, List.map_cons, List.map_nil]); first | done | rfl | (simp only [List.length_drop, List.length_take]; rfl)) ?_; (with_reducible refine (slices_Contains_string_string.calls k1 _ _ x3_1 (rdOf ByteArray.empty l0 x8_1) false _ ?side1 ?side2 A5.out).mono ?_); (case side1 => repeat (first | exact (Kd.R_reads' HO_3.out).2.2 | (with_reducible refine Kd.C_alloc ?_ _) | (with_reducible refine Kd.C_drewN ?_ _) | (with_reducible refine Kd.C_drew ?_))); (case side2 => exact (Kd.R_reads' HO_3.out).2.1); rintro e w' ⟨rfl, ⟨nd, rfl⟩⟩; refine ⟨_, rfl, ?_⟩) | ((with_reducible refine gate_builtin (b := .append) (xs := #[.tmp 16, .tmp 18]) rfl ?_); at_builtin; refine Kd.R_append Kd.string (w0 := w) w.heap.size rfl (.tmp 16) (.tmp 18) 22 9 (.string ⟨#[]⟩) 16 rfl Tryz.underlying22 info9 rfl (by decide) (by omega) (.slice Ao9 x3_1.length co9) x3_1 (rdOf ByteArray.empty l0 x8_1) [.string (rdOf ByteArray.empty l0 x8_1)] (fun _ => True) (fun _ => False) rfl rfl ?aP (fun _ hk => hk.elim) ?aF ?aO ?aB ?aS ?aL ?_; (case aP => exact rfl); (case aB => exact (by repeat (first | (with_reducible first | exact HB.out | apply below_alloc | apply pw_below_drewN | apply below_drew1) | exact HB.out))); (case aF => exact (fun _ _ => trivial)); (case aO => exact (by (with_reducible repeat (first | apply Kd.R_alloc | apply Kd.R_drewN | apply Kd.R_drew)); exact HO_3.out)); (case aS => exact (below_size (by repeat (first | (with_reducible first | exact HB.out | apply below_alloc | apply pw_below_drewN | apply below_drew1) | exact HB.out)))); (case aL => have := LMc8.out; omega); intro v207 w10 ho hb hg hat; rw [← Ny206.out] at ho; have n0_ := Aside0.mk (hb); have n1_ := Aside0.mk (ho); clear HB; clear HO_3; have HB := n0_; have HO208 := n1_; clear n0_ n1_; clear ho hb hg hat))
                go_roundg k1
                case measure => have := HK1.out; omega
                case rel => exact ⟨(y206), (wrap64 (x8_1 + 1)), (by first | rfl | (simp; done) | (simp [*]; done) | (simp; generalize ByteArray.toList _ = l_; cases l_ <;> rfl)), H', ⟨by have := HK1.out; omega⟩, ⟨by (with_reducible repeat (first | apply Kd.R_alloc | apply Kd.R_drewN | apply Kd.R_drew)); exact HO208.out⟩, ⟨by repeat (first | (with_reducible first | exact HB.out | apply below_alloc | apply pw_below_drewN | apply below_drew1) | exact HB.out)⟩⟩
              · rw [if_neg c8] at H
                exact absurd H (by simp)
          · rw [if_neg c4] at H
            exact absurd H (by simp)
        · rw [if_neg c3] at H
          exact absurd H (by simp)
      · rw [if_neg c2] at H
        have c2b0 : decide (x8_1 < (l0.length : Int)) = false := decide_eq_false c2
        clear c2
        obtain rfl := Option.some.inj H
        go_wp2
        go_ret
        exact ⟨_, by first | rfl | (simp [errW_none, errW_some] <;> rfl) | (simp [*, errW_none, errW_some] <;> rfl), by (with_reducible repeat (first | apply Kd.R_alloc | apply Kd.R_drewN | apply Kd.R_drew)); exact HO_3.out, by repeat (first | (with_reducible first | exact HB.out | apply below_alloc | apply pw_below_drewN | apply below_drew1) | exact HB.out)⟩

/-! ### cmd_joining_reads: function 164 -/
def cmd_joining_reads.f (k : Nat) (a0_0 : ByteArray) (l0_1 : List ByteArray) : Option (List ByteArray) := (names_Unique.f k l0_1).bind fun t210 => (some t210)
theorem cmd_joining_reads.mono : ∀ a0 a1 k, LeO (cmd_joining_reads.f k a0 a1) (cmd_joining_reads.f (k + 1) a0 a1) := by
  intro a0 a1 k
  unfold cmd_joining_reads.f
  repeat' first
      | (with_reducible exact names_Unique.mono _ _)
      | (with_reducible exact LeO.refl _)
      | (with_reducible exact LeO.none _)
      | (with_reducible refine LeO.ite ?_ ?_)
      | (with_reducible refine LeO.bind ?_ (fun _ => ?_))
      | exact names_Unique.mono _ _
      | exact LeO.none _
      | refine LeO.ite ?_ ?_
      | refine LeO.bind ?_ (fun _ => ?_)
set_option maxHeartbeats 8000000 in
set_option maxRecDepth 100000 in
theorem cmd_joining_reads.calls (k : Nat) (a0_0 : ByteArray) (A0_1 : Option Addr) (c0_1 : Nat) (l0_1 : List ByteArray) (r : List ByteArray) (w : World) (hr0_1 : Kd.C Kd.string w A0_1 l0_1.length l0_1) (hc0_1 : l0_1.length ≤ c0_1) (h : cmd_joining_reads.f k a0_0 l0_1 = some r) :
    Calls Tryz.prog 164 #[.agg #[.string a0_0, .slice A0_1 l0_1.length c0_1]] w fun e w' => ∃ v0_ : Value, e = .returned (v0_) ∧ Kd.R Kd.string 9 w' w.heap.size (fun _ => True) v0_ r ∧ Below w.heap.size w w' := by
  have hu85 := Tryz.underlying85
  have HR0_1 := Aside0.mk hr0_1
  have HC0_1 := Aside0.mk hc0_1
  clear hr0_1 hc0_1
  have HB := Aside0.mk (Below.refl w.heap.size w)
  have H : ((names_Unique.f k l0_1).bind fun t210 => (some t210)) = some r := h
  clear h
  replace H := Option.bind_eq_some_iff.mp H
  obtain ⟨t210, A20, H⟩ := H
  replace H : (some t210) = some r := H
  have A2 := Aside0.mk A20
  clear A20
  obtain rfl := Option.some.inj H
  go_enter Tryz.func164, Tryz.ntmps164
  go_wp2_with (first | ((with_reducible refine gate_dst (N := 1) rfl ?_); refine box_event ?hg (N := 1) ?hd (cs := #[.string a0_0, .slice A0_1 l0_1.length c0_1]) (t := 85) ?hr ?_; (case hd => rfl); (case hg => rfl); (case hr => first | (go_simp; done) | (go_simp; rfl)); intro gb209 hg w3 hbox hb; have n0_ := Aside0.mk (below_step (by repeat (first | (with_reducible first | exact HB.out | apply below_alloc | apply pw_below_drewN | apply below_drew1) | exact HB.out)) hb); have n1_ := Aside0.mk (hbox); have n2_ := Aside0.mk ((by rw [hg]; exact (below_size (by repeat (first | (with_reducible first | exact HB.out | apply below_alloc | apply pw_below_drewN | apply below_drew1) | exact HB.out))) : w.heap.size ≤ gb209)); have n3_ := Aside0.mk ((by rw [hg]; exact (below_size (by repeat (first | (with_reducible first | exact HB.out | apply below_alloc | apply pw_below_drewN | apply below_drew1) | exact HB.out))) : w.heap.size ≤ gb209)); clear HB; have HB := n0_; have BK209 := n1_; have GW209 := n2_; have GE209 := n3_; clear n0_ n1_ n2_ n3_; clear hb hbox hg; have hcz4_0 : w3.cell? ⟨gb209, 0, none⟩ = some (.string a0_0) := (blk_cell BK209.out 0).trans rfl; have hcz4_1 : w3.cell? ⟨gb209, 1, none⟩ = some (.slice A0_1 l0_1.length c0_1) := (blk_cell BK209.out 1).trans rfl; have hfz4_0 := blk_frozen BK209.out 0; have hfz4_1 := blk_frozen BK209.out 1) | ((with_reducible refine gate_callee (f := 169) rfl ?_); refine goesL_ (some 5) rfl rfl Tryz.func169 (by kernel_rfl) rfl #[.slice A0_1 l0_1.length c0_1] rfl (by (try simp only [List.map_toArray, List.map_cons, List.map_nil]); first | done | rfl | (simp only [List.length_drop, List.length_take]; rfl)) ?_; (with_reducible refine (names_Unique.calls k _ _ l0_1 t210 _ ?side1 ?side2 A2.out).mono ?_); (case side1 => repeat (first | exact (Kd.C_below HR0_1.out HB.out) | (with_reducible refine Kd.C_alloc ?_ _) | (with_reducible refine Kd.C_drewN ?_ _) | (with_reducible refine Kd.C_drew ?_))); (case side2 => exact HC0_1.out); rintro e w5 ⟨v211, rfl, ho0, hb⟩; refine ⟨_, rfl, ?_⟩; have n0_ := Aside0.mk (Kd.R_lower ho0 (below_size (by repeat (first | (with_reducible first | exact HB.out | apply below_alloc | apply pw_below_drewN | apply below_drew1 | refine below_set ?_ GE209.out) | exact HB.out)))); have n1_ := Aside0.mk (blk_below (g := gb209) (o := .cells #[.string a0_0, .slice A0_1 l0_1.length c0_1] 85 (0, 0)) (by (with_reducible repeat (first | refine blk_drewN ?_ _ | refine blk_drew ?_ | refine blk_alloc ?_ _)); exact BK209.out) hb); have n2_ := Aside0.mk (below_step (by repeat (first | (with_reducible first | exact HB.out | apply below_alloc | apply pw_below_drewN | apply below_drew1 | refine below_set ?_ GE209.out) | exact HB.out)) hb); clear BK209; clear HB; have HO212 := n0_; have BK209 := n1_; have HB := n2_; clear n0_ n1_ n2_; (try clear hb); (try clear hb2); (try clear hk); (try clear hi); (try clear ho0)))
  go_ret
  exact ⟨_, by first | rfl | (simp [errW_none, errW_some] <;> rfl) | (simp [*, errW_none, errW_some] <;> rfl), by (with_reducible repeat (first | apply Kd.R_alloc | apply Kd.R_drewN | apply Kd.R_drew)); exact HO212.out, by repeat (first | (with_reducible first | exact HB.out | apply below_alloc | apply pw_below_drewN | apply below_drew1 | refine below_set ?_ GE209.out) | exact HB.out)⟩

/-! ### cmd_echoing_reads: function 172 -/
def cmd_echoing_reads.f (a0_0 : ByteArray) (l0_1 : List ByteArray) : Option (List ByteArray) := some ([] : List ByteArray)
set_option maxHeartbeats 8000000 in
set_option maxRecDepth 100000 in
theorem cmd_echoing_reads.calls (a0_0 : ByteArray) (A0_1 : Option Addr) (c0_1 : Nat) (l0_1 : List ByteArray) (r : List ByteArray) (w : World) (hr0_1 : Kd.C Kd.string w A0_1 l0_1.length l0_1) (hc0_1 : l0_1.length ≤ c0_1) (h : cmd_echoing_reads.f a0_0 l0_1 = some r) :
    Calls Tryz.prog 172 #[.agg #[.string a0_0, .slice A0_1 l0_1.length c0_1]] w fun e w' => ∃ v0_ : Value, e = .returned (v0_) ∧ Kd.R Kd.string 9 w' w.heap.size (fun _ => True) v0_ r ∧ Below w.heap.size w w' := by
  have hu87 := Tryz.underlying87
  have HR0_1 := Aside0.mk hr0_1
  have HC0_1 := Aside0.mk hc0_1
  clear hr0_1 hc0_1
  have HB := Aside0.mk (Below.refl w.heap.size w)
  have H : (some ([] : List ByteArray)) = some r := h
  clear h
  obtain rfl := Option.some.inj H
  go_enter Tryz.func172, Tryz.ntmps172
  go_wp2_with (first | ((with_reducible refine gate_dst (N := 1) rfl ?_); refine box_event ?hg (N := 1) ?hd (cs := #[.string a0_0, .slice A0_1 l0_1.length c0_1]) (t := 87) ?hr ?_; (case hd => rfl); (case hg => rfl); (case hr => first | (go_simp; done) | (go_simp; rfl)); intro gb213 hg w2 hbox hb; have n0_ := Aside0.mk (below_step (by repeat (first | (with_reducible first | exact HB.out | apply below_alloc | apply pw_below_drewN | apply below_drew1) | exact HB.out)) hb); have n1_ := Aside0.mk (hbox); have n2_ := Aside0.mk ((by rw [hg]; exact (below_size (by repeat (first | (with_reducible first | exact HB.out | apply below_alloc | apply pw_below_drewN | apply below_drew1) | exact HB.out))) : w.heap.size ≤ gb213)); have n3_ := Aside0.mk ((by rw [hg]; exact (below_size (by repeat (first | (with_reducible first | exact HB.out | apply below_alloc | apply pw_below_drewN | apply below_drew1) | exact HB.out))) : w.heap.size ≤ gb213)); clear HB; have HB := n0_; have BK213 := n1_; have GW213 := n2_; have GE213 := n3_; clear n0_ n1_ n2_ n3_; clear hb hbox hg))
  go_ret
  exact ⟨_, by first | rfl | (simp [errW_none, errW_some] <;> rfl) | (simp [*, errW_none, errW_some] <;> rfl), by first | exact Kd.R_nil _ _ _ _ _ | exact Kd.N_nil _ _ _ _ _ | exact Kd.V_nil _ _ _ _ _ | exact Kd.Q_nil _ _ _ _ _ | exact Kd.S_nil _ _ _ _ _, by repeat (first | (with_reducible first | exact HB.out | apply below_alloc | apply pw_below_drewN | apply below_drew1 | refine below_set ?_ GE213.out) | exact HB.out)⟩

/-! ### cmd_touching_reads: function 179 -/
def cmd_touching_reads.f (a0_0 : ByteArray) : Option (List ByteArray) := some ([] : List ByteArray)
set_option maxHeartbeats 8000000 in
set_option maxRecDepth 100000 in
theorem cmd_touching_reads.calls (a0_0 : ByteArray) (r : List ByteArray) (w : World) (h : cmd_touching_reads.f a0_0 = some r) :
    Calls Tryz.prog 179 #[.agg #[.string a0_0]] w fun e w' => ∃ v0_ : Value, e = .returned (v0_) ∧ Kd.R Kd.string 9 w' w.heap.size (fun _ => True) v0_ r ∧ Below w.heap.size w w' := by
  have hu89 := Tryz.underlying89
  have HB := Aside0.mk (Below.refl w.heap.size w)
  have H : (some ([] : List ByteArray)) = some r := h
  clear h
  obtain rfl := Option.some.inj H
  go_enter Tryz.func179, Tryz.ntmps179
  go_wp2_with (first | ((with_reducible refine gate_dst (N := 1) rfl ?_); refine box_event ?hg (N := 1) ?hd (cs := #[.string a0_0]) (t := 89) ?hr ?_; (case hd => rfl); (case hg => rfl); (case hr => first | (go_simp; done) | (go_simp; rfl)); intro gb214 hg w2 hbox hb; have n0_ := Aside0.mk (below_step (by repeat (first | (with_reducible first | exact HB.out | apply below_alloc | apply pw_below_drewN | apply below_drew1) | exact HB.out)) hb); have n1_ := Aside0.mk (hbox); have n2_ := Aside0.mk ((by rw [hg]; exact (below_size (by repeat (first | (with_reducible first | exact HB.out | apply below_alloc | apply pw_below_drewN | apply below_drew1) | exact HB.out))) : w.heap.size ≤ gb214)); have n3_ := Aside0.mk ((by rw [hg]; exact (below_size (by repeat (first | (with_reducible first | exact HB.out | apply below_alloc | apply pw_below_drewN | apply below_drew1) | exact HB.out))) : w.heap.size ≤ gb214)); clear HB; have HB := n0_; have BK214 := n1_; have GW214 := n2_; have GE214 := n3_; clear n0_ n1_ n2_ n3_; clear hb hbox hg))
  go_ret
  exact ⟨_, by first | rfl | (simp [errW_none, errW_some] <;> rfl) | (simp [*, errW_none, errW_some] <;> rfl), by first | exact Kd.R_nil _ _ _ _ _ | exact Kd.N_nil _ _ _ _ _ | exact Kd.V_nil _ _ _ _ _ | exact Kd.Q_nil _ _ _ _ _ | exact Kd.S_nil _ _ _ _ _, by repeat (first | (with_reducible first | exact HB.out | apply below_alloc | apply pw_below_drewN | apply below_drew1 | refine below_set ?_ GE214.out) | exact HB.out)⟩

/-! ### cmd_removing_reads: function 184 -/
def cmd_removing_reads.f (a0_0 : ByteArray) : Option (List ByteArray) := some ([] : List ByteArray)
set_option maxHeartbeats 8000000 in
set_option maxRecDepth 100000 in
theorem cmd_removing_reads.calls (a0_0 : ByteArray) (r : List ByteArray) (w : World) (h : cmd_removing_reads.f a0_0 = some r) :
    Calls Tryz.prog 184 #[.agg #[.string a0_0]] w fun e w' => ∃ v0_ : Value, e = .returned (v0_) ∧ Kd.R Kd.string 9 w' w.heap.size (fun _ => True) v0_ r ∧ Below w.heap.size w w' := by
  have hu90 := Tryz.underlying90
  have HB := Aside0.mk (Below.refl w.heap.size w)
  have H : (some ([] : List ByteArray)) = some r := h
  clear h
  obtain rfl := Option.some.inj H
  go_enter Tryz.func184, Tryz.ntmps184
  go_wp2_with (first | ((with_reducible refine gate_dst (N := 1) rfl ?_); refine box_event ?hg (N := 1) ?hd (cs := #[.string a0_0]) (t := 90) ?hr ?_; (case hd => rfl); (case hg => rfl); (case hr => first | (go_simp; done) | (go_simp; rfl)); intro gb215 hg w2 hbox hb; have n0_ := Aside0.mk (below_step (by repeat (first | (with_reducible first | exact HB.out | apply below_alloc | apply pw_below_drewN | apply below_drew1) | exact HB.out)) hb); have n1_ := Aside0.mk (hbox); have n2_ := Aside0.mk ((by rw [hg]; exact (below_size (by repeat (first | (with_reducible first | exact HB.out | apply below_alloc | apply pw_below_drewN | apply below_drew1) | exact HB.out))) : w.heap.size ≤ gb215)); have n3_ := Aside0.mk ((by rw [hg]; exact (below_size (by repeat (first | (with_reducible first | exact HB.out | apply below_alloc | apply pw_below_drewN | apply below_drew1) | exact HB.out))) : w.heap.size ≤ gb215)); clear HB; have HB := n0_; have BK215 := n1_; have GW215 := n2_; have GE215 := n3_; clear n0_ n1_ n2_ n3_; clear hb hbox hg))
  go_ret
  exact ⟨_, by first | rfl | (simp [errW_none, errW_some] <;> rfl) | (simp [*, errW_none, errW_some] <;> rfl), by first | exact Kd.R_nil _ _ _ _ _ | exact Kd.N_nil _ _ _ _ _ | exact Kd.V_nil _ _ _ _ _ | exact Kd.Q_nil _ _ _ _ _ | exact Kd.S_nil _ _ _ _ _, by repeat (first | (with_reducible first | exact HB.out | apply below_alloc | apply pw_below_drewN | apply below_drew1 | refine below_set ?_ GE215.out) | exact HB.out)⟩

/-! ### cmd_testing_reads: function 189 -/
def cmd_testing_reads.f (a0_0 : ByteArray) : Option (List ByteArray) := some (([a0_0] : List ByteArray))
set_option maxHeartbeats 8000000 in
set_option maxRecDepth 100000 in
theorem cmd_testing_reads.calls (a0_0 : ByteArray) (r : List ByteArray) (w : World) (h : cmd_testing_reads.f a0_0 = some r) :
    Calls Tryz.prog 189 #[.agg #[.string a0_0]] w fun e w' => ∃ v0_ : Value, e = .returned (v0_) ∧ Kd.R Kd.string 9 w' w.heap.size (fun _ => True) v0_ r ∧ Below w.heap.size w w' := by
  have hu92 := Tryz.underlying92
  have HB := Aside0.mk (Below.refl w.heap.size w)
  have H : (some (([a0_0] : List ByteArray))) = some r := h
  clear h
  obtain ⟨y217, hy217⟩ : ∃ y_ : List ByteArray, y_ = (([a0_0] : List ByteArray)) := ⟨_, rfl⟩
  replace H : (some y217) = some r := by first | (rw [hy217]; with_reducible exact H) | (have H2_ := (Option.bind_some _ _).symm.trans H; rw [hy217]; with_reducible exact H2_) | (have H2_ := (Option.bind_some _ _).symm.trans H; with_reducible exact H2_) | with_reducible exact H | (rw [hy217]; exact H) | exact H
  have Ny217 := Aside0.mk hy217
  clear hy217
  obtain rfl := Option.some.inj H
  go_enter Tryz.func189, Tryz.ntmps189
  go_wp2_with (first | ((with_reducible refine gate_dst (N := 1) rfl ?_); refine box_event ?hg (N := 1) ?hd (cs := #[.string a0_0]) (t := 92) ?hr ?_; (case hd => rfl); (case hg => rfl); (case hr => first | (go_simp; done) | (go_simp; rfl)); intro gb216 hg w2 hbox hb; have n0_ := Aside0.mk (below_step (by repeat (first | (with_reducible first | exact HB.out | apply below_alloc | apply pw_below_drewN | apply below_drew1) | exact HB.out)) hb); have n1_ := Aside0.mk (hbox); have n2_ := Aside0.mk ((by rw [hg]; exact (below_size (by repeat (first | (with_reducible first | exact HB.out | apply below_alloc | apply pw_below_drewN | apply below_drew1) | exact HB.out))) : w.heap.size ≤ gb216)); have n3_ := Aside0.mk ((by rw [hg]; exact (below_size (by repeat (first | (with_reducible first | exact HB.out | apply below_alloc | apply pw_below_drewN | apply below_drew1) | exact HB.out))) : w.heap.size ≤ gb216)); clear HB; have HB := n0_; have BK216 := n1_; have GW216 := n2_; have GE216 := n3_; clear n0_ n1_ n2_ n3_; clear hb hbox hg; have hcz3_0 : w2.cell? ⟨gb216, 0, none⟩ = some (.string a0_0) := (blk_cell BK216.out 0).trans rfl; have hfz3_0 := blk_frozen BK216.out 0) | ((with_reducible refine gate_dst (N := 5) rfl ?_); refine Kd.R_lit Kd.string _ 9 ?hg (N := 5) ?hd (xs := ([a0_0] : List ByteArray)) (inner := [.string a0_0]) (ok := fun _ => True) (okp := fun _ => True) ?hr ?hp (fun _ hk => hk) trivial (Below.refl _ _) (Nat.le_refl _) (by simp) ?_; (case hd => rfl); (case hg => rfl); (case hr => first | (go_simp; done) | (go_simp; rfl)); (case hp => exact (Reps.one (show Kd.M Kd.string _ _ _ a0_0 [.string a0_0] from rfl) (Reps.none _ _))); intro v218 w4 ho5 hb hg_ hnew_; clear hg_ hnew_; (first | rw [← Ny217.out] at ho5 | (simp only [Int.reduceToNat] at ho5; rw [← Ny217.out] at ho5)); have n0_ := Aside0.mk (Kd.R_lower ho5 (below_size (by repeat (first | (with_reducible first | exact HB.out | apply below_alloc | apply pw_below_drewN | apply below_drew1 | refine below_set ?_ GE216.out) | exact HB.out)))); have n1_ := Aside0.mk (blk_below (g := gb216) (o := .cells #[.string a0_0] 92 (0, 0)) (by (with_reducible repeat (first | refine blk_drewN ?_ _ | refine blk_drew ?_ | refine blk_alloc ?_ _)); exact BK216.out) hb); have n2_ := Aside0.mk (below_step (by repeat (first | (with_reducible first | exact HB.out | apply below_alloc | apply pw_below_drewN | apply below_drew1 | refine below_set ?_ GE216.out) | exact HB.out)) hb); clear BK216; clear HB; have HO219 := n0_; have BK216 := n1_; have HB := n2_; clear n0_ n1_ n2_; clear hb ho5))
  go_ret
  exact ⟨_, by first | rfl | (simp [errW_none, errW_some] <;> rfl) | (simp [*, errW_none, errW_some] <;> rfl), by (with_reducible repeat (first | apply Kd.R_alloc | apply Kd.R_drewN | apply Kd.R_drew)); exact HO219.out, by repeat (first | (with_reducible first | exact HB.out | apply below_alloc | apply pw_below_drewN | apply below_drew1 | refine below_set ?_ GE216.out) | exact HB.out)⟩

/-! ### cmd_failing_reads: function 194 -/
def cmd_failing_reads.f (a0_0 : Int) : Option (List ByteArray) := some ([] : List ByteArray)
set_option maxHeartbeats 8000000 in
set_option maxRecDepth 100000 in
theorem cmd_failing_reads.calls (a0_0 : Int) (r : List ByteArray) (w : World) (h : cmd_failing_reads.f a0_0 = some r) :
    Calls Tryz.prog 194 #[.agg #[.int .i64 a0_0]] w fun e w' => ∃ v0_ : Value, e = .returned (v0_) ∧ Kd.R Kd.string 9 w' w.heap.size (fun _ => True) v0_ r ∧ Below w.heap.size w w' := by
  have hu94 := Tryz.underlying94
  have HB := Aside0.mk (Below.refl w.heap.size w)
  have H : (some ([] : List ByteArray)) = some r := h
  clear h
  obtain rfl := Option.some.inj H
  go_enter Tryz.func194, Tryz.ntmps194
  go_wp2_with (first | ((with_reducible refine gate_dst (N := 1) rfl ?_); refine box_event ?hg (N := 1) ?hd (cs := #[.int .i64 a0_0]) (t := 94) ?hr ?_; (case hd => rfl); (case hg => rfl); (case hr => first | (go_simp; done) | (go_simp; rfl)); intro gb220 hg w2 hbox hb; have n0_ := Aside0.mk (below_step (by repeat (first | (with_reducible first | exact HB.out | apply below_alloc | apply pw_below_drewN | apply below_drew1) | exact HB.out)) hb); have n1_ := Aside0.mk (hbox); have n2_ := Aside0.mk ((by rw [hg]; exact (below_size (by repeat (first | (with_reducible first | exact HB.out | apply below_alloc | apply pw_below_drewN | apply below_drew1) | exact HB.out))) : w.heap.size ≤ gb220)); have n3_ := Aside0.mk ((by rw [hg]; exact (below_size (by repeat (first | (with_reducible first | exact HB.out | apply below_alloc | apply pw_below_drewN | apply below_drew1) | exact HB.out))) : w.heap.size ≤ gb220)); clear HB; have HB := n0_; have BK220 := n1_; have GW220 := n2_; have GE220 := n3_; clear n0_ n1_ n2_ n3_; clear hb hbox hg))
  go_ret
  exact ⟨_, by first | rfl | (simp [errW_none, errW_some] <;> rfl) | (simp [*, errW_none, errW_some] <;> rfl), by first | exact Kd.R_nil _ _ _ _ _ | exact Kd.N_nil _ _ _ _ _ | exact Kd.V_nil _ _ _ _ _ | exact Kd.Q_nil _ _ _ _ _ | exact Kd.S_nil _ _ _ _ _, by repeat (first | (with_reducible first | exact HB.out | apply below_alloc | apply pw_below_drewN | apply below_drew1 | refine below_set ?_ GE220.out) | exact HB.out)⟩

/-! ### cmd_saying_reads: function 199 -/
def cmd_saying_reads.f (l0_0 : List ByteArray) : Option (List ByteArray) := some ([] : List ByteArray)
set_option maxHeartbeats 8000000 in
set_option maxRecDepth 100000 in
theorem cmd_saying_reads.calls (A0_0 : Option Addr) (c0_0 : Nat) (l0_0 : List ByteArray) (r : List ByteArray) (w : World) (hr0_0 : Kd.C Kd.string w A0_0 l0_0.length l0_0) (hc0_0 : l0_0.length ≤ c0_0) (h : cmd_saying_reads.f l0_0 = some r) :
    Calls Tryz.prog 199 #[.agg #[.slice A0_0 l0_0.length c0_0]] w fun e w' => ∃ v0_ : Value, e = .returned (v0_) ∧ Kd.R Kd.string 9 w' w.heap.size (fun _ => True) v0_ r ∧ Below w.heap.size w w' := by
  have hu96 := Tryz.underlying96
  have HR0_0 := Aside0.mk hr0_0
  have HC0_0 := Aside0.mk hc0_0
  clear hr0_0 hc0_0
  have HB := Aside0.mk (Below.refl w.heap.size w)
  have H : (some ([] : List ByteArray)) = some r := h
  clear h
  obtain rfl := Option.some.inj H
  go_enter Tryz.func199, Tryz.ntmps199
  go_wp2_with (first | ((with_reducible refine gate_dst (N := 1) rfl ?_); refine box_event ?hg (N := 1) ?hd (cs := #[.slice A0_0 l0_0.length c0_0]) (t := 96) ?hr ?_; (case hd => rfl); (case hg => rfl); (case hr => first | (go_simp; done) | (go_simp; rfl)); intro gb221 hg w2 hbox hb; have n0_ := Aside0.mk (below_step (by repeat (first | (with_reducible first | exact HB.out | apply below_alloc | apply pw_below_drewN | apply below_drew1) | exact HB.out)) hb); have n1_ := Aside0.mk (hbox); have n2_ := Aside0.mk ((by rw [hg]; exact (below_size (by repeat (first | (with_reducible first | exact HB.out | apply below_alloc | apply pw_below_drewN | apply below_drew1) | exact HB.out))) : w.heap.size ≤ gb221)); have n3_ := Aside0.mk ((by rw [hg]; exact (below_size (by repeat (first | (with_reducible first | exact HB.out | apply below_alloc | apply pw_below_drewN | apply below_drew1) | exact HB.out))) : w.heap.size ≤ gb221)); clear HB; have HB := n0_; have BK221 := n1_; have GW221 := n2_; have GE221 := n3_; clear n0_ n1_ n2_ n3_; clear hb hbox hg))
  go_ret
  exact ⟨_, by first | rfl | (simp [errW_none, errW_some] <;> rfl) | (simp [*, errW_none, errW_some] <;> rfl), by first | exact Kd.R_nil _ _ _ _ _ | exact Kd.N_nil _ _ _ _ _ | exact Kd.V_nil _ _ _ _ _ | exact Kd.Q_nil _ _ _ _ _ | exact Kd.S_nil _ _ _ _ _, by repeat (first | (with_reducible first | exact HB.out | apply below_alloc | apply pw_below_drewN | apply below_drew1 | refine below_set ?_ GE221.out) | exact HB.out)⟩

/-! ### cmd_Reads: function 16 -/
open Go.Proofs.YtpiafpkpdbknfaaGreatDoor.Sup
def cmd_Reads.of (k : Nat) (j : Nat) (dst : ByteArray) (src words : List ByteArray) (st : Int) : Option (List ByteArray) :=
  match j with
  | 1 => cmd_copying_reads.f (src.headD ByteArray.empty) dst
  | 2 => cmd_joining_reads.f k dst src
  | 3 => cmd_echoing_reads.f dst words
  | 4 => cmd_touching_reads.f dst
  | 5 => cmd_removing_reads.f dst
  | 6 => cmd_testing_reads.f (src.headD ByteArray.empty)
  | 7 => cmd_failing_reads.f st
  | 8 => cmd_saying_reads.f words
  | _ => none
def cmd_Reads.f (k : Nat) (op : Int) (dst : ByteArray) (src words : List ByteArray) (st : Int) : Option (List ByteArray × Int) :=
  (cmd_Check.f k op dst src words st).bind fun e => if e = 0 then (cmd_Reads.of k (cmd_Check.shape op dst src words st) dst src words st).bind fun r => some (r, 0) else some ([], e)
theorem cmd_Reads.mono : ∀ a0 a1 a2 a3 a4 k, LeO (cmd_Reads.f k a0 a1 a2 a3 a4) (cmd_Reads.f (k + 1) a0 a1 a2 a3 a4) := by
  intro a0 a1 a2 a3 a4 k r h
  unfold cmd_Reads.f at h ⊢
  replace h := Option.bind_eq_some_iff.1 h
  obtain ⟨e, he, h⟩ := h
  rw [cmd_Check.mono a0 a1 a2 a3 a4 k e he]
  simp only [Option.bind_some]
  split at h
  · rw [if_pos (by assumption)]
    replace h := Option.bind_eq_some_iff.1 h
    obtain ⟨q, hq, h⟩ := h
    have hq2 : cmd_Reads.of (k + 1) (cmd_Check.shape a0 a1 a2 a3 a4) a1 a2 a3 a4 = some q := by
      unfold cmd_Reads.of at hq ⊢
      split at hq <;> first | exact hq | exact cmd_joining_reads.mono _ _ k _ hq
    rw [hq2]
    exact h
  · rw [if_neg (by assumption)]
    exact h
def cmd_Reads.mfn (j : Nat) : Nat := match j with | 1 => 159 | 2 => 164 | 3 => 172 | 4 => 179 | 5 => 184 | 6 => 189 | 7 => 194 | _ => 199
theorem cmd_Reads.meth_ {k : Nat} {dst : ByteArray} {src words : List ByteArray} {st : Int} {r : List ByteArray} (base : Nat) (w : World) (j : Nat) (h : cmd_Reads.of k j dst src words st = some r) :
    Meth (cmd_Reads.mfn j) (cmd_Check.obj j base dst src words st) w (fun w' v => Kd.V Kd.string 9 w' 0 (fun k_ => w.heap.size ≤ k_) v r) := by
  match j, h with
  | 1, h =>
    intro W o hq hb
    obtain rfl : o = _ := hq
    exact (cmd_copying_reads.calls _ _ r W h).mono fun e w' ⟨v, he, hR, hB⟩ => ⟨⟨v, he, v_keep hR hb.size (fun _ _ _ => rfl)⟩, hB⟩
  | 2, h =>
    intro W o hq hb
    obtain ⟨A, c, rfl, hv⟩ := hq
    obtain ⟨hC, hl⟩ := cmd_Check.vc_ hv
    exact (cmd_joining_reads.calls k _ A c _ r W hC hl h).mono fun e w' ⟨v, he, hR, hB⟩ => ⟨⟨v, he, v_keep hR hb.size (fun _ _ _ => rfl)⟩, hB⟩
  | 3, h =>
    intro W o hq hb
    obtain ⟨A, c, rfl, hv⟩ := hq
    obtain ⟨hC, hl⟩ := cmd_Check.vc_ hv
    exact (cmd_echoing_reads.calls _ A c _ r W hC hl h).mono fun e w' ⟨v, he, hR, hB⟩ => ⟨⟨v, he, v_keep hR hb.size (fun _ _ _ => rfl)⟩, hB⟩
  | 4, h =>
    intro W o hq hb
    obtain rfl : o = _ := hq
    exact (cmd_touching_reads.calls _ r W h).mono fun e w' ⟨v, he, hR, hB⟩ => ⟨⟨v, he, v_keep hR hb.size (fun _ _ _ => rfl)⟩, hB⟩
  | 5, h =>
    intro W o hq hb
    obtain rfl : o = _ := hq
    exact (cmd_removing_reads.calls _ r W h).mono fun e w' ⟨v, he, hR, hB⟩ => ⟨⟨v, he, v_keep hR hb.size (fun _ _ _ => rfl)⟩, hB⟩
  | 6, h =>
    intro W o hq hb
    obtain rfl : o = _ := hq
    exact (cmd_testing_reads.calls _ r W h).mono fun e w' ⟨v, he, hR, hB⟩ => ⟨⟨v, he, v_keep hR hb.size (fun _ _ _ => rfl)⟩, hB⟩
  | 7, h =>
    intro W o hq hb
    obtain rfl : o = _ := hq
    exact (cmd_failing_reads.calls _ r W h).mono fun e w' ⟨v, he, hR, hB⟩ => ⟨⟨v, he, v_keep hR hb.size (fun _ _ _ => rfl)⟩, hB⟩
  | 8, h =>
    intro W o hq hb
    obtain ⟨A, c, rfl, hv⟩ := hq
    obtain ⟨hC, hl⟩ := cmd_Check.vc_ hv
    exact (cmd_saying_reads.calls A c _ r W hC hl h).mono fun e w' ⟨v, he, hR, hB⟩ => ⟨⟨v, he, v_keep hR hb.size (fun _ _ _ => rfl)⟩, hB⟩
  | 0, h => cases h
  | n + 9, h => cases h
theorem cmd_Reads.calls (k : Nat) (a0_0 : Int) (a0_1 : ByteArray) (A0_2 : Option Addr) (c0_2 : Nat) (l0_2 : List ByteArray) (A0_3 : Option Addr) (c0_3 : Nat) (l0_3 : List ByteArray) (a0_4 : Int) (r1 : List ByteArray) (r2 : Int) (w : World) (hr0_2 : Kd.C Kd.string w A0_2 l0_2.length l0_2) (hc0_2 : l0_2.length ≤ c0_2) (hr0_3 : Kd.C Kd.string w A0_3 l0_3.length l0_3) (hc0_3 : l0_3.length ≤ c0_3) (h : cmd_Reads.f k a0_0 a0_1 l0_2 l0_3 a0_4 = some (r1, r2)) :
    Calls Tryz.prog 16 #[.agg #[.int .i64 a0_0, .string a0_1, .slice A0_2 l0_2.length c0_2, .slice A0_3 l0_3.length c0_3, .int .i64 a0_4]] w fun e w' => ∃ v0_ : Value, e = .returned (.tuple #[v0_, .int .i64 r2]) ∧ Kd.V Kd.string 9 w' w.heap.size (fun k_ => (w.heap.size ≤ k_)) v0_ r1 ∧ Below w.heap.size w w' := by
  unfold cmd_Reads.f at h
  replace h := Option.bind_eq_some_iff.1 h
  obtain ⟨e, he, h⟩ := h
  have ht := cmd_Check.told_ k a0_0 a0_1 A0_2 c0_2 l0_2 A0_3 c0_3 l0_3 a0_4 e w hr0_2 hc0_2 hr0_3 hc0_3 he
  split at h
  · rename_i e0
    obtain ⟨hj, hG⟩ := ht.1 e0
    have hle := cmd_Check.shape_le a0_0 a0_1 l0_2 l0_3 a0_4
    replace h := Option.bind_eq_some_iff.1 h
    obtain ⟨q, hq, h⟩ := h
    cases h
    have hM := cmd_Reads.meth_ w.heap.size w _ hq
    generalize cmd_Check.shape a0_0 a0_1 l0_2 l0_3 a0_4 = j at hG hM hj hle
    have hS := cmd_Check.stays j w.heap.size a0_1 l0_2 l0_3 a0_4
    suffices hh : Calls Tryz.prog 16 #[.agg #[.int .i64 a0_0, .string a0_1, .slice A0_2 l0_2.length c0_2, .slice A0_3 l0_3.length c0_3, .int .i64 a0_4]] w fun e w' => (∃ v, e = .returned (.tuple #[v, .int .i64 0]) ∧ Kd.V Kd.string 9 w' 0 (fun k_ => w.heap.size ≤ k_) v r1) ∧ Below w.heap.size w w' from hh.mono fun e w' ⟨⟨v, he, hv⟩, hB⟩ => ⟨v, he, hv, hB⟩
    match j, hj, hle with
    | 1, _, _ => exact reads_1 hS a0_0 a0_1 _ _ a0_4 w hG hM
    | 2, _, _ => exact reads_2 hS a0_0 a0_1 _ _ a0_4 w hG hM
    | 3, _, _ => exact reads_3 hS a0_0 a0_1 _ _ a0_4 w hG hM
    | 4, _, _ => exact reads_4 hS a0_0 a0_1 _ _ a0_4 w hG hM
    | 5, _, _ => exact reads_5 hS a0_0 a0_1 _ _ a0_4 w hG hM
    | 6, _, _ => exact reads_6 hS a0_0 a0_1 _ _ a0_4 w hG hM
    | 7, _, _ => exact reads_7 hS a0_0 a0_1 _ _ a0_4 w hG hM
    | 8, _, _ => exact reads_8 hS a0_0 a0_1 _ _ a0_4 w hG hM
    | n + 9, _, h => omega
  · rename_i e0
    cases h
    exact (reads_none a0_0 a0_1 _ _ a0_4 w (bne_iff_ne.2 e0) (beq_eq_false_iff_ne.2 e0) (ht.2 e0)).mono fun e w' ⟨he, hB⟩ => ⟨_, he, Kd.V_nil _ _ _ _ _, hB⟩

/-! ### cmd_joining_writes: function 168 -/
def cmd_joining_writes.f (a0_0 : ByteArray) (l0_1 : List ByteArray) : Option (ByteArray × Bool) := some (a0_0, true)
set_option maxHeartbeats 8000000 in
set_option maxRecDepth 100000 in
theorem cmd_joining_writes.calls (a0_0 : ByteArray) (A0_1 : Option Addr) (c0_1 : Nat) (l0_1 : List ByteArray) (r1 : ByteArray) (r2 : Bool) (w : World) (hr0_1 : Kd.C Kd.string w A0_1 l0_1.length l0_1) (hc0_1 : l0_1.length ≤ c0_1) (h : cmd_joining_writes.f a0_0 l0_1 = some (r1, r2)) :
    Calls Tryz.prog 168 #[.agg #[.string a0_0, .slice A0_1 l0_1.length c0_1]] w fun e w' => e = .returned (.tuple #[.string r1, .bool r2]) ∧ Below w.heap.size w w' := by
  have hu85 := Tryz.underlying85
  have HR0_1 := Aside0.mk hr0_1
  have HC0_1 := Aside0.mk hc0_1
  clear hr0_1 hc0_1
  have HB := Aside0.mk (Below.refl w.heap.size w)
  have H : (some (a0_0, true)) = some (r1, r2) := h
  clear h
  simp only [Option.some.injEq, Prod.mk.injEq] at H
  obtain ⟨rfl, rfl⟩ := H
  go_enter Tryz.func168, Tryz.ntmps168
  go_wp2_with (first | ((with_reducible refine gate_dst (N := 1) rfl ?_); refine box_event ?hg (N := 1) ?hd (cs := #[.string a0_0, .slice A0_1 l0_1.length c0_1]) (t := 85) ?hr ?_; (case hd => rfl); (case hg => rfl); (case hr => first | (go_simp; done) | (go_simp; rfl)); intro gb222 hg w2 hbox hb; have n0_ := Aside0.mk (below_step (by repeat (first | (with_reducible first | exact HB.out | apply below_alloc | apply pw_below_drewN | apply below_drew1) | exact HB.out)) hb); have n1_ := Aside0.mk (hbox); have n2_ := Aside0.mk ((by rw [hg]; exact (below_size (by repeat (first | (with_reducible first | exact HB.out | apply below_alloc | apply pw_below_drewN | apply below_drew1) | exact HB.out))) : w.heap.size ≤ gb222)); have n3_ := Aside0.mk ((by rw [hg]; exact (below_size (by repeat (first | (with_reducible first | exact HB.out | apply below_alloc | apply pw_below_drewN | apply below_drew1) | exact HB.out))) : w.heap.size ≤ gb222)); clear HB; have HB := n0_; have BK222 := n1_; have GW222 := n2_; have GE222 := n3_; clear n0_ n1_ n2_ n3_; clear hb hbox hg; have hcz3_0 : w2.cell? ⟨gb222, 0, none⟩ = some (.string a0_0) := (blk_cell BK222.out 0).trans rfl; have hcz3_1 : w2.cell? ⟨gb222, 1, none⟩ = some (.slice A0_1 l0_1.length c0_1) := (blk_cell BK222.out 1).trans rfl; have hfz3_0 := blk_frozen BK222.out 0; have hfz3_1 := blk_frozen BK222.out 1))
  go_ret2
  exact ⟨by first | rfl | (simp [errW_none, errW_some] <;> rfl) | (simp [*, errW_none, errW_some] <;> rfl), by repeat (first | (with_reducible first | exact HB.out | apply below_alloc | apply pw_below_drewN | apply below_drew1 | refine below_set ?_ GE222.out) | exact HB.out)⟩

/-! ### cmd_echoing_writes: function 176 -/
def cmd_echoing_writes.f (a0_0 : ByteArray) (l0_1 : List ByteArray) : Option (ByteArray × Bool) := some (a0_0, true)
set_option maxHeartbeats 8000000 in
set_option maxRecDepth 100000 in
theorem cmd_echoing_writes.calls (a0_0 : ByteArray) (A0_1 : Option Addr) (c0_1 : Nat) (l0_1 : List ByteArray) (r1 : ByteArray) (r2 : Bool) (w : World) (hr0_1 : Kd.C Kd.string w A0_1 l0_1.length l0_1) (hc0_1 : l0_1.length ≤ c0_1) (h : cmd_echoing_writes.f a0_0 l0_1 = some (r1, r2)) :
    Calls Tryz.prog 176 #[.agg #[.string a0_0, .slice A0_1 l0_1.length c0_1]] w fun e w' => e = .returned (.tuple #[.string r1, .bool r2]) ∧ Below w.heap.size w w' := by
  have hu87 := Tryz.underlying87
  have HR0_1 := Aside0.mk hr0_1
  have HC0_1 := Aside0.mk hc0_1
  clear hr0_1 hc0_1
  have HB := Aside0.mk (Below.refl w.heap.size w)
  have H : (some (a0_0, true)) = some (r1, r2) := h
  clear h
  simp only [Option.some.injEq, Prod.mk.injEq] at H
  obtain ⟨rfl, rfl⟩ := H
  go_enter Tryz.func176, Tryz.ntmps176
  go_wp2_with (first | ((with_reducible refine gate_dst (N := 1) rfl ?_); refine box_event ?hg (N := 1) ?hd (cs := #[.string a0_0, .slice A0_1 l0_1.length c0_1]) (t := 87) ?hr ?_; (case hd => rfl); (case hg => rfl); (case hr => first | (go_simp; done) | (go_simp; rfl)); intro gb223 hg w2 hbox hb; have n0_ := Aside0.mk (below_step (by repeat (first | (with_reducible first | exact HB.out | apply below_alloc | apply pw_below_drewN | apply below_drew1) | exact HB.out)) hb); have n1_ := Aside0.mk (hbox); have n2_ := Aside0.mk ((by rw [hg]; exact (below_size (by repeat (first | (with_reducible first | exact HB.out | apply below_alloc | apply pw_below_drewN | apply below_drew1) | exact HB.out))) : w.heap.size ≤ gb223)); have n3_ := Aside0.mk ((by rw [hg]; exact (below_size (by repeat (first | (with_reducible first | exact HB.out | apply below_alloc | apply pw_below_drewN | apply below_drew1) | exact HB.out))) : w.heap.size ≤ gb223)); clear HB; have HB := n0_; have BK223 := n1_; have GW223 := n2_; have GE223 := n3_; clear n0_ n1_ n2_ n3_; clear hb hbox hg; have hcz3_0 : w2.cell? ⟨gb223, 0, none⟩ = some (.string a0_0) := (blk_cell BK223.out 0).trans rfl; have hcz3_1 : w2.cell? ⟨gb223, 1, none⟩ = some (.slice A0_1 l0_1.length c0_1) := (blk_cell BK223.out 1).trans rfl; have hfz3_0 := blk_frozen BK223.out 0; have hfz3_1 := blk_frozen BK223.out 1))
  go_ret2
  exact ⟨by first | rfl | (simp [errW_none, errW_some] <;> rfl) | (simp [*, errW_none, errW_some] <;> rfl), by repeat (first | (with_reducible first | exact HB.out | apply below_alloc | apply pw_below_drewN | apply below_drew1 | refine below_set ?_ GE223.out) | exact HB.out)⟩

/-! ### cmd_touching_writes: function 183 -/
def cmd_touching_writes.f (a0_0 : ByteArray) : Option (ByteArray × Bool) := some (a0_0, true)
set_option maxHeartbeats 8000000 in
set_option maxRecDepth 100000 in
theorem cmd_touching_writes.calls (a0_0 : ByteArray) (r1 : ByteArray) (r2 : Bool) (w : World) (h : cmd_touching_writes.f a0_0 = some (r1, r2)) :
    Calls Tryz.prog 183 #[.agg #[.string a0_0]] w fun e w' => e = .returned (.tuple #[.string r1, .bool r2]) ∧ Below w.heap.size w w' := by
  have hu89 := Tryz.underlying89
  have HB := Aside0.mk (Below.refl w.heap.size w)
  have H : (some (a0_0, true)) = some (r1, r2) := h
  clear h
  simp only [Option.some.injEq, Prod.mk.injEq] at H
  obtain ⟨rfl, rfl⟩ := H
  go_enter Tryz.func183, Tryz.ntmps183
  go_wp2_with (first | ((with_reducible refine gate_dst (N := 1) rfl ?_); refine box_event ?hg (N := 1) ?hd (cs := #[.string a0_0]) (t := 89) ?hr ?_; (case hd => rfl); (case hg => rfl); (case hr => first | (go_simp; done) | (go_simp; rfl)); intro gb224 hg w2 hbox hb; have n0_ := Aside0.mk (below_step (by repeat (first | (with_reducible first | exact HB.out | apply below_alloc | apply pw_below_drewN | apply below_drew1) | exact HB.out)) hb); have n1_ := Aside0.mk (hbox); have n2_ := Aside0.mk ((by rw [hg]; exact (below_size (by repeat (first | (with_reducible first | exact HB.out | apply below_alloc | apply pw_below_drewN | apply below_drew1) | exact HB.out))) : w.heap.size ≤ gb224)); have n3_ := Aside0.mk ((by rw [hg]; exact (below_size (by repeat (first | (with_reducible first | exact HB.out | apply below_alloc | apply pw_below_drewN | apply below_drew1) | exact HB.out))) : w.heap.size ≤ gb224)); clear HB; have HB := n0_; have BK224 := n1_; have GW224 := n2_; have GE224 := n3_; clear n0_ n1_ n2_ n3_; clear hb hbox hg; have hcz3_0 : w2.cell? ⟨gb224, 0, none⟩ = some (.string a0_0) := (blk_cell BK224.out 0).trans rfl; have hfz3_0 := blk_frozen BK224.out 0))
  go_ret2
  exact ⟨by first | rfl | (simp [errW_none, errW_some] <;> rfl) | (simp [*, errW_none, errW_some] <;> rfl), by repeat (first | (with_reducible first | exact HB.out | apply below_alloc | apply pw_below_drewN | apply below_drew1 | refine below_set ?_ GE224.out) | exact HB.out)⟩

/-! ### cmd_removing_writes: function 188 -/
def cmd_removing_writes.f (a0_0 : ByteArray) : Option (ByteArray × Bool) := some (a0_0, true)
set_option maxHeartbeats 8000000 in
set_option maxRecDepth 100000 in
theorem cmd_removing_writes.calls (a0_0 : ByteArray) (r1 : ByteArray) (r2 : Bool) (w : World) (h : cmd_removing_writes.f a0_0 = some (r1, r2)) :
    Calls Tryz.prog 188 #[.agg #[.string a0_0]] w fun e w' => e = .returned (.tuple #[.string r1, .bool r2]) ∧ Below w.heap.size w w' := by
  have hu90 := Tryz.underlying90
  have HB := Aside0.mk (Below.refl w.heap.size w)
  have H : (some (a0_0, true)) = some (r1, r2) := h
  clear h
  simp only [Option.some.injEq, Prod.mk.injEq] at H
  obtain ⟨rfl, rfl⟩ := H
  go_enter Tryz.func188, Tryz.ntmps188
  go_wp2_with (first | ((with_reducible refine gate_dst (N := 1) rfl ?_); refine box_event ?hg (N := 1) ?hd (cs := #[.string a0_0]) (t := 90) ?hr ?_; (case hd => rfl); (case hg => rfl); (case hr => first | (go_simp; done) | (go_simp; rfl)); intro gb225 hg w2 hbox hb; have n0_ := Aside0.mk (below_step (by repeat (first | (with_reducible first | exact HB.out | apply below_alloc | apply pw_below_drewN | apply below_drew1) | exact HB.out)) hb); have n1_ := Aside0.mk (hbox); have n2_ := Aside0.mk ((by rw [hg]; exact (below_size (by repeat (first | (with_reducible first | exact HB.out | apply below_alloc | apply pw_below_drewN | apply below_drew1) | exact HB.out))) : w.heap.size ≤ gb225)); have n3_ := Aside0.mk ((by rw [hg]; exact (below_size (by repeat (first | (with_reducible first | exact HB.out | apply below_alloc | apply pw_below_drewN | apply below_drew1) | exact HB.out))) : w.heap.size ≤ gb225)); clear HB; have HB := n0_; have BK225 := n1_; have GW225 := n2_; have GE225 := n3_; clear n0_ n1_ n2_ n3_; clear hb hbox hg; have hcz3_0 : w2.cell? ⟨gb225, 0, none⟩ = some (.string a0_0) := (blk_cell BK225.out 0).trans rfl; have hfz3_0 := blk_frozen BK225.out 0))
  go_ret2
  exact ⟨by first | rfl | (simp [errW_none, errW_some] <;> rfl) | (simp [*, errW_none, errW_some] <;> rfl), by repeat (first | (with_reducible first | exact HB.out | apply below_alloc | apply pw_below_drewN | apply below_drew1 | refine below_set ?_ GE225.out) | exact HB.out)⟩

/-! ### cmd_testing_writes: function 193 -/
def cmd_testing_writes.f (a0_0 : ByteArray) : Option (ByteArray × Bool) := some ((⟨#[]⟩ : ByteArray), false)
set_option maxHeartbeats 8000000 in
set_option maxRecDepth 100000 in
theorem cmd_testing_writes.calls (a0_0 : ByteArray) (r1 : ByteArray) (r2 : Bool) (w : World) (h : cmd_testing_writes.f a0_0 = some (r1, r2)) :
    Calls Tryz.prog 193 #[.agg #[.string a0_0]] w fun e w' => e = .returned (.tuple #[.string r1, .bool r2]) ∧ Below w.heap.size w w' := by
  have hu92 := Tryz.underlying92
  have HB := Aside0.mk (Below.refl w.heap.size w)
  have H : (some ((⟨#[]⟩ : ByteArray), false)) = some (r1, r2) := h
  clear h
  simp only [Option.some.injEq, Prod.mk.injEq] at H
  obtain ⟨rfl, rfl⟩ := H
  go_enter Tryz.func193, Tryz.ntmps193
  go_wp2_with (first | ((with_reducible refine gate_dst (N := 1) rfl ?_); refine box_event ?hg (N := 1) ?hd (cs := #[.string a0_0]) (t := 92) ?hr ?_; (case hd => rfl); (case hg => rfl); (case hr => first | (go_simp; done) | (go_simp; rfl)); intro gb226 hg w2 hbox hb; have n0_ := Aside0.mk (below_step (by repeat (first | (with_reducible first | exact HB.out | apply below_alloc | apply pw_below_drewN | apply below_drew1) | exact HB.out)) hb); have n1_ := Aside0.mk (hbox); have n2_ := Aside0.mk ((by rw [hg]; exact (below_size (by repeat (first | (with_reducible first | exact HB.out | apply below_alloc | apply pw_below_drewN | apply below_drew1) | exact HB.out))) : w.heap.size ≤ gb226)); have n3_ := Aside0.mk ((by rw [hg]; exact (below_size (by repeat (first | (with_reducible first | exact HB.out | apply below_alloc | apply pw_below_drewN | apply below_drew1) | exact HB.out))) : w.heap.size ≤ gb226)); clear HB; have HB := n0_; have BK226 := n1_; have GW226 := n2_; have GE226 := n3_; clear n0_ n1_ n2_ n3_; clear hb hbox hg))
  go_ret2
  exact ⟨by first | rfl | (simp [errW_none, errW_some] <;> rfl) | (simp [*, errW_none, errW_some] <;> rfl), by repeat (first | (with_reducible first | exact HB.out | apply below_alloc | apply pw_below_drewN | apply below_drew1 | refine below_set ?_ GE226.out) | exact HB.out)⟩

/-! ### cmd_failing_writes: function 198 -/
def cmd_failing_writes.f (a0_0 : Int) : Option (ByteArray × Bool) := some ((⟨#[]⟩ : ByteArray), false)
set_option maxHeartbeats 8000000 in
set_option maxRecDepth 100000 in
theorem cmd_failing_writes.calls (a0_0 : Int) (r1 : ByteArray) (r2 : Bool) (w : World) (h : cmd_failing_writes.f a0_0 = some (r1, r2)) :
    Calls Tryz.prog 198 #[.agg #[.int .i64 a0_0]] w fun e w' => e = .returned (.tuple #[.string r1, .bool r2]) ∧ Below w.heap.size w w' := by
  have hu94 := Tryz.underlying94
  have HB := Aside0.mk (Below.refl w.heap.size w)
  have H : (some ((⟨#[]⟩ : ByteArray), false)) = some (r1, r2) := h
  clear h
  simp only [Option.some.injEq, Prod.mk.injEq] at H
  obtain ⟨rfl, rfl⟩ := H
  go_enter Tryz.func198, Tryz.ntmps198
  go_wp2_with (first | ((with_reducible refine gate_dst (N := 1) rfl ?_); refine box_event ?hg (N := 1) ?hd (cs := #[.int .i64 a0_0]) (t := 94) ?hr ?_; (case hd => rfl); (case hg => rfl); (case hr => first | (go_simp; done) | (go_simp; rfl)); intro gb227 hg w2 hbox hb; have n0_ := Aside0.mk (below_step (by repeat (first | (with_reducible first | exact HB.out | apply below_alloc | apply pw_below_drewN | apply below_drew1) | exact HB.out)) hb); have n1_ := Aside0.mk (hbox); have n2_ := Aside0.mk ((by rw [hg]; exact (below_size (by repeat (first | (with_reducible first | exact HB.out | apply below_alloc | apply pw_below_drewN | apply below_drew1) | exact HB.out))) : w.heap.size ≤ gb227)); have n3_ := Aside0.mk ((by rw [hg]; exact (below_size (by repeat (first | (with_reducible first | exact HB.out | apply below_alloc | apply pw_below_drewN | apply below_drew1) | exact HB.out))) : w.heap.size ≤ gb227)); clear HB; have HB := n0_; have BK227 := n1_; have GW227 := n2_; have GE227 := n3_; clear n0_ n1_ n2_ n3_; clear hb hbox hg))
  go_ret2
  exact ⟨by first | rfl | (simp [errW_none, errW_some] <;> rfl) | (simp [*, errW_none, errW_some] <;> rfl), by repeat (first | (with_reducible first | exact HB.out | apply below_alloc | apply pw_below_drewN | apply below_drew1 | refine below_set ?_ GE227.out) | exact HB.out)⟩

end Go.Proofs.YtpiafpkpdbknfaaGreatDoor.PCmdSides
