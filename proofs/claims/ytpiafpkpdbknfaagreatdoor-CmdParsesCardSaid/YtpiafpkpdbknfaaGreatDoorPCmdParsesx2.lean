/- Written by a program of this session: for Go functions that the law reaches, what each answers (F.f) and that it answers so (F.calls). Conditions: none beyond those in each statement. -/
import Derived.Test.YtpiafpkpdbknfaaGreatDoorPCmdParsesx0
import Derived.Test.YtpiafpkpdbknfaaGreatDoorPCmdParsesx1
namespace Go.Proofs.YtpiafpkpdbknfaaGreatDoor.PCmdParses
open Go.RowKit Go.Proofs.YtpiafpkpdbknfaaGreatDoorW.PrintWords Go.Proofs.YtpiafpkpdbknfaaGreatDoorW.PrintLast Go.Proofs.YtpiafpkpdbknfaaGreatDoorW.PrintMore
attribute [local go_sem] max2_int min2_int max_two min_two max_three min_three max_four min_four   -- for this text's walks alone
set_option linter.unusedVariables false
set_option linter.unusedSimpArgs false

/-! ### cmd_files: function 36 -/
def cmd_files.l0 : Nat → List ByteArray → Int → Int → Option (Int)
  | 0, _, _, _ => none
  | k + 1, x6, x7, x8 => if x8 < x7 then (if 0 ≤ x8 then (if x8 < (x6.length : Int) then ((names_Check.f k (rdOf ByteArray.empty x6 x8)).bind fun t119 => (if t119 = 0 then (cmd_files.l0 k x6 x7 (wrap64 (x8 + 1))) else (some t119))) else (none)) else (none)) else (some 0)
def cmd_files.f (k : Nat) (l0 : List ByteArray) : Option (Int) := cmd_files.l0 k l0 (l0.length : Int) 0
theorem cmd_files.mono_l : ∀ k, (∀ y0 y1 y2, LeO (cmd_files.l0 k y0 y1 y2) (cmd_files.l0 (k + 1) y0 y1 y2))
  | 0 => fun _ _ _ r h => by simp [cmd_files.l0] at h
  | k + 1 => by
    have ih0 := cmd_files.mono_l k
    · intro y0 y1 y2
      unfold cmd_files.l0
      repeat' first
      | (with_reducible exact ih0 _ _ _)
      | (with_reducible exact names_Check.mono _ _)
      | (with_reducible exact LeO.refl _)
      | (with_reducible exact LeO.none _)
      | (with_reducible refine LeO.ite ?_ ?_)
      | (with_reducible refine LeO.bind ?_ (fun _ => ?_))
      | exact ih0 _ _ _
      | exact names_Check.mono _ _
      | exact LeO.none _
      | refine LeO.ite ?_ ?_
      | refine LeO.bind ?_ (fun _ => ?_)
theorem cmd_files.mono : ∀ a0 k, LeO (cmd_files.f k a0) (cmd_files.f (k + 1) a0) := by
  intro a0 k
  have ih0 := cmd_files.mono_l k
  unfold cmd_files.f
  repeat' first
      | (with_reducible exact ih0 _ _ _)
      | (with_reducible exact names_Check.mono _ _)
      | (with_reducible exact LeO.refl _)
      | (with_reducible exact LeO.none _)
      | (with_reducible refine LeO.ite ?_ ?_)
      | (with_reducible refine LeO.bind ?_ (fun _ => ?_))
      | exact ih0 _ _ _
      | exact names_Check.mono _ _
      | exact LeO.none _
      | refine LeO.ite ?_ ?_
      | refine LeO.bind ?_ (fun _ => ?_)
set_option maxHeartbeats 8000000 in
set_option maxRecDepth 100000 in
theorem cmd_files.calls (k : Nat) (A0 : Option Addr) (c0 : Nat) (l0 : List ByteArray) (r : Int) (w : World) (hr0 : Kd.C Kd.string w A0 l0.length l0) (hc0 : l0.length ≤ c0) (h : cmd_files.f k l0 = some r) :
    Calls Tryz.prog 36 #[.slice A0 l0.length c0] w fun e w' => e = .returned (.int .i64 r) ∧ Drawn0 w w' := by
  have HR0 := Aside0.mk hr0
  have HC0 := Aside0.mk hc0
  clear hr0 hc0
  have H : (cmd_files.l0 k l0 (l0.length : Int) 0) = some r := h
  clear h
  have H' := Aside0.mk H
  clear H
  go_enter Tryz.func36, Tryz.ntmps36
  go_wp2
  go_loopg [8] k (fun kq v8 w' => ∃ (x8_1 : Int), v8 = .int .i64 x8_1 ∧ Aside0 (cmd_files.l0 kq l0 (l0.length : Int) x8_1 = some r) ∧ Aside0 (kq ≤ k) ∧ Drawn0 w w')
  case atStart => exact ⟨(0), (by first | rfl | (simp; done) | (simp [*]; done) | (simp; generalize ByteArray.toList _ = l_; cases l_ <;> rfl)), H', ⟨Nat.le_refl _⟩, by repeat (first | exact Drawn0.refl _ | apply Drawn0.step)⟩
  case round =>
    clear H'
    obtain ⟨x8_1, rfl, HA, HK1, ⟨m1, rfl⟩⟩ := hrel
    cases gk with
    | zero => exact absurd HA.out (by simp [cmd_files.l0])
    | succ k1 =>
      have H := HA.out
      clear HA
      simp only [cmd_files.l0] at H
      by_cases c2 : x8_1 < (l0.length : Int)
      · rw [if_pos c2] at H
        have c2b0 : decide (x8_1 < (l0.length : Int)) = true := decide_eq_true c2
        clear c2
        by_cases c3 : 0 ≤ x8_1
        · rw [if_pos c3] at H
          have c3b0 : decide (0 ≤ x8_1) = true := decide_eq_true c3
          clear c3
          by_cases c4 : x8_1 < (l0.length : Int)
          · rw [if_pos c4] at H
            have c4b0 : decide (x8_1 < (l0.length : Int)) = true := decide_eq_true c4
            clear c4
            replace H := Option.bind_eq_some_iff.mp H
            obtain ⟨t119, A50, H⟩ := H
            replace H : (if t119 = 0 then (cmd_files.l0 k1 l0 (l0.length : Int) (wrap64 (x8_1 + 1))) else (some t119)) = some r := H
            have A5 := Aside0.mk A50
            clear A50
            by_cases c6 : t119 = 0
            · rw [if_pos c6] at H
              have c6b0 : (t119 == 0) = true := beq_iff_eq.mpr c6
              have c6b1 : (t119 != 0) = false := bne_eq_false_iff_eq.mpr c6
              clear c6
              have H' := Aside0.mk H
              clear H
              have p118 : 0 ≤ (x8_1 : Int) := of_decide_eq_true (by first | (with_reducible assumption) | assumption)
              have q118 : x8_1 < (l0.length : Int) := of_decide_eq_true (by first | (with_reducible assumption) | assumption)
              obtain ⟨ad118, e118, hx118_0⟩ := Kd.at_string HR0.out x8_1 p118 q118
              cases e118
              replace p118 := eq_true p118
              replace q118 := eq_true q118
              go_wp2_with (first | ((with_reducible refine gate_callee (f := 54) rfl ?_); refine goesL_ (some 13) rfl rfl Tryz.func54 (by kernel_rfl) rfl #[.string (rdOf ByteArray.empty l0 x8_1)] rfl (by (try simp only [List.map_toArray, List.map_cons, List.map_nil]); first | done | rfl | (simp only [List.length_drop, List.length_take]; rfl)) ?_; (with_reducible refine (names_Check.calls k1 (rdOf ByteArray.empty l0 x8_1) t119 _ A5.out).mono ?_); rintro e w' ⟨rfl, ⟨nd, rfl⟩⟩; refine ⟨_, rfl, ?_⟩))
              go_roundg k1
              case measure => have := HK1.out; omega
              case rel => exact ⟨(wrap64 (x8_1 + 1)), (by first | rfl | (simp; done) | (simp [*]; done) | (simp; generalize ByteArray.toList _ = l_; cases l_ <;> rfl)), H', ⟨by have := HK1.out; omega⟩, by repeat (first | exact Drawn0.refl _ | apply Drawn0.step)⟩
            · rw [if_neg c6] at H
              have c6b0 : (t119 == 0) = false := beq_eq_false_iff_ne.mpr c6
              have c6b1 : (t119 != 0) = true := bne_iff_ne.mpr c6
              obtain rfl := Option.some.inj H
              have p118 : 0 ≤ (x8_1 : Int) := of_decide_eq_true (by first | (with_reducible assumption) | assumption)
              have q118 : x8_1 < (l0.length : Int) := of_decide_eq_true (by first | (with_reducible assumption) | assumption)
              obtain ⟨ad118, e118, hx118_0⟩ := Kd.at_string HR0.out x8_1 p118 q118
              cases e118
              replace p118 := eq_true p118
              replace q118 := eq_true q118
              go_wp2_with (first | ((with_reducible refine gate_callee (f := 54) rfl ?_); refine goesL_ (some 13) rfl rfl Tryz.func54 (by kernel_rfl) rfl #[.string (rdOf ByteArray.empty l0 x8_1)] rfl (by (try simp only [List.map_toArray, List.map_cons, List.map_nil]); first | done | rfl | (simp only [List.length_drop, List.length_take]; rfl)) ?_; (with_reducible refine (names_Check.calls k1 (rdOf ByteArray.empty l0 x8_1) t119 _ A5.out).mono ?_); rintro e w' ⟨rfl, ⟨nd, rfl⟩⟩; refine ⟨_, rfl, ?_⟩))
              go_ret
              exact ⟨by first | rfl | (simp; done) | (simp [*]; done) | (simp; generalize ByteArray.toList _ = l_; cases l_ <;> rfl), by repeat (first | exact Drawn0.refl _ | apply Drawn0.step)⟩
          · rw [if_neg c4] at H
            exact absurd H (by simp)
        · rw [if_neg c3] at H
          exact absurd H (by simp)
      · rw [if_neg c2] at H
        have c2b0 : decide (x8_1 < (l0.length : Int)) = false := decide_eq_false c2
        clear c2
        obtain rfl := Option.some.inj H
        go_wp2
        go_ret
        exact ⟨by first | rfl | (simp; done) | (simp [*]; done) | (simp; generalize ByteArray.toList _ = l_; cases l_ <;> rfl), by repeat (first | exact Drawn0.refl _ | apply Drawn0.step)⟩

/-! ### cmd_Parse: function 9 -/
open Go.Proofs.YtpiafpkpdbknfaaGreatDoor.Sup
/-- What Parse tells where the words are wrong. -/
def cmd_Parse.bad (er : Int) : Option (Int × ByteArray × List ByteArray × List ByteArray × Int × Int) := some (0, ByteArray.empty, [], [], 0, er)
/-- What Parse tells where all but the names is right. -/
def cmd_Parse.named (k : Nat) (fl : List ByteArray) (r : Int × ByteArray × List ByteArray × List ByteArray × Int × Int) : Option (Int × ByteArray × List ByteArray × List ByteArray × Int × Int) :=
  (cmd_files.f k fl).bind fun e => if e = 0 then some r else cmd_Parse.bad e
def cmd_Parse.op (k : Nat) (i : Int) (l : List ByteArray) : Option (Int × ByteArray × List ByteArray × List ByteArray × Int × Int) :=
  if i = 0 then (match l with | [a, d] => cmd_Parse.named k [a, d] (1, d, [a], [], 0, 0) | _ => none)
  else if i = 1 then (match l with | d :: ws => cmd_Parse.named k (d :: ws) (2, d, ws, [], 0, 0) | _ => none)
  else if i = 2 then (match l with | d :: ws => cmd_Parse.named k [d] (3, d, [], ws, 0, 0) | _ => none)
  else if i = 3 then (match l with | [d] => cmd_Parse.named k [d] (4, d, [], [], 0, 0) | _ => none)
  else if i = 4 then (match l with | [d] => cmd_Parse.named k [d] (5, d, [], [], 0, 0) | _ => none)
  else if i = 5 then (match l with | [d] => cmd_Parse.named k [d] (6, ByteArray.empty, [d], [], 0, 0) | _ => none)
  else if i = 6 then (match l with
    | [] => some (7, ByteArray.empty, [], [], 1, 0)
    | [s] => if s.size ≤ 140737488355328 then (if failN s = 0 then cmd_Parse.bad 160 else some (7, ByteArray.empty, [], [], failN s, 0)) else none
    | _ => none)
  else if i = 7 then some (8, ByteArray.empty, [], l, 0, 0)
  else none
def cmd_Parse.f (k : Nat) (l0 : List ByteArray) : Option (Int × ByteArray × List ByteArray × List ByteArray × Int × Int) :=
  match l0 with
  | [] => cmd_Parse.bad 9
  | x :: l => if 514 < l.length + 1 then cmd_Parse.bad 2 else
    (slices_Index_string_string.f k headsL x).bind fun i => if i = -1 then cmd_Parse.bad 160 else if i < 0 ∨ 8 ≤ i then none else
    (cmd_count.f k (i + 1) (l.length : Int)).bind fun b => if b = false then cmd_Parse.bad 160 else cmd_Parse.op k i l
theorem cmd_Parse.heads_ : HeadsOk := by
  intro w
  refine (cmd_heads.calls _ w rfl).mono fun e w' ⟨v0, he, hR, hB⟩ => ?_
  obtain ⟨A, c, rfl⟩ := Kd.R_slice hR
  have hC := Kd.R_reads' hR
  obtain ⟨h0, inner, ho, hr⟩ := hR
  obtain ⟨h1, h2⟩ := ho
  rcases h2 with ⟨_, h0⟩ | ⟨g, cap, cur, hv, hg, hh, hnc, _, _, _⟩
  · exact absurd h0 (by simp)
  · injection hv with e1 _ e3
    subst e1 e3
    refine ⟨g, c, he, hnc, ?_, hB, eq_false (fun e_ => by have h9 : 9 ≤ c := hnc; omega)⟩
    have h9 : 9 ≤ c := hnc
    have := Kd.C_drop (m := 1) hC.2.2 (by simp) hnc
    rw [if_neg (by omega)] at this
    exact this
theorem cmd_Parse.index_ {k : Nat} {x : ByteArray} {i : Int} (hx : slices_Index_string_string.f k headsL x = some i) : IndexOk x i := fun g cap w hcap h =>
  slices_Index_string_string.calls k (some ⟨g, 1, none⟩) (cap - 1) headsL x i w h (by show 8 ≤ cap - 1; omega) hx
theorem cmd_Parse.clone_ : CloneOk := by
  intro A c m l w hm hc hs hr
  subst hm
  refine (slices_Clone_string_string.calls A c l l w hr hc (by unfold slices_Clone_string_string.f; rw [if_pos hs])).mono fun e w' ⟨v0, he, ho, hb⟩ => ?_
  obtain ⟨A2, c2, rfl⟩ := Kd.R_slice ho
  exact ⟨A2, c2, he, ⟨ho⟩, ⟨hb⟩⟩
theorem cmd_Parse.count_ {k : Nat} {op n : Int} {b : Bool} (h : cmd_count.f k op n = some b) : CountOk op n b := fun w => cmd_count.calls k op n b w h
theorem cmd_Parse.files_ {k : Nat} {l : List ByteArray} {er : Int} (h : cmd_files.f k l = some er) : FilesOk l er := fun A c w hc hr => cmd_files.calls k A c l er w hr hc h
theorem cmd_Parse.mono : ∀ a0 k, LeO (cmd_Parse.f k a0) (cmd_Parse.f (k + 1) a0) := by
  intro a0 k r h
  have hn : ∀ fl q r, cmd_Parse.named k fl q = some r → cmd_Parse.named (k + 1) fl q = some r := by
    intro fl q r h
    unfold cmd_Parse.named at h ⊢
    replace h := Option.bind_eq_some_iff.1 h
    obtain ⟨e, he, h⟩ := h
    rw [cmd_files.mono fl k e he]
    exact h
  cases a0 with
  | nil => exact h
  | cons x l =>
    simp only [cmd_Parse.f] at h ⊢
    split at h
    · rw [if_pos (by assumption)]; exact h
    · rw [if_neg (by assumption)]
      replace h := Option.bind_eq_some_iff.1 h
      obtain ⟨i, hi, h⟩ := h
      rw [slices_Index_string_string.mono headsL x k i hi]
      simp only [Option.bind_some]
      split at h
      · rw [if_pos (by assumption)]; exact h
      · rw [if_neg (by assumption)]
        split at h
        · cases h
        rw [if_neg (by assumption)]
        replace h := Option.bind_eq_some_iff.1 h
        obtain ⟨b, hb, h⟩ := h
        rw [cmd_count.mono (i + 1) (l.length : Int) k b hb]
        simp only [Option.bind_some]
        split at h
        · rw [if_pos (by assumption)]; exact h
        · rw [if_neg (by assumption)]
          unfold cmd_Parse.op at h ⊢
          repeat' (first | (exact hn _ _ _ h) | (exact h) | (split at h <;> first | rw [if_pos (by assumption)] | rw [if_neg (by assumption)] | skip))
theorem cmd_Parse.none_ : FilesOk [] 0 := cmd_Parse.files_ (k := 3) rfl
theorem cmd_Parse.wrap_ {i : Int} (h : ¬ (i < 0 ∨ 8 ≤ i)) : IntKind.i64.wrap (i + 1) = i + 1 := by
  have : i = 0 ∨ i = 1 ∨ i = 2 ∨ i = 3 ∨ i = 4 ∨ i = 5 ∨ i = 6 ∨ i = 7 := by omega
  rcases this with rfl | rfl | rfl | rfl | rfl | rfl | rfl | rfl <;> rfl
/-- One way's end: the names are right, or one is wrong. -/
theorem cmd_Parse.ways {P : Int → ByteArray → List ByteArray → List ByteArray → Int → Int → Prop} {k : Nat} {fl : List ByteArray} {q1 : Int} {q2 : ByteArray} {q3 q4 : List ByteArray} {q5 r1 : Int} {r2 : ByteArray} {r3 r4 : List ByteArray} {r5 r6 : Int}
    (h : cmd_Parse.named k fl (q1, q2, q3, q4, q5, 0) = some (r1, r2, r3, r4, r5, r6)) (go : ∀ (b : Bool) (er : Int), cond b (er = 0) ((er != 0) = true) → FilesOk fl er → P (cond b q1 0) (cond b q2 ByteArray.empty) (cond b q3 []) (cond b q4 []) (cond b q5 0) (cond b 0 er)) : P r1 r2 r3 r4 r5 r6 := by
  unfold cmd_Parse.named at h
  replace h := Option.bind_eq_some_iff.1 h
  obtain ⟨e, he, h⟩ := h
  split at h
  · rename_i h0
    have hg := go true e h0 (cmd_Parse.files_ he)
    cases h
    exact hg
  · rename_i h0
    have hg := go false e (bne_iff_ne.2 h0) (cmd_Parse.files_ he)
    cases h
    exact hg
theorem cmd_Parse.calls (k : Nat) (A0 : Option Addr) (c0 : Nat) (l0 : List ByteArray) (r1 : Int) (r2 : ByteArray) (r3 : List ByteArray) (r4 : List ByteArray) (r5 : Int) (r6 : Int) (w : World) (hr0 : Kd.C Kd.string w A0 l0.length l0) (hc0 : l0.length ≤ c0) (hT : Go.Proofs.YtpiafpkpdbknfaaGreatDoor.Sup.Tab w) (h : cmd_Parse.f k l0 = some (r1, r2, r3, r4, r5, r6)) :
    Calls Tryz.prog 9 #[.slice A0 l0.length c0] w fun e w' => ∃ v2_ v3_ : Value, e = .returned (.tuple #[.agg #[.int .i64 r1, .string r2, v2_, v3_, .int .i64 r5], .int .i64 r6]) ∧ Kd.V Kd.string 9 w' w.heap.size (fun k_ => (w.heap.size ≤ k_)) v2_ r3 ∧ Kd.V Kd.string 9 w' w.heap.size (fun k_ => (w.heap.size ≤ k_)) v3_ r4 ∧ Below w.heap.size w w' := by
  suffices hS : Calls Tryz.prog 9 #[.slice A0 l0.length c0] w fun ev w' => parseP w w' ev r1 r2 r3 r4 r5 r6 by
    refine hS.mono fun e w' ⟨⟨v2, v3, he, h2, h3⟩, hb⟩ => ⟨v2, v3, he, h2, h3, hb⟩
  have HH := cmd_Parse.heads_
  have HL := cmd_Parse.clone_
  cases l0 with
  | nil => cases h; exact parse_none A0 c0 w
  | cons x l =>
    simp only [cmd_Parse.f] at h
    have hcap := hr0.2.1
    split at h
    · rename_i hl
      cases h
      exact parse_long A0 (x :: l).length c0 w hl hcap
    · rename_i hl
      have hl : (x :: l).length ≤ 514 := by rw [List.length_cons]; omega
      replace h := Option.bind_eq_some_iff.1 h
      obtain ⟨i, hi, h⟩ := h
      have HX := cmd_Parse.index_ hi
      split at h
      · rename_i h0
        subst h0
        cases h
        exact parse_bad l A0 c0 x w hr0 hc0 hl HH HL HX
      · split at h
        · cases h
        rename_i h0 hi8
        replace h := Option.bind_eq_some_iff.1 h
        obtain ⟨b, hb, h⟩ := h
        have HCNT := cmd_Parse.count_ hb
        split at h
        · rename_i hb0
          subst hb0
          cases h
          exact parse_cnt l i (i + 1) (cmd_Parse.wrap_ hi8) (beq_eq_false_iff_ne.2 (by omega)) A0 c0 x w hr0 hc0 hl HH HL HX HCNT
        · rename_i hb0
          obtain rfl : b = true := by cases b <;> simp_all
          unfold cmd_Parse.op at h
          split at h
          · rename_i e0
            subst e0
            split at h
            · exact cmd_Parse.ways (P := fun r1 r2 r3 r4 r5 r6 => Calls Tryz.prog 9 _ w fun ev w' => parseP w w' ev r1 r2 r3 r4 r5 r6) h (fun b er her HF => by have h_ := parse_copy _ _ b er her A0 c0 x w hr0 hc0 hl HH HL HX HCNT HF; cases b <;> exact h_)
            · cases h
          split at h
          · rename_i e0
            subst e0
            split at h
            · exact cmd_Parse.ways (P := fun r1 r2 r3 r4 r5 r6 => Calls Tryz.prog 9 _ w fun ev w' => parseP w w' ev r1 r2 r3 r4 r5 r6) h (fun b er her HF => by have h_ := parse_concat _ _ b er her A0 c0 x w hr0 hc0 hl HH HL HX HCNT HF; cases b <;> exact h_)
            · cases h
          split at h
          · rename_i e0
            subst e0
            split at h
            · exact cmd_Parse.ways (P := fun r1 r2 r3 r4 r5 r6 => Calls Tryz.prog 9 _ w fun ev w' => parseP w w' ev r1 r2 r3 r4 r5 r6) h (fun b er her HF => by have h_ := parse_echo _ _ b er her A0 c0 x w hr0 hc0 hl HH HL HX HCNT HF; cases b <;> exact h_)
            · cases h
          split at h
          · rename_i e0
            subst e0
            split at h
            · exact cmd_Parse.ways (P := fun r1 r2 r3 r4 r5 r6 => Calls Tryz.prog 9 _ w fun ev w' => parseP w w' ev r1 r2 r3 r4 r5 r6) h (fun b er her HF => by have h_ := parse_touch _ b er her A0 c0 x w hr0 hc0 hl HH HL HX HCNT HF; cases b <;> exact h_)
            · cases h
          split at h
          · rename_i e0
            subst e0
            split at h
            · exact cmd_Parse.ways (P := fun r1 r2 r3 r4 r5 r6 => Calls Tryz.prog 9 _ w fun ev w' => parseP w w' ev r1 r2 r3 r4 r5 r6) h (fun b er her HF => by have h_ := parse_remove _ b er her A0 c0 x w hr0 hc0 hl HH HL HX HCNT HF; cases b <;> exact h_)
            · cases h
          split at h
          · rename_i e0
            subst e0
            split at h
            · exact cmd_Parse.ways (P := fun r1 r2 r3 r4 r5 r6 => Calls Tryz.prog 9 _ w fun ev w' => parseP w w' ev r1 r2 r3 r4 r5 r6) h (fun b er her HF => by have h_ := parse_test _ b er her A0 c0 x w hr0 hc0 hl HH HL HX HCNT HF; cases b <;> exact h_)
            · cases h
          split at h
          · rename_i e0
            subst e0
            split at h
            · cases h; exact parse_fail A0 c0 x w hr0 hc0 hl HH HL HX HCNT cmd_Parse.none_
            · split at h
              · rename_i hs
                split at h
                · rename_i hn0
                  cases h
                  exact parse_fail_no _ hs hn0 A0 c0 x w hr0 hc0 hl HH HL HX HCNT hT
                · rename_i hn0
                  cases h; exact parse_fail_n _ hs hn0 A0 c0 x w hr0 hc0 hl HH HL HX HCNT cmd_Parse.none_ hT
              · cases h
            · cases h
          split at h
          · rename_i e0
            subst e0
            cases h; exact parse_say _ A0 c0 x w hr0 hc0 hl HH HL HX HCNT cmd_Parse.none_
          · cases h

/-! ### smithyref16_Name: function 24 -/
def smithyref16_Name.f (a0 : Int) : Option (ByteArray) := if a0 = 1 then (some (⟨#[99, 111, 112, 121]⟩ : ByteArray)) else (if a0 = 2 then (some (⟨#[99, 111, 110, 99, 97, 116]⟩ : ByteArray)) else (if a0 = 3 then (some (⟨#[101, 99, 104, 111, 45, 116, 111]⟩ : ByteArray)) else (if a0 = 4 then (some (⟨#[116, 111, 117, 99, 104]⟩ : ByteArray)) else (if a0 = 5 then (some (⟨#[114, 101, 109, 111, 118, 101]⟩ : ByteArray)) else (if a0 = 6 then (some (⟨#[116, 101, 115, 116, 45, 101, 120, 105, 115, 116, 115]⟩ : ByteArray)) else (if a0 = 7 then (some (⟨#[102, 97, 105, 108]⟩ : ByteArray)) else (if a0 = 8 then (some (⟨#[115, 97, 121]⟩ : ByteArray)) else (some (⟨#[]⟩ : ByteArray)))))))))
set_option maxHeartbeats 8000000 in
set_option maxRecDepth 100000 in
theorem smithyref16_Name.calls (a0 : Int) (r : ByteArray) (w : World) (h : smithyref16_Name.f a0 = some r) :
    Calls Tryz.prog 24 #[.int .i64 a0] w fun e w' => e = .returned (.string r) ∧ Drawn0 w w' := by
  have H : (if a0 = 1 then (some (⟨#[99, 111, 112, 121]⟩ : ByteArray)) else (if a0 = 2 then (some (⟨#[99, 111, 110, 99, 97, 116]⟩ : ByteArray)) else (if a0 = 3 then (some (⟨#[101, 99, 104, 111, 45, 116, 111]⟩ : ByteArray)) else (if a0 = 4 then (some (⟨#[116, 111, 117, 99, 104]⟩ : ByteArray)) else (if a0 = 5 then (some (⟨#[114, 101, 109, 111, 118, 101]⟩ : ByteArray)) else (if a0 = 6 then (some (⟨#[116, 101, 115, 116, 45, 101, 120, 105, 115, 116, 115]⟩ : ByteArray)) else (if a0 = 7 then (some (⟨#[102, 97, 105, 108]⟩ : ByteArray)) else (if a0 = 8 then (some (⟨#[115, 97, 121]⟩ : ByteArray)) else (some (⟨#[]⟩ : ByteArray)))))))))) = some r := h
  clear h
  by_cases c2 : a0 = 1
  · rw [if_pos c2] at H
    have c2b0 : (a0 == 1) = true := beq_iff_eq.mpr c2
    have c2b1 : (a0 != 1) = false := bne_eq_false_iff_eq.mpr c2
    clear c2
    obtain rfl := Option.some.inj H
    go_enter Tryz.func24, Tryz.ntmps24
    go_wp2
    go_ret
    exact ⟨by first | rfl | (simp; done) | (simp [*]; done) | (simp; generalize ByteArray.toList _ = l_; cases l_ <;> rfl), by repeat (first | exact Drawn0.refl _ | apply Drawn0.step)⟩
  · rw [if_neg c2] at H
    have c2b0 : (a0 == 1) = false := beq_eq_false_iff_ne.mpr c2
    have c2b1 : (a0 != 1) = true := bne_iff_ne.mpr c2
    by_cases c3 : a0 = 2
    · rw [if_pos c3] at H
      have c3b0 : (a0 == 2) = true := beq_iff_eq.mpr c3
      have c3b1 : (a0 != 2) = false := bne_eq_false_iff_eq.mpr c3
      clear c3
      obtain rfl := Option.some.inj H
      go_enter Tryz.func24, Tryz.ntmps24
      go_wp2
      go_ret
      exact ⟨by first | rfl | (simp; done) | (simp [*]; done) | (simp; generalize ByteArray.toList _ = l_; cases l_ <;> rfl), by repeat (first | exact Drawn0.refl _ | apply Drawn0.step)⟩
    · rw [if_neg c3] at H
      have c3b0 : (a0 == 2) = false := beq_eq_false_iff_ne.mpr c3
      have c3b1 : (a0 != 2) = true := bne_iff_ne.mpr c3
      by_cases c4 : a0 = 3
      · rw [if_pos c4] at H
        have c4b0 : (a0 == 3) = true := beq_iff_eq.mpr c4
        have c4b1 : (a0 != 3) = false := bne_eq_false_iff_eq.mpr c4
        clear c4
        obtain rfl := Option.some.inj H
        go_enter Tryz.func24, Tryz.ntmps24
        go_wp2
        go_ret
        exact ⟨by first | rfl | (simp; done) | (simp [*]; done) | (simp; generalize ByteArray.toList _ = l_; cases l_ <;> rfl), by repeat (first | exact Drawn0.refl _ | apply Drawn0.step)⟩
      · rw [if_neg c4] at H
        have c4b0 : (a0 == 3) = false := beq_eq_false_iff_ne.mpr c4
        have c4b1 : (a0 != 3) = true := bne_iff_ne.mpr c4
        by_cases c5 : a0 = 4
        · rw [if_pos c5] at H
          have c5b0 : (a0 == 4) = true := beq_iff_eq.mpr c5
          have c5b1 : (a0 != 4) = false := bne_eq_false_iff_eq.mpr c5
          clear c5
          obtain rfl := Option.some.inj H
          go_enter Tryz.func24, Tryz.ntmps24
          go_wp2
          go_ret
          exact ⟨by first | rfl | (simp; done) | (simp [*]; done) | (simp; generalize ByteArray.toList _ = l_; cases l_ <;> rfl), by repeat (first | exact Drawn0.refl _ | apply Drawn0.step)⟩
        · rw [if_neg c5] at H
          have c5b0 : (a0 == 4) = false := beq_eq_false_iff_ne.mpr c5
          have c5b1 : (a0 != 4) = true := bne_iff_ne.mpr c5
          by_cases c6 : a0 = 5
          · rw [if_pos c6] at H
            have c6b0 : (a0 == 5) = true := beq_iff_eq.mpr c6
            have c6b1 : (a0 != 5) = false := bne_eq_false_iff_eq.mpr c6
            clear c6
            obtain rfl := Option.some.inj H
            go_enter Tryz.func24, Tryz.ntmps24
            go_wp2
            go_ret
            exact ⟨by first | rfl | (simp; done) | (simp [*]; done) | (simp; generalize ByteArray.toList _ = l_; cases l_ <;> rfl), by repeat (first | exact Drawn0.refl _ | apply Drawn0.step)⟩
          · rw [if_neg c6] at H
            have c6b0 : (a0 == 5) = false := beq_eq_false_iff_ne.mpr c6
            have c6b1 : (a0 != 5) = true := bne_iff_ne.mpr c6
            by_cases c7 : a0 = 6
            · rw [if_pos c7] at H
              have c7b0 : (a0 == 6) = true := beq_iff_eq.mpr c7
              have c7b1 : (a0 != 6) = false := bne_eq_false_iff_eq.mpr c7
              clear c7
              obtain rfl := Option.some.inj H
              go_enter Tryz.func24, Tryz.ntmps24
              go_wp2
              go_ret
              exact ⟨by first | rfl | (simp; done) | (simp [*]; done) | (simp; generalize ByteArray.toList _ = l_; cases l_ <;> rfl), by repeat (first | exact Drawn0.refl _ | apply Drawn0.step)⟩
            · rw [if_neg c7] at H
              have c7b0 : (a0 == 6) = false := beq_eq_false_iff_ne.mpr c7
              have c7b1 : (a0 != 6) = true := bne_iff_ne.mpr c7
              by_cases c8 : a0 = 7
              · rw [if_pos c8] at H
                have c8b0 : (a0 == 7) = true := beq_iff_eq.mpr c8
                have c8b1 : (a0 != 7) = false := bne_eq_false_iff_eq.mpr c8
                clear c8
                obtain rfl := Option.some.inj H
                go_enter Tryz.func24, Tryz.ntmps24
                go_wp2
                go_ret
                exact ⟨by first | rfl | (simp; done) | (simp [*]; done) | (simp; generalize ByteArray.toList _ = l_; cases l_ <;> rfl), by repeat (first | exact Drawn0.refl _ | apply Drawn0.step)⟩
              · rw [if_neg c8] at H
                have c8b0 : (a0 == 7) = false := beq_eq_false_iff_ne.mpr c8
                have c8b1 : (a0 != 7) = true := bne_iff_ne.mpr c8
                by_cases c9 : a0 = 8
                · rw [if_pos c9] at H
                  have c9b0 : (a0 == 8) = true := beq_iff_eq.mpr c9
                  have c9b1 : (a0 != 8) = false := bne_eq_false_iff_eq.mpr c9
                  clear c9
                  obtain rfl := Option.some.inj H
                  go_enter Tryz.func24, Tryz.ntmps24
                  go_wp2
                  go_ret
                  exact ⟨by first | rfl | (simp; done) | (simp [*]; done) | (simp; generalize ByteArray.toList _ = l_; cases l_ <;> rfl), by repeat (first | exact Drawn0.refl _ | apply Drawn0.step)⟩
                · rw [if_neg c9] at H
                  have c9b0 : (a0 == 8) = false := beq_eq_false_iff_ne.mpr c9
                  have c9b1 : (a0 != 8) = true := bne_iff_ne.mpr c9
                  obtain rfl := Option.some.inj H
                  go_enter Tryz.func24, Tryz.ntmps24
                  go_wp2
                  go_ret
                  exact ⟨by first | rfl | (simp; done) | (simp [*]; done) | (simp; generalize ByteArray.toList _ = l_; cases l_ <;> rfl), by repeat (first | exact Drawn0.refl _ | apply Drawn0.step)⟩

/-! ### smithyref16_op: function 37 -/
def smithyref16_op.l0 : Nat → ByteArray → Int → Option (Int)
  | 0, _, _ => none
  | k + 1, x0, x3 => if x3 ≤ 8 then ((smithyref16_Name.f x3).bind fun t120 => (if t120.toList = x0.toList then (some x3) else (smithyref16_op.l0 k x0 (wrap64 (x3 + 1))))) else (some 0)
def smithyref16_op.f (k : Nat) (a0 : ByteArray) : Option (Int) := smithyref16_op.l0 k a0 1
theorem smithyref16_op.mono_l : ∀ k, (∀ y0 y1, LeO (smithyref16_op.l0 k y0 y1) (smithyref16_op.l0 (k + 1) y0 y1))
  | 0 => fun _ _ r h => by simp [smithyref16_op.l0] at h
  | k + 1 => by
    have ih0 := smithyref16_op.mono_l k
    · intro y0 y1
      unfold smithyref16_op.l0
      repeat' first
      | (with_reducible exact ih0 _ _)
      | (with_reducible exact LeO.refl _)
      | (with_reducible exact LeO.none _)
      | (with_reducible refine LeO.ite ?_ ?_)
      | (with_reducible refine LeO.bind ?_ (fun _ => ?_))
      | exact ih0 _ _
      | exact LeO.none _
      | refine LeO.ite ?_ ?_
      | refine LeO.bind ?_ (fun _ => ?_)
theorem smithyref16_op.mono : ∀ a0 k, LeO (smithyref16_op.f k a0) (smithyref16_op.f (k + 1) a0) := by
  intro a0 k
  have ih0 := smithyref16_op.mono_l k
  unfold smithyref16_op.f
  repeat' first
      | (with_reducible exact ih0 _ _)
      | (with_reducible exact LeO.refl _)
      | (with_reducible exact LeO.none _)
      | (with_reducible refine LeO.ite ?_ ?_)
      | (with_reducible refine LeO.bind ?_ (fun _ => ?_))
      | exact ih0 _ _
      | exact LeO.none _
      | refine LeO.ite ?_ ?_
      | refine LeO.bind ?_ (fun _ => ?_)
set_option maxHeartbeats 8000000 in
set_option maxRecDepth 100000 in
theorem smithyref16_op.calls (k : Nat) (a0 : ByteArray) (r : Int) (w : World) (h : smithyref16_op.f k a0 = some r) :
    Calls Tryz.prog 37 #[.string a0] w fun e w' => e = .returned (.int .i64 r) ∧ Drawn0 w w' := by
  have H : (smithyref16_op.l0 k a0 1) = some r := h
  clear h
  have H' := Aside0.mk H
  clear H
  go_enter Tryz.func37, Tryz.ntmps37
  go_wp2
  go_loopg [3] k (fun kq v3 w' => ∃ (x3_1 : Int), v3 = .int .i64 x3_1 ∧ Aside0 (smithyref16_op.l0 kq a0 x3_1 = some r) ∧ Aside0 (kq ≤ k) ∧ Drawn0 w w')
  case atStart => exact ⟨(1), (by first | rfl | (simp; done) | (simp [*]; done) | (simp; generalize ByteArray.toList _ = l_; cases l_ <;> rfl)), H', ⟨Nat.le_refl _⟩, by repeat (first | exact Drawn0.refl _ | apply Drawn0.step)⟩
  case round =>
    clear H'
    obtain ⟨x3_1, rfl, HA, HK1, ⟨m1, rfl⟩⟩ := hrel
    cases gk with
    | zero => exact absurd HA.out (by simp [smithyref16_op.l0])
    | succ k1 =>
      have H := HA.out
      clear HA
      simp only [smithyref16_op.l0] at H
      by_cases c2 : x3_1 ≤ 8
      · rw [if_pos c2] at H
        have c2b0 : decide (x3_1 ≤ 8) = true := decide_eq_true c2
        clear c2
        replace H := Option.bind_eq_some_iff.mp H
        obtain ⟨t120, A30, H⟩ := H
        replace H : (if t120.toList = a0.toList then (some x3_1) else (smithyref16_op.l0 k1 a0 (wrap64 (x3_1 + 1)))) = some r := H
        have A3 := Aside0.mk A30
        clear A30
        by_cases c4 : t120.toList = a0.toList
        · rw [if_pos c4] at H
          have c4b0 : (t120.toList == a0.toList) = true := beq_iff_eq.mpr c4
          have c4b1 : (t120.toList != a0.toList) = false := bne_eq_false_iff_eq.mpr c4
          clear c4
          obtain rfl := Option.some.inj H
          go_wp2_with (first | ((with_reducible refine gate_callee (f := 24) rfl ?_); refine goesL_ (some 9) rfl rfl Tryz.func24 (by kernel_rfl) rfl #[.int .i64 x3_1] rfl (by (try simp only [List.map_toArray, List.map_cons, List.map_nil]); first | done | rfl | (simp only [List.length_drop, List.length_take]; rfl)) ?_; (with_reducible refine (smithyref16_Name.calls x3_1 t120 _ A3.out).mono ?_); rintro e w' ⟨rfl, ⟨nd, rfl⟩⟩; refine ⟨_, rfl, ?_⟩))
          go_ret
          exact ⟨by first | rfl | (simp; done) | (simp [*]; done) | (simp; generalize ByteArray.toList _ = l_; cases l_ <;> rfl), by repeat (first | exact Drawn0.refl _ | apply Drawn0.step)⟩
        · rw [if_neg c4] at H
          have c4b0 : (t120.toList == a0.toList) = false := beq_eq_false_iff_ne.mpr c4
          have c4b1 : (t120.toList != a0.toList) = true := bne_iff_ne.mpr c4
          have H' := Aside0.mk H
          clear H
          go_wp2_with (first | ((with_reducible refine gate_callee (f := 24) rfl ?_); refine goesL_ (some 9) rfl rfl Tryz.func24 (by kernel_rfl) rfl #[.int .i64 x3_1] rfl (by (try simp only [List.map_toArray, List.map_cons, List.map_nil]); first | done | rfl | (simp only [List.length_drop, List.length_take]; rfl)) ?_; (with_reducible refine (smithyref16_Name.calls x3_1 t120 _ A3.out).mono ?_); rintro e w' ⟨rfl, ⟨nd, rfl⟩⟩; refine ⟨_, rfl, ?_⟩))
          go_roundg k1
          case measure => have := HK1.out; omega
          case rel => exact ⟨(wrap64 (x3_1 + 1)), (by first | rfl | (simp; done) | (simp [*]; done) | (simp; generalize ByteArray.toList _ = l_; cases l_ <;> rfl)), H', ⟨by have := HK1.out; omega⟩, by repeat (first | exact Drawn0.refl _ | apply Drawn0.step)⟩
      · rw [if_neg c2] at H
        have c2b0 : decide (x3_1 ≤ 8) = false := decide_eq_false c2
        clear c2
        obtain rfl := Option.some.inj H
        go_wp2
        go_ret
        exact ⟨by first | rfl | (simp; done) | (simp [*]; done) | (simp; generalize ByteArray.toList _ = l_; cases l_ <;> rfl), by repeat (first | exact Drawn0.refl _ | apply Drawn0.step)⟩

/-! ### smithyref16_many: function 38 -/
def smithyref16_many.j0 : Nat → Int → Int → Bool → Option (Bool)
  | 0, _, _, _ => none
  | k + 1, x1, x5, x26 => if x26 = true then (some (x1 == 1)) else (if x5 = 7 then (some (decide (x1 ≤ 1))) else (if x5 = 8 then (some (decide (x1 ≤ 512))) else (some false)))
def smithyref16_many.f (k : Nat) (a0 : Int) (a1 : Int) : Option (Bool) := if a0 = 1 then (some (a1 == 2)) else (if a0 = 2 then (if a1 ≥ 2 then (some (decide (a1 ≤ 65))) else (some false)) else (if a0 = 3 then (if a1 ≥ 1 then (some (decide (a1 ≤ 513))) else (some false)) else (if a0 = 4 then (smithyref16_many.j0 k a1 a0 (a0 == 4)) else (if a0 = 5 then (smithyref16_many.j0 k a1 a0 (a0 == 5)) else (smithyref16_many.j0 k a1 a0 (a0 == 6))))))
theorem smithyref16_many.mono_l : ∀ k, (∀ y0 y1 y2, LeO (smithyref16_many.j0 k y0 y1 y2) (smithyref16_many.j0 (k + 1) y0 y1 y2))
  | 0 => fun _ _ _ r h => by simp [smithyref16_many.j0] at h
  | k + 1 => by
    have ih0 := smithyref16_many.mono_l k
    · intro y0 y1 y2
      unfold smithyref16_many.j0
      repeat' first
      | (with_reducible exact ih0 _ _ _)
      | (with_reducible exact LeO.refl _)
      | (with_reducible exact LeO.none _)
      | (with_reducible refine LeO.ite ?_ ?_)
      | (with_reducible refine LeO.bind ?_ (fun _ => ?_))
      | exact ih0 _ _ _
      | exact LeO.none _
      | refine LeO.ite ?_ ?_
      | refine LeO.bind ?_ (fun _ => ?_)
theorem smithyref16_many.mono : ∀ a0 a1 k, LeO (smithyref16_many.f k a0 a1) (smithyref16_many.f (k + 1) a0 a1) := by
  intro a0 a1 k
  have ih0 := smithyref16_many.mono_l k
  unfold smithyref16_many.f
  repeat' first
      | (with_reducible exact ih0 _ _ _)
      | (with_reducible exact LeO.refl _)
      | (with_reducible exact LeO.none _)
      | (with_reducible refine LeO.ite ?_ ?_)
      | (with_reducible refine LeO.bind ?_ (fun _ => ?_))
      | exact ih0 _ _ _
      | exact LeO.none _
      | refine LeO.ite ?_ ?_
      | refine LeO.bind ?_ (fun _ => ?_)
set_option maxHeartbeats 8000000 in
set_option maxRecDepth 100000 in
theorem smithyref16_many.calls (k : Nat) (a0 : Int) (a1 : Int) (r : Bool) (w : World) (h : smithyref16_many.f k a0 a1 = some r) :
    Calls Tryz.prog 38 #[.int .i64 a0, .int .i64 a1] w fun e w' => e = .returned (.bool r) ∧ Drawn0 w w' := by
  have H : (if a0 = 1 then (some (a1 == 2)) else (if a0 = 2 then (if a1 ≥ 2 then (some (decide (a1 ≤ 65))) else (some false)) else (if a0 = 3 then (if a1 ≥ 1 then (some (decide (a1 ≤ 513))) else (some false)) else (if a0 = 4 then (smithyref16_many.j0 k a1 a0 (a0 == 4)) else (if a0 = 5 then (smithyref16_many.j0 k a1 a0 (a0 == 5)) else (smithyref16_many.j0 k a1 a0 (a0 == 6))))))) = some r := h
  clear h
  by_cases c3 : a0 = 1
  · rw [if_pos c3] at H
    have c3b0 : (a0 == 1) = true := beq_iff_eq.mpr c3
    have c3b1 : (a0 != 1) = false := bne_eq_false_iff_eq.mpr c3
    clear c3
    obtain rfl := Option.some.inj H
    go_enter Tryz.func38, Tryz.ntmps38
    go_wp2
    go_ret
    exact ⟨by first | rfl | (simp; done) | (simp [*]; done) | (simp; generalize ByteArray.toList _ = l_; cases l_ <;> rfl), by repeat (first | exact Drawn0.refl _ | apply Drawn0.step)⟩
  · rw [if_neg c3] at H
    have c3b0 : (a0 == 1) = false := beq_eq_false_iff_ne.mpr c3
    have c3b1 : (a0 != 1) = true := bne_iff_ne.mpr c3
    by_cases c4 : a0 = 2
    · rw [if_pos c4] at H
      have c4b0 : (a0 == 2) = true := beq_iff_eq.mpr c4
      have c4b1 : (a0 != 2) = false := bne_eq_false_iff_eq.mpr c4
      clear c4
      by_cases c5 : a1 ≥ 2
      · rw [if_pos c5] at H
        have c5b0 : decide (2 ≤ a1) = true := decide_eq_true c5
        clear c5
        obtain rfl := Option.some.inj H
        go_enter Tryz.func38, Tryz.ntmps38
        go_wp2
        go_ret
        exact ⟨by first | rfl | (simp; done) | (simp [*]; done) | (simp; generalize ByteArray.toList _ = l_; cases l_ <;> rfl), by repeat (first | exact Drawn0.refl _ | apply Drawn0.step)⟩
      · rw [if_neg c5] at H
        have c5b0 : decide (2 ≤ a1) = false := decide_eq_false c5
        clear c5
        obtain rfl := Option.some.inj H
        go_enter Tryz.func38, Tryz.ntmps38
        go_wp2
        go_ret
        exact ⟨by first | rfl | (simp; done) | (simp [*]; done) | (simp; generalize ByteArray.toList _ = l_; cases l_ <;> rfl), by repeat (first | exact Drawn0.refl _ | apply Drawn0.step)⟩
    · rw [if_neg c4] at H
      have c4b0 : (a0 == 2) = false := beq_eq_false_iff_ne.mpr c4
      have c4b1 : (a0 != 2) = true := bne_iff_ne.mpr c4
      by_cases c6 : a0 = 3
      · rw [if_pos c6] at H
        have c6b0 : (a0 == 3) = true := beq_iff_eq.mpr c6
        have c6b1 : (a0 != 3) = false := bne_eq_false_iff_eq.mpr c6
        clear c6
        by_cases c7 : a1 ≥ 1
        · rw [if_pos c7] at H
          have c7b0 : decide (1 ≤ a1) = true := decide_eq_true c7
          clear c7
          obtain rfl := Option.some.inj H
          go_enter Tryz.func38, Tryz.ntmps38
          go_wp2
          go_ret
          exact ⟨by first | rfl | (simp; done) | (simp [*]; done) | (simp; generalize ByteArray.toList _ = l_; cases l_ <;> rfl), by repeat (first | exact Drawn0.refl _ | apply Drawn0.step)⟩
        · rw [if_neg c7] at H
          have c7b0 : decide (1 ≤ a1) = false := decide_eq_false c7
          clear c7
          obtain rfl := Option.some.inj H
          go_enter Tryz.func38, Tryz.ntmps38
          go_wp2
          go_ret
          exact ⟨by first | rfl | (simp; done) | (simp [*]; done) | (simp; generalize ByteArray.toList _ = l_; cases l_ <;> rfl), by repeat (first | exact Drawn0.refl _ | apply Drawn0.step)⟩
      · rw [if_neg c6] at H
        have c6b0 : (a0 == 3) = false := beq_eq_false_iff_ne.mpr c6
        have c6b1 : (a0 != 3) = true := bne_iff_ne.mpr c6
        have HC8 := Aside0.mk H
        clear H
        go_enter Tryz.func38, Tryz.ntmps38
        go_upto_if 26 with (fail)
        go_cut [26] (fun v26 wc => ∃ (kq : Nat) (x26_7 : Bool), v26 = .bool x26_7 ∧ Aside0 (smithyref16_many.j0 kq a1 a0 x26_7 = some r) ∧ Aside0 (kq ≤ k) ∧ Drawn0 w wc)
        case first =>
          have H := HC8.out
          clear HC8
          by_cases c9 : a0 = 4
          · rw [if_pos c9] at H
            have c9b0 : (a0 == 4) = true := beq_iff_eq.mpr c9
            have c9b1 : (a0 != 4) = false := bne_eq_false_iff_eq.mpr c9
            clear c9
            (first | rw [c9b0] | (simp only [i64_w, i32_w]; rw [c9b0]) | skip)
            have H' := Aside0.mk H
            clear H
            go_wp2
            go_meet
            case rel => exact ⟨_, ((a0 == 4)), (by first | rfl | (simp; done) | (simp [*]; done) | (simp; generalize ByteArray.toList _ = l_; cases l_ <;> rfl)), H', ⟨by first | omega | exact Nat.le_refl _⟩, by repeat (first | exact Drawn0.refl _ | apply Drawn0.step)⟩
          · rw [if_neg c9] at H
            have c9b0 : (a0 == 4) = false := beq_eq_false_iff_ne.mpr c9
            have c9b1 : (a0 != 4) = true := bne_iff_ne.mpr c9
            (first | rw [c9b0] | (simp only [i64_w, i32_w]; rw [c9b0]) | skip)
            by_cases c10 : a0 = 5
            · rw [if_pos c10] at H
              have c10b0 : (a0 == 5) = true := beq_iff_eq.mpr c10
              have c10b1 : (a0 != 5) = false := bne_eq_false_iff_eq.mpr c10
              clear c10
              have H' := Aside0.mk H
              clear H
              go_wp2
              go_meet
              case rel => exact ⟨_, ((a0 == 5)), (by first | rfl | (simp; done) | (simp [*]; done) | (simp; generalize ByteArray.toList _ = l_; cases l_ <;> rfl)), H', ⟨by first | omega | exact Nat.le_refl _⟩, by repeat (first | exact Drawn0.refl _ | apply Drawn0.step)⟩
            · rw [if_neg c10] at H
              have c10b0 : (a0 == 5) = false := beq_eq_false_iff_ne.mpr c10
              have c10b1 : (a0 != 5) = true := bne_iff_ne.mpr c10
              have H' := Aside0.mk H
              clear H
              go_wp2
              go_meet
              case rel => exact ⟨_, ((a0 == 6)), (by first | rfl | (simp; done) | (simp [*]; done) | (simp; generalize ByteArray.toList _ = l_; cases l_ <;> rfl)), H', ⟨by first | omega | exact Nat.le_refl _⟩, by repeat (first | exact Drawn0.refl _ | apply Drawn0.step)⟩
        case rest =>
          clear HC8
          try clear c1
          try clear p2
          try clear c3
          try clear c3b0
          try clear c3b1
          try clear c4
          try clear c4b0
          try clear c4b1
          try clear c5
          try clear c5b0
          try clear c6
          try clear c6b0
          try clear c6b1
          try clear c7
          try clear c7b0
          try clear c9
          try clear c9b0
          try clear c9b1
          try clear c10
          try clear c10b0
          try clear c10b1
          obtain ⟨kq, x26_7, rfl, HA, HJ7, ⟨mc7, rfl⟩⟩ := hcut
          cases kq with
          | zero => exact absurd HA.out (by simp [smithyref16_many.j0])
          | succ kj7 =>
            have H := HA.out
            clear HA
            simp only [smithyref16_many.j0] at H
            by_cases c11 : x26_7 = true
            · subst c11
              have H1 : (some (a1 == 1)) = some r := by rw [if_pos rfl] at H; exact H
              clear H
              have H := H1
              clear H1
              obtain rfl := Option.some.inj H
              go_wp2
              go_ret
              exact ⟨by first | rfl | (simp; done) | (simp [*]; done) | (simp; generalize ByteArray.toList _ = l_; cases l_ <;> rfl), by repeat (first | exact Drawn0.refl _ | apply Drawn0.step)⟩
            · replace c11 := Bool.eq_false_iff.mpr c11
              subst c11
              have H1 : (if a0 = 7 then (some (decide (a1 ≤ 1))) else (if a0 = 8 then (some (decide (a1 ≤ 512))) else (some false))) = some r := by rw [if_neg (show ¬ (false = true) by decide)] at H; exact H
              clear H
              have H := H1
              clear H1
              by_cases c12 : a0 = 7
              · rw [if_pos c12] at H
                have c12b0 : (a0 == 7) = true := beq_iff_eq.mpr c12
                have c12b1 : (a0 != 7) = false := bne_eq_false_iff_eq.mpr c12
                clear c12
                obtain rfl := Option.some.inj H
                go_wp2
                go_ret
                exact ⟨by first | rfl | (simp; done) | (simp [*]; done) | (simp; generalize ByteArray.toList _ = l_; cases l_ <;> rfl), by repeat (first | exact Drawn0.refl _ | apply Drawn0.step)⟩
              · rw [if_neg c12] at H
                have c12b0 : (a0 == 7) = false := beq_eq_false_iff_ne.mpr c12
                have c12b1 : (a0 != 7) = true := bne_iff_ne.mpr c12
                by_cases c13 : a0 = 8
                · rw [if_pos c13] at H
                  have c13b0 : (a0 == 8) = true := beq_iff_eq.mpr c13
                  have c13b1 : (a0 != 8) = false := bne_eq_false_iff_eq.mpr c13
                  clear c13
                  obtain rfl := Option.some.inj H
                  go_wp2
                  go_ret
                  exact ⟨by first | rfl | (simp; done) | (simp [*]; done) | (simp; generalize ByteArray.toList _ = l_; cases l_ <;> rfl), by repeat (first | exact Drawn0.refl _ | apply Drawn0.step)⟩
                · rw [if_neg c13] at H
                  have c13b0 : (a0 == 8) = false := beq_eq_false_iff_ne.mpr c13
                  have c13b1 : (a0 != 8) = true := bne_iff_ne.mpr c13
                  obtain rfl := Option.some.inj H
                  go_wp2
                  go_ret
                  exact ⟨by first | rfl | (simp; done) | (simp [*]; done) | (simp; generalize ByteArray.toList _ = l_; cases l_ <;> rfl), by repeat (first | exact Drawn0.refl _ | apply Drawn0.step)⟩

end Go.Proofs.YtpiafpkpdbknfaaGreatDoor.PCmdParses
