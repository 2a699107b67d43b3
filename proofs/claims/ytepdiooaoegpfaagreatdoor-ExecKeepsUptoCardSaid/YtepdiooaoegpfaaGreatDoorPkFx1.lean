/- Written by programs of this session: laws and contracts that the law's proof stands on, merged into one text. Conditions: none beyond those in each statement. -/
import Derived.Test.YtepdiooaoegpfaaGreatDoorPkEv8
import Derived.WideShapes
import Derived.Laws.Strings
import Derived.Lib.Bytealg
import Derived.Test.YtepdiooaoegpfaaGreatDoorProg
import Derived.Test.YtepdiooaoegpfaaGreatDoorPkSh1
section
/- What the program speaks of, as structures and trees; texts in their order. Conditions: those in each statement. -/
namespace Go.Proofs.YtepdiooaoegpfaaGreatDoor.Fx
open Go Go.Proofs Go.Ev Go.RowKit
set_option linter.unusedSimpArgs false
set_option linter.unusedVariables false

theorem beqS_iff {a b : ByteArray} : beqS a b = true ↔ a = b := by
  unfold beqS
  rw [ByteArray.toList_eq, ByteArray.toList_eq, beq_iff_eq]
  exact ⟨fun h => Go.WideShapes.bytes_inj h, fun h => by rw [h]⟩
theorem beqS_no {a b : ByteArray} : beqS a b = false ↔ a ≠ b := by rw [← Bool.not_eq_true, beqS_iff]
theorem beqS_self {a : ByteArray} : beqS a a = true := beqS_iff.2 rfl
/-- What makes a condition readable, all in one. -/
theorem cs : ({ data := #[] } : ByteArray) = ByteArray.empty ∧ ({ data := [].toArray } : ByteArray) = ByteArray.empty ∧ (∀ p : Prop, (False ∧ p) = False) ∧ (∀ p : Prop, (p ∧ False) = False) ∧ (∀ p : Prop, (False ∨ p) = p) ∧ (∀ p : Prop, (p ∨ False) = p) ∧ (∀ p : Prop, (True ∧ p) = p) ∧ (∀ p : Prop, (p ∧ True) = p) ∧ (∀ p : Prop, (True ∨ p) = True) ∧ (∀ p : Prop, (p ∨ True) = True) ∧
    (¬True) = False ∧ (¬False) = True ∧ (∀ {α : Type} (a b : α), cond true a b = a) ∧ (∀ {α : Type} (a b : α), cond false a b = b) ∧ (∀ n : Nat, Int.toNat (n : Int) = n) ∧ (∀ {α β : Type} (f : α → β) (l : List α), (l.map f).length = l.length) ∧
    (∀ {a b : ByteArray}, beqS a b = true ↔ a = b) ∧ (∀ {a b : ByteArray}, beqS a b = false ↔ a ≠ b) ∧ (∀ a b : Bool, cond a true b = (a || b)) ∧ (∀ a b : Bool, cond a b false = (a && b)) ∧ (∀ a b : Bool, ((a || b) = true) = (a = true ∨ b = true)) ∧ (∀ a b : Bool, (a || b) = false ↔ a = false ∧ b = false) ∧ (∀ a b : Bool, ((a && b) = true) = (a = true ∧ b = true)) ∧ (∀ a b : Bool, (a && b) = false ↔ a = false ∨ b = false) ∧
    (∀ (p : Prop) [Decidable p], (decide p = true) = p) ∧ (∀ (p : Prop) [Decidable p], (decide p = false) = ¬ p) ∧ (∀ a : Bool, ((!a) = true) = (a = false)) ∧ (∀ a : Bool, ((!a) = false) = (a = true)) ∧ (∀ {α : Type} [BEq α] [LawfulBEq α] {a b : α}, (a == b) = true ↔ a = b) ∧ (∀ {α : Type} [BEq α] [LawfulBEq α] {a b : α}, (a != b) = true ↔ a ≠ b) ∧ (∀ {α : Type} [BEq α] [LawfulBEq α] {a b : α}, (a == b) = false ↔ a ≠ b) ∧ (∀ {α : Type} [BEq α] [LawfulBEq α] {a b : α}, (a != b) = false ↔ a = b) ∧
    (∀ {m n : Nat}, (m : Int) < (n : Int) ↔ m < n) ∧ (∀ {m n : Nat}, (m : Int) ≤ (n : Int) ↔ m ≤ n) ∧ (∀ {a b : Int}, ¬ a < b ↔ b ≤ a) ∧ (∀ {a b : Int}, ¬ a ≤ b ↔ b < a) ∧ (∀ {α : Type} [LE α] {a b : α}, a ≥ b ↔ b ≤ a) ∧ (∀ {α : Type} [LT α] {a b : α}, a > b ↔ b < a) ∧ (∀ {α : Type} (a b : α), (a ≠ b) = ¬ a = b) := by
  refine ⟨rfl, rfl, ?_, ?_, ?_, ?_, ?_, ?_, ?_, ?_, ?_, ?_, fun _ _ => rfl, fun _ _ => rfl, fun _ => rfl, fun _ _ => List.length_map _, beqS_iff, beqS_no, ?_, ?_, ?_, ?_, ?_, ?_, ?_, ?_, ?_, ?_, beq_iff_eq, bne_iff_ne, beq_eq_false_iff_ne, bne_eq_false_iff_eq, Int.ofNat_lt, Int.ofNat_le, Int.not_lt, Int.not_le, Iff.rfl, Iff.rfl, fun _ _ => rfl⟩ <;> intros <;> first | (simp; done) | (rename_i a b; cases a <;> cases b <;> simp)
theorem beqS_comm (a b : ByteArray) : beqS a b = beqS b a := by
  cases h : beqS b a with
  | true => exact beqS_iff.2 (beqS_iff.1 h).symm
  | false => exact beqS_no.2 fun e => beqS_no.1 h e.symm
theorem less_asymm : ∀ {x y : List UInt8}, Op.bytesLess x y = true → Op.bytesLess y x = false
  | [], [], h => by cases h
  | [], _ :: _, _ => rfl
  | _ :: _, [], h => by cases h
  | a :: x, b :: y, h => by
    simp only [Op.bytesLess, Bool.or_eq_true, decide_eq_true_eq, Bool.and_eq_true, beq_iff_eq, Bool.or_eq_false_iff, decide_eq_false_iff_not, Bool.and_eq_false_iff] at h ⊢
    rcases h with h | ⟨rfl, h⟩
    · exact ⟨fun k => absurd (UInt8.lt_trans h k) (UInt8.lt_irrefl a), .inl (by simp only [beq_eq_false_iff_ne]; intro e; subst e; exact UInt8.lt_irrefl _ h)⟩
    · exact ⟨UInt8.lt_irrefl _, .inr (less_asymm h)⟩
theorem less_trans : ∀ {x y z : List UInt8}, Op.bytesLess x y = true → Op.bytesLess y z = true → Op.bytesLess x z = true
  | _, [], _, h, _ => by simp [Op.bytesLess] at h
  | _, _ :: _, [], _, h => by simp [Op.bytesLess] at h
  | [], _ :: _, _ :: _, _, _ => rfl
  | a :: x, b :: y, c :: z, h, k => by
    simp only [Op.bytesLess, Bool.or_eq_true, decide_eq_true_eq, Bool.and_eq_true, beq_iff_eq] at h k ⊢
    rcases h with h | ⟨rfl, h⟩
    · rcases k with k | ⟨rfl, k⟩
      · exact .inl (UInt8.lt_trans h k)
      · exact .inl h
    · rcases k with k | ⟨rfl, k⟩
      · exact .inl k
      · exact .inr ⟨rfl, less_trans h k⟩
theorem less_total : ∀ {x y : List UInt8}, Op.bytesLess x y = false → Op.bytesLess y x = false → x = y
  | [], [], _, _ => rfl
  | [], _ :: _, h, _ => by cases h
  | _ :: _, [], _, h => by cases h
  | a :: x, b :: y, h, k => by
    simp only [Op.bytesLess, Bool.or_eq_false_iff, decide_eq_false_iff_not, Bool.and_eq_false_iff, beq_eq_false_iff_ne] at h k
    have e : a = b := by
      rcases Nat.lt_trichotomy a.toNat b.toNat with q | q | q
      · exact absurd (UInt8.lt_iff_toNat_lt.2 q) h.1
      · exact UInt8.toNat_inj.1 q
      · exact absurd (UInt8.lt_iff_toNat_lt.2 q) k.1
    subst e
    rcases h.2 with h | h
    · exact absurd rfl h
    · rcases k.2 with k | k
      · exact absurd rfl k
      · rw [less_total h k]
theorem ltS_asymm {a b : ByteArray} (h : ltS a b = true) : ltS b a = false := less_asymm h
theorem ltS_trans {a b c : ByteArray} (h : ltS a b = true) (k : ltS b c = true) : ltS a c = true := less_trans h k
theorem ltS_total {a b : ByteArray} (h : ltS a b = false) (k : ltS b a = false) : a = b := by
  have := less_total h k
  rw [ByteArray.toList_eq, ByteArray.toList_eq] at this
  exact Go.WideShapes.bytes_inj this
theorem ltS_irrefl (a : ByteArray) : ltS a a = false := by
  cases h : ltS a a with
  | false => rfl
  | true => rw [ltS_asymm h] at h; cases h
theorem cmp_less : ∀ (x y : List UInt8), Lib.compareBytes x y = if Op.bytesLess x y then -1 else if Op.bytesLess y x then 1 else 0
  | [], [] => rfl
  | [], _ :: _ => rfl
  | _ :: _, [] => rfl
  | a :: x, b :: y => by
    simp only [Lib.compareBytes, Op.bytesLess]
    by_cases h : a < b
    · have : ¬ b < a := fun k => UInt8.lt_irrefl _ (UInt8.lt_trans h k)
      simp [h]
    · by_cases k : b < a
      · have e : (a == b) = false := by rw [beq_eq_false_iff_ne]; intro e; subst e; exact UInt8.lt_irrefl _ k
        simp [h, k, e]
      · have e : a = b := by
          rcases Nat.lt_trichotomy a.toNat b.toNat with q | q | q
          · exact absurd (UInt8.lt_iff_toNat_lt.2 q) h
          · exact UInt8.toNat_inj.1 q
          · exact absurd (UInt8.lt_iff_toNat_lt.2 q) k
        subst e
        simp [h, cmp_less x y]
theorem cmp_ltS (a b : ByteArray) : Lib.compareBytes a.data.toList b.data.toList = if ltS a b then -1 else if ltS b a then 1 else 0 := by
  rw [cmp_less]; unfold ltS; rw [ByteArray.toList_eq, ByteArray.toList_eq]

/-- Texts. -/
abbrev eS (l : List ByteArray) : AV := .sl 1 (l.map fun x => .v (.string x))
abbrev i64 (n : Int) : AV := .v (.int .i64 n)
abbrev str (s : ByteArray) : AV := .v (.string s)
abbrev nilv : AV := .v (.slice none 0 0)
abbrev bln (b : Bool) : AV := .v (.bool b)
def hasS (l : List ByteArray) (s : ByteArray) : Bool := l.any fun x => beqS x s
/-- The place of a text; -1: none. -/
def findN (l : List ByteArray) (s : ByteArray) (i : Nat) : Int := match l with
  | [] => -1
  | x :: r => if beqS s x then i else findN r s (i + 1)

structure File where
  name : ByteArray
  text : ByteArray
  stamp : Int
  deriving DecidableEq, Inhabited
abbrev eF (f : File) : AV := .agg [str f.name, str f.text, i64 f.stamp]
abbrev eFs (l : List File) : AV := .sl 3 (l.map eF)
/-- A disk's leaves. -/
abbrev eD (clock : Int) (l : List File) : AV := .agg [i64 clock, eFs l]
def File.none : File := ⟨.empty, .empty, 0⟩
structure Fail where
  target : ByteArray
  line : Int
  status : Int
structure Node where
  target : ByteArray
  needs : List ByteArray
  recipe : List ByteArray
  has : Bool
  source : ByteArray
  stem : ByteArray
  phony : Bool
  precious : Bool
  ignore : Bool
  silent : Bool
  deriving Inhabited
abbrev eN (n : Node) : AV := .agg [str n.target, eS n.needs, eS n.recipe, bln n.has, str n.source, str n.stem, bln n.phony, bln n.precious, bln n.ignore, bln n.silent]
theorem allL_no {α : Type} {l : List α} {i : Nat} {p : α → Bool} (d : α) (hi : i < l.length) (h : p (l.getD i d) = false) : (l.drop i).all p = false := by
  rw [drop_getD d hi, List.all_cons, h]; rfl
theorem allL_yes {α : Type} {l : List α} {i : Nat} {p : α → Bool} (d : α) (hi : i < l.length) (h : p (l.getD i d) = true) : (l.drop i).all p = (l.drop (i + 1)).all p := by
  rw [drop_getD d hi, List.all_cons, h, Bool.true_and]
theorem allL_end {α : Type} {l : List α} {i : Nat} {p : α → Bool} (hi : ¬ i < l.length) : (l.drop i).all p = true := by
  rw [List.drop_eq_nil_of_le (by omega)]; rfl
end Go.Proofs.YtepdiooaoegpfaaGreatDoor.Fx
end
section
/- Names and texts, over trees. Conditions: those in each statement. -/
namespace Go.Proofs.YtepdiooaoegpfaaGreatDoor.Fx
open Go Go.Proofs Go.Ev Go.RowKit
set_option maxRecDepth 100000
set_option maxHeartbeats 1600000
set_option linter.unusedSimpArgs false
set_option linter.unusedVariables false
def isLetter (k : Int) : Bool := (decide (k ≥ 65) && decide (k ≤ 90)) || (decide (k ≥ 97) && decide (k ≤ 122)) || (decide (k ≥ 48) && decide (k ≤ 57)) || k == 95 || k == 45 || k == 46 || k == 47 || k == 43
def isName (s : ByteArray) : Bool := decide (0 < s.size) && decide (s.size ≤ 64) && s.data.toList.all fun c => isLetter c.toNat

theorem c_IndexByte {s : ByteArray} {c : Int} : XPure Tryz.prog 65 [.v (.string s), .v (.int .u8 c)] (.v (.int .i64 (Lib.indexByte s.data.toList c.toNat.toUInt8))) false :=
  XPure.ofCalls (l := [.string s, .int .u8 c]) ⟨_, Tryz.func65, rfl, by kernel_rfl⟩ rfl (fun w => (Tryz.strings_IndexByte s c w).mono fun e w' ⟨h1, h2⟩ => ⟨h1, h2 ▸ Below.refl _ _⟩) fun _ _ _ _ => rep_v_mk rfl
theorem x_IndexByte : ∃ f : ByteArray → Int → Int, (∀ s c, f s c = Lib.indexByte s.data.toList c.toNat.toUInt8) ∧ ∀ s c, XPure Tryz.prog 65 [.v (.string s), .v (.int .u8 c)] (.v (.int .i64 (f s c))) false := ⟨_, fun _ _ => rfl, fun _ _ => c_IndexByte⟩
theorem c_Compare {a b : ByteArray} : XPure Tryz.prog 98 [.v (.string a), .v (.string b)] (.v (.int .i64 (Lib.compareBytes a.data.toList b.data.toList))) false :=
  XPure.ofCalls (l := [.string a, .string b]) ⟨_, Tryz.func98, rfl, by kernel_rfl⟩ rfl (fun w => (Tryz.strings_Compare a b w).mono fun e w' ⟨h1, h2⟩ => ⟨h1, h2 ▸ Below.refl _ _⟩) fun _ _ _ _ => rep_v_mk rfl

theorem isName_bad {s : ByteArray} (h : s.size < 1 ∨ 64 < s.size) : isName s = false := by
  simp only [isName, Bool.and_eq_false_iff, decide_eq_false_iff_not]; omega
theorem isName_good {s : ByteArray} (h : 1 ≤ s.size ∧ s.size ≤ 64) : isName s = s.data.toList.all fun c => isLetter c.toNat := by
  have : decide (0 < s.size) = true ∧ decide (s.size ≤ 64) = true := ⟨decide_eq_true (by omega), decide_eq_true (by omega)⟩
  simp [isName, this]
theorem all_no {s : ByteArray} {i : Nat} {p : UInt8 → Bool} (hi : i < s.size) (h : p (byteAt s i) = false) : (s.data.toList.drop i).all p = false := by
  rw [drop_byte hi, List.all_cons, h]; rfl
theorem all_yes {s : ByteArray} {i : Nat} {p : UInt8 → Bool} (hi : i < s.size) (h : p (byteAt s i) = true) : (s.data.toList.drop i).all p = (s.data.toList.drop (i + 1)).all p := by
  rw [drop_byte hi, List.all_cons, h, Bool.true_and]
theorem all_end {s : ByteArray} {i : Nat} {p : UInt8 → Bool} (hi : ¬ i < s.size) : (s.data.toList.drop i).all p = true := by
  rw [drop_end hi]; rfl

theorem letterIB : ∀ n : Nat, n < 256 → (isLetter n = (decide (n ≥ 65) && decide (n ≤ 90) || decide (n ≥ 97) && decide (n ≤ 122) || decide (n ≥ 48) && decide (n ≤ 57) || decide (Lib.indexByte [95, 45, 46, 47, 43] n.toUInt8 ≥ 0))) := by decide +kernel
theorem c_disk_named {s : ByteArray} : XPure Tryz.prog 43 [.v (.string s)] (.v (.bool (isName s))) false := by
  obtain ⟨f, hf, cI⟩ := x_IndexByte
  refine XPure.body ⟨_, Tryz.func43, rfl, by kernel_rfl⟩ Tryz.func43 rfl (Nat.le_of_ble_eq_true (by rfl)) (pf_of1 rfl) fun env => ?_
  repeat' ((conv => whnf); (fail_if_success (with_reducible show ∃ _, _ ∧ _ ∧ Weak _ _ _)); first | ((with_reducible show guardA _ _ _ _ _ _ ∨ _); first | (refine .inr ?_; (conv => whnf); refine ⟨_, ?_, fun h => rfl, rfl, ?_⟩; ((conv => whnf); first | exact trivial | (refine ⟨?_, trivial⟩; exact okG))) | (refine .inr ?_; (conv => whnf); refine ⟨_, trivial, fun h => ⟨?_, ?_, ?_, rfl⟩, rfl, ?_⟩; (first | exact h | rfl); exact okG; exact okG) | refine .inl ?_) | refine cY ?_ | refine cN ?_ | refine gA ?_ | refine gB ?_ | refine gC ?_ | ((first | refine gsT (fun h => ?_) (fun h => ?_) | refine gsF (fun h => ?_) (fun h => ?_) | refine ⟨fun h => ?_, fun h => ?_⟩) <;> (have hs := h; try simp only [cs, reduceCtorEq, Int.reduceEq, Int.reduceNe, Int.reduceLT, Int.reduceLE, Int.reduceBEq, Int.reduceBNe] at hs)) | ((with_reducible show _ ∧ _ ∧ Weak _ _ _); refine ⟨?_, ?_, Weak.go⟩; (omega)) | ((with_reducible show (_ ∧ _ ∧ _) ∧ _); refine ⟨⟨by kernel_rfl, by kernel_rfl, by rfl⟩, ?_⟩) | ((with_reducible show AV.pf _ = true ∧ _); refine pfA ?_) | (refine ⟨rfl, ?_, ?_, ?_⟩; exact okG; exact okG) | ((with_reducible show (_ ∨ _) ∧ _ ∧ retA _ _ _ _ _); refine ⟨?_, rfl, ?_⟩; (first | exact .inr rfl | exact .inl rfl)) | ((with_reducible show _ = _ ∧ _ = false ∧ _ = _); refine ⟨?_, rfl, rfl⟩; try (first | rfl | (conv => lhs; whnf))) | ((with_reducible show LeqD _ _); try (first | exact okN | (first | rfl | (conv => lhs; whnf))); done) | ((with_reducible show _ = _ ∧ (_ → _)); refine ⟨?_, ?_⟩; try (first | rfl | (conv => lhs; whnf))) | exact fun h => h | exact fun _ => rfl | refine ⟨rfl, ?_⟩ | (refine ⟨Nat.le_of_ble_eq_true rfl, ?_⟩) | (refine ⟨?_, ?_, ?_⟩; exact okS; exact okS) | (refine ⟨?_, ?_⟩; exact okS) | rw [wrapId (by omega) (by omega)] | fail)
  · rw [isName_bad (by omega)]
  · refine XW.count s.size (fun i => [(15, .v (.int .i64 i))]) (fun i => isName s = (s.data.toList.drop i).all fun c => isLetter c.toNat) Weak.go (isName_good (by omega)) ?_
    intro i hi hA
    have key : isLetter (byteAt s i).toNat = (decide ((byteAt s i).toNat ≥ 65) && decide ((byteAt s i).toNat ≤ 90) || decide ((byteAt s i).toNat ≥ 97) && decide ((byteAt s i).toNat ≤ 122) || decide ((byteAt s i).toNat ≥ 48) && decide ((byteAt s i).toNat ≤ 57) || decide (f ⟨#[95, 45, 46, 47, 43]⟩ (byteAt s i).toNat ≥ 0)) := by
      rw [hf]; exact letterIB _ (UInt8.toNat_lt _)
    refine codeA_sound _ _ _ ?_
    repeat' ((conv => whnf); (fail_if_success (with_reducible show ∃ _, _ ∧ _ ∧ Weak _ _ _)); first | ((with_reducible show guardA _ _ _ _ _ _ ∨ _); first | (refine .inr ?_; (conv => whnf); refine ⟨_, ?_, fun h => rfl, rfl, ?_⟩; ((conv => whnf); first | exact trivial | (refine ⟨?_, trivial⟩; exact okG))) | (refine .inr ?_; (conv => whnf); refine ⟨_, trivial, fun h => ⟨?_, ?_, ?_, rfl⟩, rfl, ?_⟩; (first | exact h | rfl); exact okG; exact okG) | refine .inl ?_) | refine cY ?_ | refine cN ?_ | refine gA ?_ | refine gB ?_ | refine gC ?_ | ((first | refine gsT (fun h => ?_) (fun h => ?_) | refine gsF (fun h => ?_) (fun h => ?_) | refine ⟨fun h => ?_, fun h => ?_⟩) <;> (have hs := h; try simp only [cs, reduceCtorEq, Int.reduceEq, Int.reduceNe, Int.reduceLT, Int.reduceLE, Int.reduceBEq, Int.reduceBNe] at hs)) | (refine .inl ⟨_, _, cI _ _, ?_⟩) | ((with_reducible show _ ∧ _ ∧ Weak _ _ _); refine ⟨?_, ?_, Weak.go⟩; (omega)) | ((with_reducible show (_ ∧ _ ∧ _) ∧ _); refine ⟨⟨by kernel_rfl, by kernel_rfl, by rfl⟩, ?_⟩) | ((with_reducible show AV.pf _ = true ∧ _); refine pfA ?_) | (refine ⟨rfl, ?_, ?_, ?_⟩; exact okG; exact okG) | ((with_reducible show (_ ∨ _) ∧ _ ∧ retA _ _ _ _ _); refine ⟨?_, rfl, ?_⟩; (first | exact .inr rfl | exact .inl rfl)) | ((with_reducible show _ = _ ∧ _ = false ∧ _ = _); refine ⟨?_, rfl, rfl⟩; try (first | rfl | (conv => lhs; whnf))) | ((with_reducible show LeqD _ _); try (first | exact okN | (first | rfl | (conv => lhs; whnf))); done) | ((with_reducible show _ = _ ∧ (_ → _)); refine ⟨?_, ?_⟩; try (first | rfl | (conv => lhs; whnf))) | exact fun h => h | exact fun _ => rfl | refine ⟨rfl, ?_⟩ | (refine ⟨Nat.le_of_ble_eq_true rfl, ?_⟩) | (refine ⟨?_, ?_, ?_⟩; exact okS; exact okS) | (refine ⟨?_, ?_⟩; exact okS) | rw [wrapId (by omega) (by omega)] | fail)
    · rw [hA, all_no ‹_› (by rw [key]; simp only [cs, reduceCtorEq, Int.reduceEq, Int.reduceNe, Int.reduceLT, Int.reduceLE, Int.reduceBEq, Int.reduceBNe]; omega)]
    · exact hA.trans (all_yes ‹_› (by rw [key]; simp only [cs, reduceCtorEq, Int.reduceEq, Int.reduceNe, Int.reduceLT, Int.reduceLE, Int.reduceBEq, Int.reduceBNe]; omega))
    · exact hA.trans (all_yes ‹_› (by rw [key]; simp only [cs, reduceCtorEq, Int.reduceEq, Int.reduceNe, Int.reduceLT, Int.reduceLE, Int.reduceBEq, Int.reduceBNe] at *; omega))
    · rw [hA, all_end hs]
end Go.Proofs.YtepdiooaoegpfaaGreatDoor.Fx
end
section
/- Lists of names, files: over trees. Conditions: those in each statement. -/
namespace Go.Proofs.YtepdiooaoegpfaaGreatDoor.Fx
open Go Go.Proofs Go.Ev Go.RowKit
set_option maxRecDepth 100000
set_option maxHeartbeats 1600000
set_option linter.unusedSimpArgs false
set_option linter.unusedVariables false
theorem findN_eq {l : List ByteArray} {s : ByteArray} {i : Nat} (h : i < l.length) : findN (l.drop i) s i = if beqS s (l.getD i .empty) then (i : Int) else findN (l.drop (i + 1)) s (i + 1) := by
  rw [drop_getD .empty h]; rfl
theorem findN_end {l : List ByteArray} {s : ByteArray} {i : Nat} (h : ¬ i < l.length) : findN (l.drop i) s i = -1 := by
  rw [List.drop_eq_nil_of_le (by omega)]; rfl
theorem c_Index {l : List ByteArray} {s : ByteArray} (hl : l.length ≤ 1000000000) : XPure Tryz.prog 68 [eS l, .v (.string s)] (i64 (findN l s 0)) false := by
  refine XPure.body ⟨_, Tryz.func68, rfl, by kernel_rfl⟩ Tryz.func68 rfl (Nat.le_of_ble_eq_true (by rfl)) (pf_of1 rfl) fun env => ?_
  repeat' ((conv => whnf); (fail_if_success (with_reducible show ∃ _, _ ∧ _ ∧ Weak _ _ _)); first | ((with_reducible show guardA _ _ _ _ _ _ ∨ _); first | (refine .inr ?_; (conv => whnf); refine ⟨_, ?_, fun h => rfl, rfl, ?_⟩; ((conv => whnf); first | exact trivial | (refine ⟨?_, trivial⟩; exact okG))) | (refine .inr ?_; (conv => whnf); refine ⟨_, trivial, fun h => ⟨?_, ?_, ?_, rfl⟩, rfl, ?_⟩; (first | exact h | rfl); exact okG; exact okG) | refine .inl ?_) | refine cY ?_ | refine cN ?_ | refine gA ?_ | refine gB ?_ | refine gC ?_ | ((first | refine gsT (fun h => ?_) (fun h => ?_) | refine gsF (fun h => ?_) (fun h => ?_) | refine ⟨fun h => ?_, fun h => ?_⟩) <;> (have hs := h; try simp only [cs, reduceCtorEq, Int.reduceEq, Int.reduceNe, Int.reduceLT, Int.reduceLE, Int.reduceBEq, Int.reduceBNe] at hs)) | ((with_reducible show _ ∧ _ ∧ Weak _ _ _); refine ⟨?_, ?_, Weak.go⟩; (omega)) | ((with_reducible show (_ ∧ _ ∧ _) ∧ _); refine ⟨⟨by kernel_rfl, by kernel_rfl, by rfl⟩, ?_⟩) | ((with_reducible show AV.pf _ = true ∧ _); refine pfA ?_) | (refine ⟨rfl, ?_, ?_, ?_⟩; exact okG; exact okG) | ((with_reducible show (_ ∨ _) ∧ _ ∧ retA _ _ _ _ _); refine ⟨?_, rfl, ?_⟩; (first | exact .inr rfl | exact .inl rfl)) | ((with_reducible show _ = _ ∧ _ = false ∧ _ = _); refine ⟨?_, rfl, rfl⟩; try (first | rfl | (conv => lhs; whnf))) | ((with_reducible show LeqD _ _); try (first | exact okN | (first | rfl | (conv => lhs; whnf))); done) | ((with_reducible show _ = _ ∧ (_ → _)); refine ⟨?_, ?_⟩; try (first | rfl | (conv => lhs; whnf))) | exact fun h => h | exact fun _ => rfl | refine ⟨rfl, ?_⟩ | (refine ⟨Nat.le_of_ble_eq_true rfl, ?_⟩) | (refine ⟨?_, ?_, ?_⟩; exact okS; exact okS) | (refine ⟨?_, ?_⟩; exact okS) | rw [wrapId (by omega) (by omega)] | fail)
  refine XW.count l.length (fun i => [(8, i64 i)]) (fun i => findN l s 0 = findN (l.drop i) s i) Weak.go rfl ?_
  intro i hi hA
  refine codeA_sound _ _ _ ?_
  repeat' ((conv => whnf); (fail_if_success (with_reducible show ∃ _, _ ∧ _ ∧ Weak _ _ _)); first | ((with_reducible show guardA _ _ _ _ _ _ ∨ _); first | (refine .inr ?_; (conv => whnf); refine ⟨_, ?_, fun h => rfl, rfl, ?_⟩; ((conv => whnf); first | exact trivial | (refine ⟨?_, trivial⟩; exact okG))) | (refine .inr ?_; (conv => whnf); refine ⟨_, trivial, fun h => ⟨?_, ?_, ?_, rfl⟩, rfl, ?_⟩; (first | exact h | rfl); exact okG; exact okG) | refine .inl ?_) | refine cY ?_ | refine cN ?_ | refine gA ?_ | refine gB ?_ | refine gC ?_ | ((first | refine gsT (fun h => ?_) (fun h => ?_) | refine gsF (fun h => ?_) (fun h => ?_) | refine ⟨fun h => ?_, fun h => ?_⟩) <;> (have hs := h; try simp only [cs, reduceCtorEq, Int.reduceEq, Int.reduceNe, Int.reduceLT, Int.reduceLE, Int.reduceBEq, Int.reduceBNe] at hs)) | ((with_reducible show _ ∧ _ ∧ Weak _ _ _); refine ⟨?_, ?_, Weak.go⟩; (omega)) | ((with_reducible show (_ ∧ _ ∧ _) ∧ _); refine ⟨⟨by kernel_rfl, by kernel_rfl, by rfl⟩, ?_⟩) | ((with_reducible show AV.pf _ = true ∧ _); refine pfA ?_) | (refine ⟨rfl, ?_, ?_, ?_⟩; exact okG; exact okG) | ((with_reducible show (_ ∨ _) ∧ _ ∧ retA _ _ _ _ _); refine ⟨?_, rfl, ?_⟩; (first | exact .inr rfl | exact .inl rfl)) | ((with_reducible show _ = _ ∧ _ = false ∧ _ = _); refine ⟨?_, rfl, rfl⟩; try (first | rfl | (conv => lhs; whnf))) | ((with_reducible show LeqD _ _); try (first | exact okN | (first | rfl | (conv => lhs; whnf))); done) | ((with_reducible show _ = _ ∧ (_ → _)); refine ⟨?_, ?_⟩; try (first | rfl | (conv => lhs; whnf))) | exact fun h => h | exact fun _ => rfl | refine ⟨rfl, ?_⟩ | (refine ⟨Nat.le_of_ble_eq_true rfl, ?_⟩) | (refine ⟨?_, ?_, ?_⟩; exact okS; exact okS) | (refine ⟨?_, ?_⟩; exact okS) | rw [getD_mapI (ByteArray.empty) (by omega)] | rw [getD_map (ByteArray.empty) (by omega)] | rw [wrapId (by omega) (by omega)] | fail)
  · rw [hA, findN_eq ‹_›, if_pos (by rw [hs]; exact beqS_self)]
  · rw [hA, findN_eq ‹_›, if_neg (by simpa using h)]
  · rw [hA, findN_end hs]
theorem findN_has {l : List ByteArray} {s : ByteArray} : ∀ i : Nat, decide (findN l s i ≥ 0) = hasS l s := by
  induction l with
  | nil => intro i; rfl
  | cons x r ih =>
    intro i
    show decide ((if beqS s x then (i : Int) else findN r s (i + 1)) ≥ 0) = (beqS x s || hasS r s)
    rw [beqS_comm x s]
    cases beqS s x with
    | true => simp
    | false => simpa using ih (i + 1)
theorem c_Contains {l : List ByteArray} {s : ByteArray} (hl : l.length ≤ 1000000000) : XPure Tryz.prog 46 [eS l, .v (.string s)] (bln (hasS l s)) false := by
  refine XPure.body ⟨_, Tryz.func46, rfl, by kernel_rfl⟩ Tryz.func46 rfl (Nat.le_of_ble_eq_true (by rfl)) (pf_of1 rfl) fun env => ?_
  repeat' ((conv => whnf); (fail_if_success (with_reducible show ∃ _, _ ∧ _ ∧ Weak _ _ _)); first | ((with_reducible show guardA _ _ _ _ _ _ ∨ _); first | (refine .inr ?_; (conv => whnf); refine ⟨_, ?_, fun h => rfl, rfl, ?_⟩; ((conv => whnf); first | exact trivial | (refine ⟨?_, trivial⟩; exact okG))) | (refine .inr ?_; (conv => whnf); refine ⟨_, trivial, fun h => ⟨?_, ?_, ?_, rfl⟩, rfl, ?_⟩; (first | exact h | rfl); exact okG; exact okG) | refine .inl ?_) | refine cY ?_ | refine cN ?_ | refine gA ?_ | refine gB ?_ | refine gC ?_ | ((first | refine gsT (fun h => ?_) (fun h => ?_) | refine gsF (fun h => ?_) (fun h => ?_) | refine ⟨fun h => ?_, fun h => ?_⟩) <;> (have hs := h; try simp only [cs, reduceCtorEq, Int.reduceEq, Int.reduceNe, Int.reduceLT, Int.reduceLE, Int.reduceBEq, Int.reduceBNe] at hs)) | (refine .inl ⟨_, _, c_Index hl, ?_⟩) | ((with_reducible show _ ∧ _ ∧ Weak _ _ _); refine ⟨?_, ?_, Weak.go⟩; (omega)) | ((with_reducible show (_ ∧ _ ∧ _) ∧ _); refine ⟨⟨by kernel_rfl, by kernel_rfl, by rfl⟩, ?_⟩) | ((with_reducible show AV.pf _ = true ∧ _); refine pfA ?_) | (refine ⟨rfl, ?_, ?_, ?_⟩; exact okG; exact okG) | ((with_reducible show (_ ∨ _) ∧ _ ∧ retA _ _ _ _ _); refine ⟨?_, rfl, ?_⟩; (first | exact .inr rfl | exact .inl rfl)) | ((with_reducible show _ = _ ∧ _ = false ∧ _ = _); refine ⟨?_, rfl, rfl⟩; try (first | rfl | (conv => lhs; whnf))) | ((with_reducible show LeqD _ _); try (first | exact okN | (first | rfl | (conv => lhs; whnf))); done) | ((with_reducible show _ = _ ∧ (_ → _)); refine ⟨?_, ?_⟩; try (first | rfl | (conv => lhs; whnf))) | exact fun h => h | exact fun _ => rfl | refine ⟨rfl, ?_⟩ | (refine ⟨Nat.le_of_ble_eq_true rfl, ?_⟩) | (refine ⟨?_, ?_, ?_⟩; exact okS; exact okS) | (refine ⟨?_, ?_⟩; exact okS) | rw [wrapId (by omega) (by omega)] | fail)
  rw [findN_has]
theorem c_right_1 {s : ByteArray} : XPure Tryz.prog 82 [str s] (bln (decide ((s.size : Int) > 65536))) false := by
  refine XPure.body ⟨_, Tryz.func82, rfl, by kernel_rfl⟩ Tryz.func82 rfl (Nat.le_of_ble_eq_true (by rfl)) (pf_of1 rfl) fun env => ?_
  repeat' ((conv => whnf); (fail_if_success (with_reducible show ∃ _, _ ∧ _ ∧ Weak _ _ _)); first | ((with_reducible show guardA _ _ _ _ _ _ ∨ _); first | (refine .inr ?_; (conv => whnf); refine ⟨_, ?_, fun h => rfl, rfl, ?_⟩; ((conv => whnf); first | exact trivial | (refine ⟨?_, trivial⟩; exact okG))) | (refine .inr ?_; (conv => whnf); refine ⟨_, trivial, fun h => ⟨?_, ?_, ?_, rfl⟩, rfl, ?_⟩; (first | exact h | rfl); exact okG; exact okG) | refine .inl ?_) | refine cY ?_ | refine cN ?_ | refine gA ?_ | refine gB ?_ | refine gC ?_ | ((first | refine gsT (fun h => ?_) (fun h => ?_) | refine gsF (fun h => ?_) (fun h => ?_) | refine ⟨fun h => ?_, fun h => ?_⟩) <;> (have hs := h; try simp only [cs, reduceCtorEq, Int.reduceEq, Int.reduceNe, Int.reduceLT, Int.reduceLE, Int.reduceBEq, Int.reduceBNe] at hs)) | ((with_reducible show _ ∧ _ ∧ Weak _ _ _); refine ⟨?_, ?_, Weak.go⟩; (omega)) | ((with_reducible show (_ ∧ _ ∧ _) ∧ _); refine ⟨⟨by kernel_rfl, by kernel_rfl, by rfl⟩, ?_⟩) | ((with_reducible show AV.pf _ = true ∧ _); refine pfA ?_) | (refine ⟨rfl, ?_, ?_, ?_⟩; exact okG; exact okG) | ((with_reducible show (_ ∨ _) ∧ _ ∧ retA _ _ _ _ _); refine ⟨?_, rfl, ?_⟩; (first | exact .inr rfl | exact .inl rfl)) | ((with_reducible show _ = _ ∧ _ = false ∧ _ = _); refine ⟨?_, rfl, rfl⟩; try (first | rfl | (conv => lhs; whnf))) | ((with_reducible show LeqD _ _); try (first | exact okN | (first | rfl | (conv => lhs; whnf))); done) | ((with_reducible show _ = _ ∧ (_ → _)); refine ⟨?_, ?_⟩; try (first | rfl | (conv => lhs; whnf))) | exact fun h => h | exact fun _ => rfl | refine ⟨rfl, ?_⟩ | (refine ⟨Nat.le_of_ble_eq_true rfl, ?_⟩) | (refine ⟨?_, ?_, ?_⟩; exact okS; exact okS) | (refine ⟨?_, ?_⟩; exact okS) | rw [wrapId (by omega) (by omega)] | fail)
theorem c_place_1 {f : File} {s : ByteArray} : XPure Tryz.prog 97 [eF f, str s] (i64 (if ltS f.name s then -1 else if ltS s f.name then 1 else 0)) false := by
  refine XPure.body ⟨_, Tryz.func97, rfl, by kernel_rfl⟩ Tryz.func97 rfl (Nat.le_of_ble_eq_true (by rfl)) (pf_of1 rfl) fun env => ?_
  repeat' ((conv => whnf); (fail_if_success (with_reducible show ∃ _, _ ∧ _ ∧ Weak _ _ _)); first | ((with_reducible show guardA _ _ _ _ _ _ ∨ _); first | (refine .inr ?_; (conv => whnf); refine ⟨_, ?_, fun h => rfl, rfl, ?_⟩; ((conv => whnf); first | exact trivial | (refine ⟨?_, trivial⟩; exact okG))) | (refine .inr ?_; (conv => whnf); refine ⟨_, trivial, fun h => ⟨?_, ?_, ?_, rfl⟩, rfl, ?_⟩; (first | exact h | rfl); exact okG; exact okG) | refine .inl ?_) | refine cY ?_ | refine cN ?_ | refine gA ?_ | refine gB ?_ | refine gC ?_ | ((first | refine gsT (fun h => ?_) (fun h => ?_) | refine gsF (fun h => ?_) (fun h => ?_) | refine ⟨fun h => ?_, fun h => ?_⟩) <;> (have hs := h; try simp only [cs, reduceCtorEq, Int.reduceEq, Int.reduceNe, Int.reduceLT, Int.reduceLE, Int.reduceBEq, Int.reduceBNe] at hs)) | (refine .inl ⟨_, _, c_Compare, ?_⟩) | ((with_reducible show _ ∧ _ ∧ Weak _ _ _); refine ⟨?_, ?_, Weak.go⟩; (omega)) | ((with_reducible show (_ ∧ _ ∧ _) ∧ _); refine ⟨⟨by kernel_rfl, by kernel_rfl, by rfl⟩, ?_⟩) | ((with_reducible show AV.pf _ = true ∧ _); refine pfA ?_) | (refine ⟨rfl, ?_, ?_, ?_⟩; exact okG; exact okG) | ((with_reducible show (_ ∨ _) ∧ _ ∧ retA _ _ _ _ _); refine ⟨?_, rfl, ?_⟩; (first | exact .inr rfl | exact .inl rfl)) | ((with_reducible show _ = _ ∧ _ = false ∧ _ = _); refine ⟨?_, rfl, rfl⟩; try (first | rfl | (conv => lhs; whnf))) | ((with_reducible show LeqD _ _); try (first | exact okN | (first | rfl | (conv => lhs; whnf))); done) | ((with_reducible show _ = _ ∧ (_ → _)); refine ⟨?_, ?_⟩; try (first | rfl | (conv => lhs; whnf))) | exact fun h => h | exact fun _ => rfl | refine ⟨rfl, ?_⟩ | (refine ⟨Nat.le_of_ble_eq_true rfl, ?_⟩) | (refine ⟨?_, ?_, ?_⟩; exact okS; exact okS) | (refine ⟨?_, ?_⟩; exact okS) | rw [wrapId (by omega) (by omega)] | fail)
  rw [cmp_ltS]
end Go.Proofs.YtepdiooaoegpfaaGreatDoor.Fx
end
section
/- Disks: what is right, where a file stands. Conditions: those in each statement. -/
namespace Go.Proofs.YtepdiooaoegpfaaGreatDoor.Fx
open Go Go.Proofs Go.Ev Go.RowKit
set_option maxRecDepth 100000
set_option maxHeartbeats 1600000
set_option linter.unusedSimpArgs false
set_option linter.unusedVariables false
def fileOk (clock : Int) (f : File) : Bool := isName f.name && decide (f.text.size ≤ 4096) && decide (0 ≤ f.stamp) && decide (f.stamp ≤ clock)
def lastF (l : List File) : Nat → File
  | 0 => File.none
  | i + 1 => l.getD i File.none
def before (l : List File) (i : Nat) : Option ByteArray := match i with
  | 0 => none
  | i + 1 => some (l.getD i File.none).name
def chkF (clock : Int) (prev : Option ByteArray) : List File → Bool
  | [] => true
  | f :: r => fileOk clock f && (match prev with | none => true | some p => ltS p f.name) && chkF clock (some f.name) r
def okD (clock : Int) (l : List File) : Bool := decide (0 ≤ clock) && decide (clock ≤ 1099511627776) && decide (l.length ≤ 256) && chkF clock none l
def errIf (b : Bool) (e : Int) : Int := bif b then 0 else e
theorem chkF_step {clock : Int} {l : List File} {i : Nat} (h : i < l.length) : chkF clock (before l i) (l.drop i) = (fileOk clock (l.getD i File.none) && (match before l i with | none => true | some p => ltS p (l.getD i File.none).name) && chkF clock (before l (i + 1)) (l.drop (i + 1))) := by
  rw [drop_getD File.none h]; rfl
theorem chkF_end {clock : Int} {l : List File} {i : Nat} (h : ¬ i < l.length) {p : Option ByteArray} : chkF clock p (l.drop i) = true := by
  rw [List.drop_eq_nil_of_le (by omega)]; rfl
theorem okD_bad {clock : Int} {l : List File} (h : clock < 0 ∨ 1099511627776 < clock ∨ 256 < l.length) : okD clock l = false := by
  simp only [okD, Bool.and_eq_false_iff, decide_eq_false_iff_not]; omega
theorem okD_good {clock : Int} {l : List File} (h : 0 ≤ clock ∧ clock ≤ 1099511627776 ∧ l.length ≤ 256) : okD clock l = chkF clock none l := by
  have : decide (0 ≤ clock) = true ∧ decide (clock ≤ 1099511627776) = true ∧ decide (l.length ≤ 256) = true := ⟨decide_eq_true h.1, decide_eq_true h.2.1, decide_eq_true h.2.2⟩
  simp [okD, this]
theorem fileOk_iff {clock : Int} {f : File} : fileOk clock f = true ↔ isName f.name = true ∧ f.text.size ≤ 4096 ∧ 0 ≤ f.stamp ∧ f.stamp ≤ clock := by
  simp [fileOk, and_assoc]
theorem fileOk_no {clock : Int} {f : File} : fileOk clock f = false ↔ isName f.name = false ∨ 4096 < f.text.size ∨ f.stamp < 0 ∨ clock < f.stamp := by
  rw [← Bool.not_eq_true, fileOk_iff]
  cases isName f.name <;> simp <;> omega
theorem ltS_not {a b : ByteArray} : ltS a b = false ↔ ltS b a = true ∨ b = a := by
  constructor
  · intro h
    cases h' : ltS b a with
    | true => exact .inl rfl
    | false => exact .inr (ltS_total h' h)
  · rintro (h | rfl)
    · exact ltS_asymm h
    · exact ltS_irrefl _
theorem chk_bad {clock : Int} {l : List File} {i : Nat} (hi : i < l.length) (h : isName (l.getD i File.none).name = false ∨ 4096 < (l.getD i File.none).text.size ∨ (l.getD i File.none).stamp < 0 ∨ clock < (l.getD i File.none).stamp ∨ (0 < i ∧ ltS (lastF l i).name (l.getD i File.none).name = false)) : chkF clock (before l i) (l.drop i) = false := by
  rw [chkF_step hi]
  have : fileOk clock (l.getD i File.none) = false ∨ (0 < i ∧ ltS (lastF l i).name (l.getD i File.none).name = false) := by
    rw [fileOk_no]
    rcases h with h | h | h | h | h
    · exact .inl (.inl h)
    · exact .inl (.inr (.inl h))
    · exact .inl (.inr (.inr (.inl h)))
    · exact .inl (.inr (.inr (.inr h)))
    · exact .inr h
  rcases this with h | ⟨h0, h⟩
  · rw [h]; rfl
  · cases i with
    | zero => omega
    | succ i => simp only [before, lastF] at h ⊢; rw [h, Bool.and_false]; rfl
theorem chk_ok {clock : Int} {l : List File} {i : Nat} (hi : i < l.length) (h1 : isName (l.getD i File.none).name = true) (h2 : (l.getD i File.none).text.size ≤ 4096) (h3 : 0 ≤ (l.getD i File.none).stamp) (h4 : (l.getD i File.none).stamp ≤ clock) (h : i = 0 ∨ ltS (lastF l i).name (l.getD i File.none).name = true) : chkF clock (before l i) (l.drop i) = chkF clock (before l (i + 1)) (l.drop (i + 1)) := by
  rw [chkF_step hi, fileOk_iff.2 ⟨h1, h2, h3, h4⟩]
  cases i with
  | zero => rfl
  | succ i =>
    rcases h with h | h
    · omega
    · simp only [before, lastF] at h ⊢; rw [h]; rfl
theorem c_disk_Check {clock : Int} {l : List File} : XPure Tryz.prog 26 [eD clock l] (i64 (errIf (okD clock l) 4)) false := by
  refine XPure.body ⟨_, Tryz.func26, rfl, by kernel_rfl⟩ Tryz.func26 rfl (Nat.le_of_ble_eq_true (by rfl)) (pf_of1 rfl) fun env => ?_
  repeat' ((conv => whnf); (fail_if_success (with_reducible show ∃ _, _ ∧ _ ∧ Weak _ _ _)); first | ((with_reducible show guardA _ _ _ _ _ _ ∨ _); first | (refine .inr ?_; (conv => whnf); refine ⟨_, ?_, fun h => rfl, rfl, ?_⟩; ((conv => whnf); first | exact trivial | (refine ⟨?_, trivial⟩; exact okG))) | (refine .inr ?_; (conv => whnf); refine ⟨_, trivial, fun h => ⟨?_, ?_, ?_, rfl⟩, rfl, ?_⟩; (first | exact h | rfl); exact okG; exact okG) | refine .inl ?_) | refine cY ?_ | refine cN ?_ | refine gA ?_ | refine gB ?_ | refine gC ?_ | ((first | refine gsT (fun h => ?_) (fun h => ?_) | refine gsF (fun h => ?_) (fun h => ?_) | refine ⟨fun h => ?_, fun h => ?_⟩) <;> (have hs := h; try simp only [cs, reduceCtorEq, Int.reduceEq, Int.reduceNe, Int.reduceLT, Int.reduceLE, Int.reduceBEq, Int.reduceBNe] at hs)) | ((with_reducible show _ ∧ _ ∧ Weak _ _ _); refine ⟨?_, ?_, Weak.go⟩; (omega)) | ((with_reducible show (_ ∧ _ ∧ _) ∧ _); refine ⟨⟨by kernel_rfl, by kernel_rfl, by rfl⟩, ?_⟩) | ((with_reducible show AV.pf _ = true ∧ _); refine pfA ?_) | (refine ⟨rfl, ?_, ?_, ?_⟩; exact okG; exact okG) | ((with_reducible show (_ ∨ _) ∧ _ ∧ retA _ _ _ _ _); refine ⟨?_, rfl, ?_⟩; (first | exact .inr rfl | exact .inl rfl)) | ((with_reducible show _ = _ ∧ _ = false ∧ _ = _); refine ⟨?_, rfl, rfl⟩; try (first | rfl | (conv => lhs; whnf))) | ((with_reducible show LeqD _ _); try (first | exact okN | (first | rfl | (conv => lhs; whnf))); done) | ((with_reducible show _ = _ ∧ (_ → _)); refine ⟨?_, ?_⟩; try (first | rfl | (conv => lhs; whnf))) | exact fun h => h | exact fun _ => rfl | refine ⟨rfl, ?_⟩ | (refine ⟨Nat.le_of_ble_eq_true rfl, ?_⟩) | (refine ⟨?_, ?_, ?_⟩; exact okS; exact okS) | (refine ⟨?_, ?_⟩; exact okS) | rw [wrapId (by omega) (by omega)] | fail)
  rotate_left
  · refine XW.countL l.length [1, 3, 22, 23] (fun i => [(24, i64 i)]) (fun _ => []) (fun i => [.cells [i64 clock, eFs l] [], .cells (eF (lastF l i)).leaves []]) (fun i => okD clock l = chkF clock (before l i) (l.drop i)) Weak.go (okD_good (by omega)) ?_
    intro i hi hA
    refine codeS ?_
    repeat' ((conv => whnf); (fail_if_success (with_reducible show ∃ _, _ ∧ _ ∧ Weak _ _ _)); first | ((with_reducible show guardA _ _ _ _ _ _ ∨ _); first | (refine .inr ?_; (conv => whnf); refine ⟨_, ?_, fun h => rfl, rfl, ?_⟩; ((conv => whnf); first | exact trivial | (refine ⟨?_, trivial⟩; exact okG))) | (refine .inr ?_; (conv => whnf); refine ⟨_, trivial, fun h => ⟨?_, ?_, ?_, rfl⟩, rfl, ?_⟩; (first | exact h | rfl); exact okG; exact okG) | refine .inl ?_) | refine cY ?_ | refine cN ?_ | refine gA ?_ | refine gB ?_ | refine gC ?_ | ((first | refine gsT (fun h => ?_) (fun h => ?_) | refine gsF (fun h => ?_) (fun h => ?_) | refine ⟨fun h => ?_, fun h => ?_⟩) <;> (have hs := h; try simp only [cs, reduceCtorEq, Int.reduceEq, Int.reduceNe, Int.reduceLT, Int.reduceLE, Int.reduceBEq, Int.reduceBNe] at hs)) | (refine .inl ⟨_, _, c_disk_named, ?_⟩) | ((with_reducible show _ ∧ _ ∧ Weak _ _ _); refine ⟨?_, ?_, Weak.go⟩; (omega)) | ((with_reducible show (_ ∧ _ ∧ _) ∧ _); refine ⟨⟨by kernel_rfl, by kernel_rfl, by rfl⟩, ?_⟩) | ((with_reducible show AV.pf _ = true ∧ _); refine pfA ?_) | (refine ⟨rfl, ?_, ?_, ?_⟩; exact okG; exact okG) | ((with_reducible show (_ ∨ _) ∧ _ ∧ retA _ _ _ _ _); refine ⟨?_, rfl, ?_⟩; (first | exact .inr rfl | exact .inl rfl)) | ((with_reducible show _ = _ ∧ _ = false ∧ _ = _); refine ⟨?_, rfl, rfl⟩; try (first | rfl | (conv => lhs; whnf))) | ((with_reducible show LeqD _ _); try (first | exact okN | (first | rfl | (conv => lhs; whnf))); done) | ((with_reducible show _ = _ ∧ (_ → _)); refine ⟨?_, ?_⟩; try (first | rfl | (conv => lhs; whnf))) | exact fun h => h | exact fun _ => rfl | refine ⟨rfl, ?_⟩ | (refine ⟨Nat.le_of_ble_eq_true rfl, ?_⟩) | (refine ⟨?_, ?_, ?_⟩; exact okS; exact okS) | (refine ⟨?_, ?_⟩; exact okS) | rw [getD_mapI (File.none) (by omega)] | rw [getD_map (File.none) (by omega)] | rw [wrapId (by omega) (by omega)] | fail)
    all_goals try (have hi' : i < l.length := by assumption)
    all_goals try simp only [cs, reduceCtorEq, Int.reduceEq, Int.reduceNe, Int.reduceLT, Int.reduceLE, Int.reduceBEq, Int.reduceBNe, Bool.or_false, Bool.and_true, true_and, or_false, and_true, not_and, not_or, reduceCtorEq] at *
    all_goals first | (rw [hA, chk_bad hi' (by rw [ltS_not]; grind)]; rfl) | (rw [hA, chk_ok hi' (by grind) (by grind) (by grind) (by grind) (by rw [← Bool.not_eq_false, ltS_not]; grind)]) | (rw [hA, chkF_end (by omega)]; rfl) | skip
  all_goals rw [okD_bad (by omega)]; rfl
theorem c_ref02_Name {s : ByteArray} (hz : s.size ≤ 140737488355328) : XPure Tryz.prog 34 [.v (.string s)] (.v (.bool (isName s))) false := by
  refine XPure.body ⟨_, Tryz.func34, rfl, by kernel_rfl⟩ Tryz.func34 rfl (Nat.le_of_ble_eq_true (by rfl)) (pf_of1 rfl) fun env => ?_
  repeat' ((conv => whnf); (fail_if_success (with_reducible show ∃ _, _ ∧ _ ∧ Weak _ _ _)); first | ((with_reducible show guardA _ _ _ _ _ _ ∨ _); first | (refine .inr ?_; (conv => whnf); refine ⟨_, ?_, fun h => rfl, rfl, ?_⟩; ((conv => whnf); first | exact trivial | (refine ⟨?_, trivial⟩; exact okG))) | (refine .inr ?_; (conv => whnf); refine ⟨_, trivial, fun h => ⟨?_, ?_, ?_, rfl⟩, rfl, ?_⟩; (first | exact h | rfl); exact okG; exact okG) | refine .inl ?_) | refine cY ?_ | refine cN ?_ | refine gA ?_ | refine gB ?_ | refine gC ?_ | ((first | refine gsT (fun h => ?_) (fun h => ?_) | refine gsF (fun h => ?_) (fun h => ?_) | refine ⟨fun h => ?_, fun h => ?_⟩) <;> (have hs := h; try simp only [cs, reduceCtorEq, Int.reduceEq, Int.reduceNe, Int.reduceLT, Int.reduceLE, Int.reduceBEq, Int.reduceBNe] at hs)) | ((with_reducible show _ ∧ _ ∧ Weak _ _ _); refine ⟨?_, ?_, Weak.go⟩; (omega)) | ((with_reducible show (_ ∧ _ ∧ _) ∧ _); refine ⟨⟨by kernel_rfl, by kernel_rfl, by rfl⟩, ?_⟩) | ((with_reducible show AV.pf _ = true ∧ _); refine pfA ?_) | (refine ⟨rfl, ?_, ?_, ?_⟩; exact okG; exact okG) | ((with_reducible show (_ ∨ _) ∧ _ ∧ retA _ _ _ _ _); refine ⟨?_, rfl, ?_⟩; (first | exact .inr rfl | exact .inl rfl)) | ((with_reducible show _ = _ ∧ _ = false ∧ _ = _); refine ⟨?_, rfl, rfl⟩; try (first | rfl | (conv => lhs; whnf))) | ((with_reducible show LeqD _ _); try (first | exact okN | (first | rfl | (conv => lhs; whnf))); done) | ((with_reducible show _ = _ ∧ (_ → _)); refine ⟨?_, ?_⟩; try (first | rfl | (conv => lhs; whnf))) | exact fun h => h | exact fun _ => rfl | refine ⟨rfl, ?_⟩ | (refine ⟨Nat.le_of_ble_eq_true rfl, ?_⟩) | (refine ⟨?_, ?_, ?_⟩; exact okS; exact okS) | (refine ⟨?_, ?_⟩; exact okS) | rw [wrapId (by omega) (by omega)] | fail)
  refine XW.countL s.size [0] (fun i => [(3, i64 i)]) (fun _ => []) (fun _ => []) (fun i => (s.data.toList.all fun c => isLetter c.toNat) = (s.data.toList.drop i).all fun c => isLetter c.toNat) Weak.go rfl ?_
  intro i hi hA
  refine codeS ?_
  repeat' ((conv => whnf); (fail_if_success (with_reducible show ∃ _, _ ∧ _ ∧ Weak _ _ _)); first | ((with_reducible show guardA _ _ _ _ _ _ ∨ _); first | (refine .inr ?_; (conv => whnf); refine ⟨_, ?_, fun h => rfl, rfl, ?_⟩; ((conv => whnf); first | exact trivial | (refine ⟨?_, trivial⟩; exact okG))) | (refine .inr ?_; (conv => whnf); refine ⟨_, trivial, fun h => ⟨?_, ?_, ?_, rfl⟩, rfl, ?_⟩; (first | exact h | rfl); exact okG; exact okG) | refine .inl ?_) | refine cY ?_ | refine cN ?_ | refine gA ?_ | refine gB ?_ | refine gC ?_ | ((first | refine gsT (fun h => ?_) (fun h => ?_) | refine gsF (fun h => ?_) (fun h => ?_) | refine ⟨fun h => ?_, fun h => ?_⟩) <;> (have hs := h; try simp only [cs, reduceCtorEq, Int.reduceEq, Int.reduceNe, Int.reduceLT, Int.reduceLE, Int.reduceBEq, Int.reduceBNe] at hs)) | ((with_reducible show _ ∧ _ ∧ Weak _ _ _); refine ⟨?_, ?_, Weak.go⟩; (omega)) | ((with_reducible show (_ ∧ _ ∧ _) ∧ _); refine ⟨⟨by kernel_rfl, by kernel_rfl, by rfl⟩, ?_⟩) | ((with_reducible show AV.pf _ = true ∧ _); refine pfA ?_) | (refine ⟨rfl, ?_, ?_, ?_⟩; exact okG; exact okG) | ((with_reducible show (_ ∨ _) ∧ _ ∧ retA _ _ _ _ _); refine ⟨?_, rfl, ?_⟩; (first | exact .inr rfl | exact .inl rfl)) | ((with_reducible show _ = _ ∧ _ = false ∧ _ = _); refine ⟨?_, rfl, rfl⟩; try (first | rfl | (conv => lhs; whnf))) | ((with_reducible show LeqD _ _); try (first | exact okN | (first | rfl | (conv => lhs; whnf))); done) | ((with_reducible show _ = _ ∧ (_ → _)); refine ⟨?_, ?_⟩; try (first | rfl | (conv => lhs; whnf))) | exact fun h => h | exact fun _ => rfl | refine ⟨rfl, ?_⟩ | (refine ⟨Nat.le_of_ble_eq_true rfl, ?_⟩) | (refine ⟨?_, ?_, ?_⟩; exact okS; exact okS) | (refine ⟨?_, ?_⟩; exact okS) | rw [wrapId (by omega) (by omega)] | fail)
  · have h1 : isLetter (byteAt s i).toNat = false := by simp only [isLetter, cs, reduceCtorEq, Int.reduceEq, Int.reduceNe, Int.reduceLT, Int.reduceLE, Int.reduceBEq, Int.reduceBNe]; omega
    have : isName s = false := by unfold isName; rw [hA, all_no ‹_› h1, Bool.and_false]
    rw [this]
  · exact hA.trans (all_yes ‹_› (by simp only [isLetter, cs, reduceCtorEq, Int.reduceEq, Int.reduceNe, Int.reduceLT, Int.reduceLE, Int.reduceBEq, Int.reduceBNe]; omega))
  · have : isName s = (decide (0 < s.size) && decide (s.size ≤ 64)) := by unfold isName; rw [hA, all_end hs, Bool.and_true]
    rw [this]
    exact congrArg (fun b => AV.v (Value.bool b)) (by rw [show (decide ((s.size : Int) > 0)) = decide (0 < s.size) from decide_eq_decide.2 (by omega), show (decide ((s.size : Int) ≤ 64)) = decide (s.size ≤ 64) from decide_eq_decide.2 (by omega)]; cases decide (0 < s.size) <;> rfl)
theorem lastF_sub {l : List File} {i : Nat} (h : 0 < i) : l.getD ((i : Int) - 1).toNat File.none = lastF l i := by
  cases i with
  | zero => omega
  | succ i => rw [show (((i + 1 : Nat) : Int) - 1).toNat = i from by omega]; rfl
theorem c_ref02_Check {clock : Int} {l : List File} (hl : l.length ≤ 1000000000) (hz : ∀ i, i < l.length → (l.getD i File.none).name.size ≤ 140737488355328) : XPure Tryz.prog 14 [eD clock l] (i64 (errIf (okD clock l) 4)) false := by
  refine XPure.body ⟨_, Tryz.func14, rfl, by kernel_rfl⟩ Tryz.func14 rfl (Nat.le_of_ble_eq_true (by rfl)) (pf_of1 rfl) fun env => ?_
  repeat' ((conv => whnf); (fail_if_success (with_reducible show ∃ _, _ ∧ _ ∧ Weak _ _ _)); first | ((with_reducible show guardA _ _ _ _ _ _ ∨ _); first | (refine .inr ?_; (conv => whnf); refine ⟨_, ?_, fun h => rfl, rfl, ?_⟩; ((conv => whnf); first | exact trivial | (refine ⟨?_, trivial⟩; exact okG))) | (refine .inr ?_; (conv => whnf); refine ⟨_, trivial, fun h => ⟨?_, ?_, ?_, rfl⟩, rfl, ?_⟩; (first | exact h | rfl); exact okG; exact okG) | refine .inl ?_) | refine cY ?_ | refine cN ?_ | refine gA ?_ | refine gB ?_ | refine gC ?_ | ((first | refine gsT (fun h => ?_) (fun h => ?_) | refine gsF (fun h => ?_) (fun h => ?_) | refine ⟨fun h => ?_, fun h => ?_⟩) <;> (have hs := h; try simp only [cs, reduceCtorEq, Int.reduceEq, Int.reduceNe, Int.reduceLT, Int.reduceLE, Int.reduceBEq, Int.reduceBNe] at hs)) | ((with_reducible show _ ∧ _ ∧ Weak _ _ _); refine ⟨?_, ?_, Weak.go⟩; (omega)) | ((with_reducible show (_ ∧ _ ∧ _) ∧ _); refine ⟨⟨by kernel_rfl, by kernel_rfl, by rfl⟩, ?_⟩) | ((with_reducible show AV.pf _ = true ∧ _); refine pfA ?_) | (refine ⟨rfl, ?_, ?_, ?_⟩; exact okG; exact okG) | ((with_reducible show (_ ∨ _) ∧ _ ∧ retA _ _ _ _ _); refine ⟨?_, rfl, ?_⟩; (first | exact .inr rfl | exact .inl rfl)) | ((with_reducible show _ = _ ∧ _ = false ∧ _ = _); refine ⟨?_, rfl, rfl⟩; try (first | rfl | (conv => lhs; whnf))) | ((with_reducible show LeqD _ _); try (first | exact okN | (first | rfl | (conv => lhs; whnf))); done) | ((with_reducible show _ = _ ∧ (_ → _)); refine ⟨?_, ?_⟩; try (first | rfl | (conv => lhs; whnf))) | exact fun h => h | exact fun _ => rfl | refine ⟨rfl, ?_⟩ | (refine ⟨Nat.le_of_ble_eq_true rfl, ?_⟩) | (refine ⟨?_, ?_, ?_⟩; exact okS; exact okS) | (refine ⟨?_, ?_⟩; exact okS) | rw [wrapId (by omega) (by omega)] | fail)
  rotate_left
  · refine XW.countL l.length [1] (fun i => [(3, i64 i)]) (fun _ => []) (fun i => [.cells [i64 clock, eFs l] []]) (fun i => okD clock l = chkF clock (before l i) (l.drop i)) Weak.go (okD_good (by omega)) ?_
    intro i hi hA
    refine codeS ?_
    repeat' ((conv => whnf); (fail_if_success (with_reducible show ∃ _, _ ∧ _ ∧ Weak _ _ _)); first | ((with_reducible show guardA _ _ _ _ _ _ ∨ _); first | (refine .inr ?_; (conv => whnf); refine ⟨_, ?_, fun h => rfl, rfl, ?_⟩; ((conv => whnf); first | exact trivial | (refine ⟨?_, trivial⟩; exact okG))) | (refine .inr ?_; (conv => whnf); refine ⟨_, trivial, fun h => ⟨?_, ?_, ?_, rfl⟩, rfl, ?_⟩; (first | exact h | rfl); exact okG; exact okG) | refine .inl ?_) | refine cY ?_ | refine cN ?_ | refine gA ?_ | refine gB ?_ | refine gC ?_ | ((first | refine gsT (fun h => ?_) (fun h => ?_) | refine gsF (fun h => ?_) (fun h => ?_) | refine ⟨fun h => ?_, fun h => ?_⟩) <;> (have hs := h; try simp only [cs, reduceCtorEq, Int.reduceEq, Int.reduceNe, Int.reduceLT, Int.reduceLE, Int.reduceBEq, Int.reduceBNe] at hs)) | (refine .inl ⟨_, _, c_ref02_Name (hz i (by omega)), ?_⟩) | ((with_reducible show _ ∧ _ ∧ Weak _ _ _); refine ⟨?_, ?_, Weak.go⟩; (omega)) | refine XW.dr (m := 14) ?_ | (refine ⟨_, _, c_ref02_Name (hz i (by omega)), ?_⟩) | ((with_reducible show (_ ∧ _ ∧ _) ∧ _); refine ⟨⟨by kernel_rfl, by kernel_rfl, by rfl⟩, ?_⟩) | ((with_reducible show AV.pf _ = true ∧ _); refine pfA ?_) | (refine ⟨rfl, ?_, ?_, ?_⟩; exact okG; exact okG) | ((with_reducible show (_ ∨ _) ∧ _ ∧ retA _ _ _ _ _); refine ⟨?_, rfl, ?_⟩; (first | exact .inr rfl | exact .inl rfl)) | ((with_reducible show _ = _ ∧ _ = false ∧ _ = _); refine ⟨?_, rfl, rfl⟩; try (first | rfl | (conv => lhs; whnf))) | ((with_reducible show LeqD _ _); try (first | exact okN | (first | rfl | (conv => lhs; whnf))); done) | ((with_reducible show _ = _ ∧ (_ → _)); refine ⟨?_, ?_⟩; try (first | rfl | (conv => lhs; whnf))) | exact fun h => h | exact fun _ => rfl | refine ⟨rfl, ?_⟩ | (refine ⟨Nat.le_of_ble_eq_true rfl, ?_⟩) | (refine ⟨?_, ?_, ?_⟩; exact okS; exact okS) | (refine ⟨?_, ?_⟩; exact okS) | rw [getD_mapI (File.none) (by omega)] | rw [getD_map (File.none) (by omega)] | rw [wrapId (by omega) (by omega)] | fail)
    all_goals try (have hi' : i < l.length := by assumption)
    all_goals try rw [lastF_sub (by omega)] at *
    all_goals try simp only [cs, reduceCtorEq, Int.reduceEq, Int.reduceNe, Int.reduceLT, Int.reduceLE, Int.reduceBEq, Int.reduceBNe, Bool.or_false, Bool.and_true, true_and, or_false, and_true, not_and, not_or, reduceCtorEq] at *
    all_goals first | (rw [hA, chk_bad hi' (by grind)]; rfl) | (rw [hA, chk_ok hi' (by grind) (by grind) (by grind) (by grind) (by grind)]) | (rw [hA, chkF_end (by omega)]; rfl) | skip
  all_goals rw [okD_bad (by omega)]; rfl
end Go.Proofs.YtepdiooaoegpfaaGreatDoor.Fx
end
