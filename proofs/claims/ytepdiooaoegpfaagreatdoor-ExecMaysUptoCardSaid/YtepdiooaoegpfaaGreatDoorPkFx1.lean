/- Written by programs of this session: laws and contracts that the law's proof stands on, merged into one text. Conditions: none beyond those in each statement. -/
import Derived.Test.YtepdiooaoegpfaaGreatDoorPkEv3
import Derived.WideShapes
import Derived.Laws.Strings
import Derived.Lib.Bytealg
import Derived.Test.YtepdiooaoegpfaaGreatDoorProg
import Derived.Test.YtepdiooaoegpfaaGreatDoorPkSh1
section
/- What the program speaks of, as structures and trees; texts in their order. Conditions: those in each statement. -/
namespace Go.Proofs.YtepdiooaoegpfaaGreatDoor.Fx
open Go Go.Proofs Go.Ev Go.RowKit
set_option linter.unusedSimpArgs false
set_option linter.unusedVariables false

theorem beqS_iff {a b : ByteArray} : beqS a b = true ↔ a = b := by
  unfold beqS
  rw [ByteArray.toList_eq, ByteArray.toList_eq, beq_iff_eq]
  exact ⟨fun h => Go.WideShapes.bytes_inj h, fun h => by rw [h]⟩
theorem beqS_no {a b : ByteArray} : beqS a b = false ↔ a ≠ b := by rw [← Bool.not_eq_true, beqS_iff]
theorem beqS_self {a : ByteArray} : beqS a a = true := beqS_iff.2 rfl
/-- What makes a condition readable, all in one. -/
theorem cs : ({ data := #[] } : ByteArray) = ByteArray.empty ∧ ({ data := [].toArray } : ByteArray) = ByteArray.empty ∧ (∀ p : Prop, (False ∧ p) = False) ∧ (∀ p : Prop, (p ∧ False) = False) ∧ (∀ p : Prop, (False ∨ p) = p) ∧ (∀ p : Prop, (p ∨ False) = p) ∧ (∀ p : Prop, (True ∧ p) = p) ∧ (∀ p : Prop, (p ∧ True) = p) ∧ (∀ p : Prop, (True ∨ p) = True) ∧ (∀ p : Prop, (p ∨ True) = True) ∧
    (¬True) = False ∧ (¬False) = True ∧ (∀ {α : Type} (a b : α), cond true a b = a) ∧ (∀ {α : Type} (a b : α), cond false a b = b) ∧ (∀ n : Nat, Int.toNat (n : Int) = n) ∧ (∀ {α β : Type} (f : α → β) (l : List α), (l.map f).length = l.length) ∧
    (∀ {a b : ByteArray}, beqS a b = true ↔ a = b) ∧ (∀ {a b : ByteArray}, beqS a b = false ↔ a ≠ b) ∧ (∀ a b : Bool, cond a true b = (a || b)) ∧ (∀ a b : Bool, cond a b false = (a && b)) ∧ (∀ a b : Bool, ((a || b) = true) = (a = true ∨ b = true)) ∧ (∀ a b : Bool, (a || b) = false ↔ a = false ∧ b = false) ∧ (∀ a b : Bool, ((a && b) = true) = (a = true ∧ b = true)) ∧ (∀ a b : Bool, (a && b) = false ↔ a = false ∨ b = false) ∧
    (∀ (p : Prop) [Decidable p], (decide p = true) = p) ∧ (∀ (p : Prop) [Decidable p], (decide p = false) = ¬ p) ∧ (∀ a : Bool, ((!a) = true) = (a = false)) ∧ (∀ a : Bool, ((!a) = false) = (a = true)) ∧ (∀ {α : Type} [BEq α] [LawfulBEq α] {a b : α}, (a == b) = true ↔ a = b) ∧ (∀ {α : Type} [BEq α] [LawfulBEq α] {a b : α}, (a != b) = true ↔ a ≠ b) ∧ (∀ {α : Type} [BEq α] [LawfulBEq α] {a b : α}, (a == b) = false ↔ a ≠ b) ∧ (∀ {α : Type} [BEq α] [LawfulBEq α] {a b : α}, (a != b) = false ↔ a = b) ∧
    (∀ {m n : Nat}, (m : Int) < (n : Int) ↔ m < n) ∧ (∀ {m n : Nat}, (m : Int) ≤ (n : Int) ↔ m ≤ n) ∧ (∀ {a b : Int}, ¬ a < b ↔ b ≤ a) ∧ (∀ {a b : Int}, ¬ a ≤ b ↔ b < a) ∧ (∀ {α : Type} [LE α] {a b : α}, a ≥ b ↔ b ≤ a) ∧ (∀ {α : Type} [LT α] {a b : α}, a > b ↔ b < a) ∧ (∀ {α : Type} (a b : α), (a ≠ b) = ¬ a = b) := by
  refine ⟨rfl, rfl, ?_, ?_, ?_, ?_, ?_, ?_, ?_, ?_, ?_, ?_, fun _ _ => rfl, fun _ _ => rfl, fun _ => rfl, fun _ _ => List.length_map _, beqS_iff, beqS_no, ?_, ?_, ?_, ?_, ?_, ?_, ?_, ?_, ?_, ?_, beq_iff_eq, bne_iff_ne, beq_eq_false_iff_ne, bne_eq_false_iff_eq, Int.ofNat_lt, Int.ofNat_le, Int.not_lt, Int.not_le, Iff.rfl, Iff.rfl, fun _ _ => rfl⟩ <;> intros <;> first | (simp; done) | (rename_i a b; cases a <;> cases b <;> simp)
theorem beqS_comm (a b : ByteArray) : beqS a b = beqS b a := by
  cases h : beqS b a with
  | true => exact beqS_iff.2 (beqS_iff.1 h).symm
  | false => exact beqS_no.2 fun e => beqS_no.1 h e.symm
theorem less_asymm : ∀ {x y : List UInt8}, Op.bytesLess x y = true → Op.bytesLess y x = false
  | [], [], h => by cases h
  | [], _ :: _, _ => rfl
  | _ :: _, [], h => by cases h
  | a :: x, b :: y, h => by
    simp only [Op.bytesLess, Bool.or_eq_true, decide_eq_true_eq, Bool.and_eq_true, beq_iff_eq, Bool.or_eq_false_iff, decide_eq_false_iff_not, Bool.and_eq_false_iff] at h ⊢
    rcases h with h | ⟨rfl, h⟩
    · exact ⟨fun k => absurd (UInt8.lt_trans h k) (UInt8.lt_irrefl a), .inl (by simp only [beq_eq_false_iff_ne]; intro e; subst e; exact UInt8.lt_irrefl _ h)⟩
    · exact ⟨UInt8.lt_irrefl _, .inr (less_asymm h)⟩
theorem less_trans : ∀ {x y z : List UInt8}, Op.bytesLess x y = true → Op.bytesLess y z = true → Op.bytesLess x z = true
  | _, [], _, h, _ => by simp [Op.bytesLess] at h
  | _, _ :: _, [], _, h => by simp [Op.bytesLess] at h
  | [], _ :: _, _ :: _, _, _ => rfl
  | a :: x, b :: y, c :: z, h, k => by
    simp only [Op.bytesLess, Bool.or_eq_true, decide_eq_true_eq, Bool.and_eq_true, beq_iff_eq] at h k ⊢
    rcases h with h | ⟨rfl, h⟩
    · rcases k with k | ⟨rfl, k⟩
      · exact .inl (UInt8.lt_trans h k)
      · exact .inl h
    · rcases k with k | ⟨rfl, k⟩
      · exact .inl k
      · exact .inr ⟨rfl, less_trans h k⟩
theorem less_total : ∀ {x y : List UInt8}, Op.bytesLess x y = false → Op.bytesLess y x = false → x = y
  | [], [], _, _ => rfl
  | [], _ :: _, h, _ => by cases h
  | _ :: _, [], _, h => by cases h
  | a :: x, b :: y, h, k => by
    simp only [Op.bytesLess, Bool.or_eq_false_iff, decide_eq_false_iff_not, Bool.and_eq_false_iff, beq_eq_false_iff_ne] at h k
    have e : a = b := by
      rcases Nat.lt_trichotomy a.toNat b.toNat with q | q | q
      · exact absurd (UInt8.lt_iff_toNat_lt.2 q) h.1
      · exact UInt8.toNat_inj.1 q
      · exact absurd (UInt8.lt_iff_toNat_lt.2 q) k.1
    subst e
    rcases h.2 with h | h
    · exact absurd rfl h
    · rcases k.2 with k | k
      · exact absurd rfl k
      · rw [less_total h k]
theorem ltS_asymm {a b : ByteArray} (h : ltS a b = true) : ltS b a = false := less_asymm h
theorem ltS_trans {a b c : ByteArray} (h : ltS a b = true) (k : ltS b c = true) : ltS a c = true := less_trans h k
theorem ltS_total {a b : ByteArray} (h : ltS a b = false) (k : ltS b a = false) : a = b := by
  have := less_total h k
  rw [ByteArray.toList_eq, ByteArray.toList_eq] at this
  exact Go.WideShapes.bytes_inj this
theorem ltS_irrefl (a : ByteArray) : ltS a a = false := by
  cases h : ltS a a with
  | false => rfl
  | true => rw [ltS_asymm h] at h; cases h
theorem cmp_less : ∀ (x y : List UInt8), Lib.compareBytes x y = if Op.bytesLess x y then -1 else if Op.bytesLess y x then 1 else 0
  | [], [] => rfl
  | [], _ :: _ => rfl
  | _ :: _, [] => rfl
  | a :: x, b :: y => by
    simp only [Lib.compareBytes, Op.bytesLess]
    by_cases h : a < b
    · have : ¬ b < a := fun k => UInt8.lt_irrefl _ (UInt8.lt_trans h k)
      simp [h]
    · by_cases k : b < a
      · have e : (a == b) = false := by rw [beq_eq_false_iff_ne]; intro e; subst e; exact UInt8.lt_irrefl _ k
        simp [h, k, e]
      · have e : a = b := by
          rcases Nat.lt_trichotomy a.toNat b.toNat with q | q | q
          · exact absurd (UInt8.lt_iff_toNat_lt.2 q) h
          · exact UInt8.toNat_inj.1 q
          · exact absurd (UInt8.lt_iff_toNat_lt.2 q) k
        subst e
        simp [h, cmp_less x y]
theorem cmp_ltS (a b : ByteArray) : Lib.compareBytes a.data.toList b.data.toList = if ltS a b then -1 else if ltS b a then 1 else 0 := by
  rw [cmp_less]; unfold ltS; rw [ByteArray.toList_eq, ByteArray.toList_eq]

/-- Texts. -/
abbrev eS (l : List ByteArray) : AV := .sl 1 (l.map fun x => .v (.string x))
abbrev i64 (n : Int) : AV := .v (.int .i64 n)
abbrev str (s : ByteArray) : AV := .v (.string s)
abbrev nilv : AV := .v (.slice none 0 0)
abbrev bln (b : Bool) : AV := .v (.bool b)
def hasS (l : List ByteArray) (s : ByteArray) : Bool := l.any fun x => beqS x s
/-- The place of a text; -1: none. -/
def findN (l : List ByteArray) (s : ByteArray) (i : Nat) : Int := match l with
  | [] => -1
  | x :: r => if beqS s x then i else findN r s (i + 1)

structure File where
  name : ByteArray
  text : ByteArray
  stamp : Int
  deriving DecidableEq, Inhabited
abbrev eF (f : File) : AV := .agg [str f.name, str f.text, i64 f.stamp]
abbrev eFs (l : List File) : AV := .sl 3 (l.map eF)
/-- A disk's leaves. -/
abbrev eD (clock : Int) (l : List File) : AV := .agg [i64 clock, eFs l]
def File.none : File := ⟨.empty, .empty, 0⟩
structure Fail where
  target : ByteArray
  line : Int
  status : Int
structure Node where
  target : ByteArray
  needs : List ByteArray
  recipe : List ByteArray
  has : Bool
  source : ByteArray
  stem : ByteArray
  phony : Bool
  precious : Bool
  ignore : Bool
  silent : Bool
  deriving Inhabited
abbrev eN (n : Node) : AV := .agg [str n.target, eS n.needs, eS n.recipe, bln n.has, str n.source, str n.stem, bln n.phony, bln n.precious, bln n.ignore, bln n.silent]
theorem any_no {α : Type} {l : List α} {i : Nat} {p : α → Bool} (d : α) (hi : i < l.length) (h : p (l.getD i d) = false) : (l.drop i).any p = (l.drop (i + 1)).any p := by
  rw [drop_getD d hi, List.any_cons, h, Bool.false_or]
theorem any_yes {α : Type} {l : List α} {i : Nat} {p : α → Bool} (d : α) (hi : i < l.length) (h : p (l.getD i d) = true) : (l.drop i).any p = true := by
  rw [drop_getD d hi, List.any_cons, h]; rfl
theorem any_end {α : Type} {l : List α} {i : Nat} {p : α → Bool} (hi : ¬ i < l.length) : (l.drop i).any p = false := by
  rw [List.drop_eq_nil_of_le (by omega)]; rfl
theorem allL_no {α : Type} {l : List α} {i : Nat} {p : α → Bool} (d : α) (hi : i < l.length) (h : p (l.getD i d) = false) : (l.drop i).all p = false := by
  rw [drop_getD d hi, List.all_cons, h]; rfl
theorem allL_yes {α : Type} {l : List α} {i : Nat} {p : α → Bool} (d : α) (hi : i < l.length) (h : p (l.getD i d) = true) : (l.drop i).all p = (l.drop (i + 1)).all p := by
  rw [drop_getD d hi, List.all_cons, h, Bool.true_and]
theorem allL_end {α : Type} {l : List α} {i : Nat} {p : α → Bool} (hi : ¬ i < l.length) : (l.drop i).all p = true := by
  rw [List.drop_eq_nil_of_le (by omega)]; rfl
end Go.Proofs.YtepdiooaoegpfaaGreatDoor.Fx
end
section
/- Names and texts, over trees. Conditions: those in each statement. -/
namespace Go.Proofs.YtepdiooaoegpfaaGreatDoor.Fx
open Go Go.Proofs Go.Ev Go.RowKit
set_option maxRecDepth 100000
set_option maxHeartbeats 1600000
set_option linter.unusedSimpArgs false
set_option linter.unusedVariables false
def isLetter (k : Int) : Bool := (decide (k ≥ 65) && decide (k ≤ 90)) || (decide (k ≥ 97) && decide (k ≤ 122)) || (decide (k ≥ 48) && decide (k ≤ 57)) || k == 95 || k == 45 || k == 46 || k == 47 || k == 43
def isName (s : ByteArray) : Bool := decide (0 < s.size) && decide (s.size ≤ 64) && s.data.toList.all fun c => isLetter c.toNat

theorem c_IndexByte {s : ByteArray} {c : Int} : XPure Tryz.prog 65 [.v (.string s), .v (.int .u8 c)] (.v (.int .i64 (Lib.indexByte s.data.toList c.toNat.toUInt8))) false :=
  XPure.ofCalls (l := [.string s, .int .u8 c]) ⟨_, Tryz.func65, rfl, by kernel_rfl⟩ rfl (fun w => (Tryz.strings_IndexByte s c w).mono fun e w' ⟨h1, h2⟩ => ⟨h1, h2 ▸ Below.refl _ _⟩) fun _ _ _ _ => rep_v_mk rfl
theorem x_IndexByte : ∃ f : ByteArray → Int → Int, (∀ s c, f s c = Lib.indexByte s.data.toList c.toNat.toUInt8) ∧ ∀ s c, XPure Tryz.prog 65 [.v (.string s), .v (.int .u8 c)] (.v (.int .i64 (f s c))) false := ⟨_, fun _ _ => rfl, fun _ _ => c_IndexByte⟩
theorem c_Compare {a b : ByteArray} : XPure Tryz.prog 98 [.v (.string a), .v (.string b)] (.v (.int .i64 (Lib.compareBytes a.data.toList b.data.toList))) false :=
  XPure.ofCalls (l := [.string a, .string b]) ⟨_, Tryz.func98, rfl, by kernel_rfl⟩ rfl (fun w => (Tryz.strings_Compare a b w).mono fun e w' ⟨h1, h2⟩ => ⟨h1, h2 ▸ Below.refl _ _⟩) fun _ _ _ _ => rep_v_mk rfl

theorem isName_bad {s : ByteArray} (h : s.size < 1 ∨ 64 < s.size) : isName s = false := by
  simp only [isName, Bool.and_eq_false_iff, decide_eq_false_iff_not]; omega
theorem isName_good {s : ByteArray} (h : 1 ≤ s.size ∧ s.size ≤ 64) : isName s = s.data.toList.all fun c => isLetter c.toNat := by
  have : decide (0 < s.size) = true ∧ decide (s.size ≤ 64) = true := ⟨decide_eq_true (by omega), decide_eq_true (by omega)⟩
  simp [isName, this]
theorem all_no {s : ByteArray} {i : Nat} {p : UInt8 → Bool} (hi : i < s.size) (h : p (byteAt s i) = false) : (s.data.toList.drop i).all p = false := by
  rw [drop_byte hi, List.all_cons, h]; rfl
theorem all_yes {s : ByteArray} {i : Nat} {p : UInt8 → Bool} (hi : i < s.size) (h : p (byteAt s i) = true) : (s.data.toList.drop i).all p = (s.data.toList.drop (i + 1)).all p := by
  rw [drop_byte hi, List.all_cons, h, Bool.true_and]
theorem all_end {s : ByteArray} {i : Nat} {p : UInt8 → Bool} (hi : ¬ i < s.size) : (s.data.toList.drop i).all p = true := by
  rw [drop_end hi]; rfl

theorem letterIB : ∀ n : Nat, n < 256 → (isLetter n = (decide (n ≥ 65) && decide (n ≤ 90) || decide (n ≥ 97) && decide (n ≤ 122) || decide (n ≥ 48) && decide (n ≤ 57) || decide (Lib.indexByte [95, 45, 46, 47, 43] n.toUInt8 ≥ 0))) := by decide +kernel
theorem c_disk_named {s : ByteArray} : XPure Tryz.prog 43 [.v (.string s)] (.v (.bool (isName s))) false := by
  obtain ⟨f, hf, cI⟩ := x_IndexByte
  refine XPure.body ⟨_, Tryz.func43, rfl, by kernel_rfl⟩ Tryz.func43 rfl (Nat.le_of_ble_eq_true (by rfl)) (pf_of1 rfl) fun env => ?_
  repeat' ((conv => whnf); (fail_if_success (with_reducible show ∃ _, _ ∧ _ ∧ Weak _ _ _)); first | ((with_reducible show guardA _ _ _ _ _ _ ∨ _); first | (refine .inr ?_; (conv => whnf); refine ⟨_, ?_, fun h => rfl, rfl, ?_⟩; ((conv => whnf); first | exact trivial | (refine ⟨?_, trivial⟩; exact okG))) | (refine .inr ?_; (conv => whnf); refine ⟨_, trivial, fun h => ⟨?_, ?_, ?_, rfl⟩, rfl, ?_⟩; (first | exact h | rfl); exact okG; exact okG) | refine .inl ?_) | refine cY ?_ | refine cN ?_ | refine gA ?_ | refine gB ?_ | refine gC ?_ | ((first | refine gsT (fun h => ?_) (fun h => ?_) | refine gsF (fun h => ?_) (fun h => ?_) | refine ⟨fun h => ?_, fun h => ?_⟩) <;> (have hs := h; try simp only [cs, reduceCtorEq, Int.reduceEq, Int.reduceNe, Int.reduceLT, Int.reduceLE, Int.reduceBEq, Int.reduceBNe] at hs)) | ((with_reducible show _ ∧ _ ∧ Weak _ _ _); refine ⟨?_, ?_, Weak.go⟩; (omega)) | ((with_reducible show (_ ∧ _ ∧ _) ∧ _); refine ⟨⟨by kernel_rfl, by kernel_rfl, by rfl⟩, ?_⟩) | ((with_reducible show AV.pf _ = true ∧ _); refine pfA ?_) | (refine ⟨rfl, ?_, ?_, ?_⟩; exact okG; exact okG) | ((with_reducible show (_ ∨ _) ∧ _ ∧ retA _ _ _ _ _); refine ⟨?_, rfl, ?_⟩; (first | exact .inr rfl | exact .inl rfl)) | ((with_reducible show _ = _ ∧ _ = false ∧ _ = _); refine ⟨?_, rfl, rfl⟩; try (first | rfl | (conv => lhs; whnf))) | ((with_reducible show LeqD _ _); try (first | exact okN | (first | rfl | (conv => lhs; whnf))); done) | ((with_reducible show _ = _ ∧ (_ → _)); refine ⟨?_, ?_⟩; try (first | rfl | (conv => lhs; whnf))) | exact fun h => h | exact fun _ => rfl | refine ⟨rfl, ?_⟩ | (refine ⟨Nat.le_of_ble_eq_true rfl, ?_⟩) | (refine ⟨?_, ?_, ?_⟩; exact okS; exact okS) | (refine ⟨?_, ?_⟩; exact okS) | rw [wrapId (by omega) (by omega)] | fail)
  · rw [isName_bad (by omega)]
  · refine XW.count s.size (fun i => [(15, .v (.int .i64 i))]) (fun i => isName s = (s.data.toList.drop i).all fun c => isLetter c.toNat) Weak.go (isName_good (by omega)) ?_
    intro i hi hA
    have key : isLetter (byteAt s i).toNat = (decide ((byteAt s i).toNat ≥ 65) && decide ((byteAt s i).toNat ≤ 90) || decide ((byteAt s i).toNat ≥ 97) && decide ((byteAt s i).toNat ≤ 122) || decide ((byteAt s i).toNat ≥ 48) && decide ((byteAt s i).toNat ≤ 57) || decide (f ⟨#[95, 45, 46, 47, 43]⟩ (byteAt s i).toNat ≥ 0)) := by
      rw [hf]; exact letterIB _ (UInt8.toNat_lt _)
    refine codeA_sound _ _ _ ?_
    repeat' ((conv => whnf); (fail_if_success (with_reducible show ∃ _, _ ∧ _ ∧ Weak _ _ _)); first | ((with_reducible show guardA _ _ _ _ _ _ ∨ _); first | (refine .inr ?_; (conv => whnf); refine ⟨_, ?_, fun h => rfl, rfl, ?_⟩; ((conv => whnf); first | exact trivial | (refine ⟨?_, trivial⟩; exact okG))) | (refine .inr ?_; (conv => whnf); refine ⟨_, trivial, fun h => ⟨?_, ?_, ?_, rfl⟩, rfl, ?_⟩; (first | exact h | rfl); exact okG; exact okG) | refine .inl ?_) | refine cY ?_ | refine cN ?_ | refine gA ?_ | refine gB ?_ | refine gC ?_ | ((first | refine gsT (fun h => ?_) (fun h => ?_) | refine gsF (fun h => ?_) (fun h => ?_) | refine ⟨fun h => ?_, fun h => ?_⟩) <;> (have hs := h; try simp only [cs, reduceCtorEq, Int.reduceEq, Int.reduceNe, Int.reduceLT, Int.reduceLE, Int.reduceBEq, Int.reduceBNe] at hs)) | (refine .inl ⟨_, _, cI _ _, ?_⟩) | ((with_reducible show _ ∧ _ ∧ Weak _ _ _); refine ⟨?_, ?_, Weak.go⟩; (omega)) | ((with_reducible show (_ ∧ _ ∧ _) ∧ _); refine ⟨⟨by kernel_rfl, by kernel_rfl, by rfl⟩, ?_⟩) | ((with_reducible show AV.pf _ = true ∧ _); refine pfA ?_) | (refine ⟨rfl, ?_, ?_, ?_⟩; exact okG; exact okG) | ((with_reducible show (_ ∨ _) ∧ _ ∧ retA _ _ _ _ _); refine ⟨?_, rfl, ?_⟩; (first | exact .inr rfl | exact .inl rfl)) | ((with_reducible show _ = _ ∧ _ = false ∧ _ = _); refine ⟨?_, rfl, rfl⟩; try (first | rfl | (conv => lhs; whnf))) | ((with_reducible show LeqD _ _); try (first | exact okN | (first | rfl | (conv => lhs; whnf))); done) | ((with_reducible show _ = _ ∧ (_ → _)); refine ⟨?_, ?_⟩; try (first | rfl | (conv => lhs; whnf))) | exact fun h => h | exact fun _ => rfl | refine ⟨rfl, ?_⟩ | (refine ⟨Nat.le_of_ble_eq_true rfl, ?_⟩) | (refine ⟨?_, ?_, ?_⟩; exact okS; exact okS) | (refine ⟨?_, ?_⟩; exact okS) | rw [wrapId (by omega) (by omega)] | fail)
    · rw [hA, all_no ‹_› (by rw [key]; simp only [cs, reduceCtorEq, Int.reduceEq, Int.reduceNe, Int.reduceLT, Int.reduceLE, Int.reduceBEq, Int.reduceBNe]; omega)]
    · exact hA.trans (all_yes ‹_› (by rw [key]; simp only [cs, reduceCtorEq, Int.reduceEq, Int.reduceNe, Int.reduceLT, Int.reduceLE, Int.reduceBEq, Int.reduceBNe]; omega))
    · exact hA.trans (all_yes ‹_› (by rw [key]; simp only [cs, reduceCtorEq, Int.reduceEq, Int.reduceNe, Int.reduceLT, Int.reduceLE, Int.reduceBEq, Int.reduceBNe] at *; omega))
    · rw [hA, all_end hs]
end Go.Proofs.YtepdiooaoegpfaaGreatDoor.Fx
end
section
/- Lists of names, files: over trees. Conditions: those in each statement. -/
namespace Go.Proofs.YtepdiooaoegpfaaGreatDoor.Fx
open Go Go.Proofs Go.Ev Go.RowKit
set_option maxRecDepth 100000
set_option maxHeartbeats 1600000
set_option linter.unusedSimpArgs false
set_option linter.unusedVariables false
theorem c_ref03_Has {l : List ByteArray} {s : ByteArray} (hl : l.length ≤ 1000000000) : XPure Tryz.prog 16 [eS l, .v (.string s)] (.v (.bool (hasS l s))) false := by
  refine XPure.body ⟨_, Tryz.func16, rfl, by kernel_rfl⟩ Tryz.func16 rfl (Nat.le_of_ble_eq_true (by rfl)) (pf_of1 rfl) fun env => ?_
  repeat' ((conv => whnf); (fail_if_success (with_reducible show ∃ _, _ ∧ _ ∧ Weak _ _ _)); first | ((with_reducible show guardA _ _ _ _ _ _ ∨ _); first | (refine .inr ?_; (conv => whnf); refine ⟨_, ?_, fun h => rfl, rfl, ?_⟩; ((conv => whnf); first | exact trivial | (refine ⟨?_, trivial⟩; exact okG))) | (refine .inr ?_; (conv => whnf); refine ⟨_, trivial, fun h => ⟨?_, ?_, ?_, rfl⟩, rfl, ?_⟩; (first | exact h | rfl); exact okG; exact okG) | refine .inl ?_) | refine cY ?_ | refine cN ?_ | refine gA ?_ | refine gB ?_ | refine gC ?_ | ((first | refine gsT (fun h => ?_) (fun h => ?_) | refine gsF (fun h => ?_) (fun h => ?_) | refine ⟨fun h => ?_, fun h => ?_⟩) <;> (have hs := h; try simp only [cs, reduceCtorEq, Int.reduceEq, Int.reduceNe, Int.reduceLT, Int.reduceLE, Int.reduceBEq, Int.reduceBNe] at hs)) | ((with_reducible show _ ∧ _ ∧ Weak _ _ _); refine ⟨?_, ?_, Weak.go⟩; (omega)) | ((with_reducible show (_ ∧ _ ∧ _) ∧ _); refine ⟨⟨by kernel_rfl, by kernel_rfl, by rfl⟩, ?_⟩) | ((with_reducible show AV.pf _ = true ∧ _); refine pfA ?_) | (refine ⟨rfl, ?_, ?_, ?_⟩; exact okG; exact okG) | ((with_reducible show (_ ∨ _) ∧ _ ∧ retA _ _ _ _ _); refine ⟨?_, rfl, ?_⟩; (first | exact .inr rfl | exact .inl rfl)) | ((with_reducible show _ = _ ∧ _ = false ∧ _ = _); refine ⟨?_, rfl, rfl⟩; try (first | rfl | (conv => lhs; whnf))) | ((with_reducible show LeqD _ _); try (first | exact okN | (first | rfl | (conv => lhs; whnf))); done) | ((with_reducible show _ = _ ∧ (_ → _)); refine ⟨?_, ?_⟩; try (first | rfl | (conv => lhs; whnf))) | exact fun h => h | exact fun _ => rfl | refine ⟨rfl, ?_⟩ | (refine ⟨Nat.le_of_ble_eq_true rfl, ?_⟩) | (refine ⟨?_, ?_, ?_⟩; exact okS; exact okS) | (refine ⟨?_, ?_⟩; exact okS) | rw [wrapId (by omega) (by omega)] | fail)
  refine XW.count l.length (fun i => [(9, i64 i)]) (fun i => hasS l s = (l.drop i).any fun x => beqS x s) Weak.go rfl ?_
  intro i hi hA
  refine codeA_sound _ _ _ ?_
  repeat' ((conv => whnf); (fail_if_success (with_reducible show ∃ _, _ ∧ _ ∧ Weak _ _ _)); first | ((with_reducible show guardA _ _ _ _ _ _ ∨ _); first | (refine .inr ?_; (conv => whnf); refine ⟨_, ?_, fun h => rfl, rfl, ?_⟩; ((conv => whnf); first | exact trivial | (refine ⟨?_, trivial⟩; exact okG))) | (refine .inr ?_; (conv => whnf); refine ⟨_, trivial, fun h => ⟨?_, ?_, ?_, rfl⟩, rfl, ?_⟩; (first | exact h | rfl); exact okG; exact okG) | refine .inl ?_) | refine cY ?_ | refine cN ?_ | refine gA ?_ | refine gB ?_ | refine gC ?_ | ((first | refine gsT (fun h => ?_) (fun h => ?_) | refine gsF (fun h => ?_) (fun h => ?_) | refine ⟨fun h => ?_, fun h => ?_⟩) <;> (have hs := h; try simp only [cs, reduceCtorEq, Int.reduceEq, Int.reduceNe, Int.reduceLT, Int.reduceLE, Int.reduceBEq, Int.reduceBNe] at hs)) | ((with_reducible show _ ∧ _ ∧ Weak _ _ _); refine ⟨?_, ?_, Weak.go⟩; (omega)) | ((with_reducible show (_ ∧ _ ∧ _) ∧ _); refine ⟨⟨by kernel_rfl, by kernel_rfl, by rfl⟩, ?_⟩) | ((with_reducible show AV.pf _ = true ∧ _); refine pfA ?_) | (refine ⟨rfl, ?_, ?_, ?_⟩; exact okG; exact okG) | ((with_reducible show (_ ∨ _) ∧ _ ∧ retA _ _ _ _ _); refine ⟨?_, rfl, ?_⟩; (first | exact .inr rfl | exact .inl rfl)) | ((with_reducible show _ = _ ∧ _ = false ∧ _ = _); refine ⟨?_, rfl, rfl⟩; try (first | rfl | (conv => lhs; whnf))) | ((with_reducible show LeqD _ _); try (first | exact okN | (first | rfl | (conv => lhs; whnf))); done) | ((with_reducible show _ = _ ∧ (_ → _)); refine ⟨?_, ?_⟩; try (first | rfl | (conv => lhs; whnf))) | exact fun h => h | exact fun _ => rfl | refine ⟨rfl, ?_⟩ | (refine ⟨Nat.le_of_ble_eq_true rfl, ?_⟩) | (refine ⟨?_, ?_, ?_⟩; exact okS; exact okS) | (refine ⟨?_, ?_⟩; exact okS) | rw [getD_mapI (ByteArray.empty) (by omega)] | rw [getD_map (ByteArray.empty) (by omega)] | rw [wrapId (by omega) (by omega)] | fail)
  all_goals first | rw [hA, any_yes .empty ‹_› h] | rw [hA, any_yes .empty ‹_› hs] | exact hA.trans (any_no .empty ‹_› h) | exact hA.trans (any_no .empty ‹_› hs) | rw [hA, any_end hs] | skip
theorem findN_eq {l : List ByteArray} {s : ByteArray} {i : Nat} (h : i < l.length) : findN (l.drop i) s i = if beqS s (l.getD i .empty) then (i : Int) else findN (l.drop (i + 1)) s (i + 1) := by
  rw [drop_getD .empty h]; rfl
theorem findN_end {l : List ByteArray} {s : ByteArray} {i : Nat} (h : ¬ i < l.length) : findN (l.drop i) s i = -1 := by
  rw [List.drop_eq_nil_of_le (by omega)]; rfl
theorem c_Index {l : List ByteArray} {s : ByteArray} (hl : l.length ≤ 1000000000) : XPure Tryz.prog 68 [eS l, .v (.string s)] (i64 (findN l s 0)) false := by
  refine XPure.body ⟨_, Tryz.func68, rfl, by kernel_rfl⟩ Tryz.func68 rfl (Nat.le_of_ble_eq_true (by rfl)) (pf_of1 rfl) fun env => ?_
  repeat' ((conv => whnf); (fail_if_success (with_reducible show ∃ _, _ ∧ _ ∧ Weak _ _ _)); first | ((with_reducible show guardA _ _ _ _ _ _ ∨ _); first | (refine .inr ?_; (conv => whnf); refine ⟨_, ?_, fun h => rfl, rfl, ?_⟩; ((conv => whnf); first | exact trivial | (refine ⟨?_, trivial⟩; exact okG))) | (refine .inr ?_; (conv => whnf); refine ⟨_, trivial, fun h => ⟨?_, ?_, ?_, rfl⟩, rfl, ?_⟩; (first | exact h | rfl); exact okG; exact okG) | refine .inl ?_) | refine cY ?_ | refine cN ?_ | refine gA ?_ | refine gB ?_ | refine gC ?_ | ((first | refine gsT (fun h => ?_) (fun h => ?_) | refine gsF (fun h => ?_) (fun h => ?_) | refine ⟨fun h => ?_, fun h => ?_⟩) <;> (have hs := h; try simp only [cs, reduceCtorEq, Int.reduceEq, Int.reduceNe, Int.reduceLT, Int.reduceLE, Int.reduceBEq, Int.reduceBNe] at hs)) | ((with_reducible show _ ∧ _ ∧ Weak _ _ _); refine ⟨?_, ?_, Weak.go⟩; (omega)) | ((with_reducible show (_ ∧ _ ∧ _) ∧ _); refine ⟨⟨by kernel_rfl, by kernel_rfl, by rfl⟩, ?_⟩) | ((with_reducible show AV.pf _ = true ∧ _); refine pfA ?_) | (refine ⟨rfl, ?_, ?_, ?_⟩; exact okG; exact okG) | ((with_reducible show (_ ∨ _) ∧ _ ∧ retA _ _ _ _ _); refine ⟨?_, rfl, ?_⟩; (first | exact .inr rfl | exact .inl rfl)) | ((with_reducible show _ = _ ∧ _ = false ∧ _ = _); refine ⟨?_, rfl, rfl⟩; try (first | rfl | (conv => lhs; whnf))) | ((with_reducible show LeqD _ _); try (first | exact okN | (first | rfl | (conv => lhs; whnf))); done) | ((with_reducible show _ = _ ∧ (_ → _)); refine ⟨?_, ?_⟩; try (first | rfl | (conv => lhs; whnf))) | exact fun h => h | exact fun _ => rfl | refine ⟨rfl, ?_⟩ | (refine ⟨Nat.le_of_ble_eq_true rfl, ?_⟩) | (refine ⟨?_, ?_, ?_⟩; exact okS; exact okS) | (refine ⟨?_, ?_⟩; exact okS) | rw [wrapId (by omega) (by omega)] | fail)
  refine XW.count l.length (fun i => [(8, i64 i)]) (fun i => findN l s 0 = findN (l.drop i) s i) Weak.go rfl ?_
  intro i hi hA
  refine codeA_sound _ _ _ ?_
  repeat' ((conv => whnf); (fail_if_success (with_reducible show ∃ _, _ ∧ _ ∧ Weak _ _ _)); first | ((with_reducible show guardA _ _ _ _ _ _ ∨ _); first | (refine .inr ?_; (conv => whnf); refine ⟨_, ?_, fun h => rfl, rfl, ?_⟩; ((conv => whnf); first | exact trivial | (refine ⟨?_, trivial⟩; exact okG))) | (refine .inr ?_; (conv => whnf); refine ⟨_, trivial, fun h => ⟨?_, ?_, ?_, rfl⟩, rfl, ?_⟩; (first | exact h | rfl); exact okG; exact okG) | refine .inl ?_) | refine cY ?_ | refine cN ?_ | refine gA ?_ | refine gB ?_ | refine gC ?_ | ((first | refine gsT (fun h => ?_) (fun h => ?_) | refine gsF (fun h => ?_) (fun h => ?_) | refine ⟨fun h => ?_, fun h => ?_⟩) <;> (have hs := h; try simp only [cs, reduceCtorEq, Int.reduceEq, Int.reduceNe, Int.reduceLT, Int.reduceLE, Int.reduceBEq, Int.reduceBNe] at hs)) | ((with_reducible show _ ∧ _ ∧ Weak _ _ _); refine ⟨?_, ?_, Weak.go⟩; (omega)) | ((with_reducible show (_ ∧ _ ∧ _) ∧ _); refine ⟨⟨by kernel_rfl, by kernel_rfl, by rfl⟩, ?_⟩) | ((with_reducible show AV.pf _ = true ∧ _); refine pfA ?_) | (refine ⟨rfl, ?_, ?_, ?_⟩; exact okG; exact okG) | ((with_reducible show (_ ∨ _) ∧ _ ∧ retA _ _ _ _ _); refine ⟨?_, rfl, ?_⟩; (first | exact .inr rfl | exact .inl rfl)) | ((with_reducible show _ = _ ∧ _ = false ∧ _ = _); refine ⟨?_, rfl, rfl⟩; try (first | rfl | (conv => lhs; whnf))) | ((with_reducible show LeqD _ _); try (first | exact okN | (first | rfl | (conv => lhs; whnf))); done) | ((with_reducible show _ = _ ∧ (_ → _)); refine ⟨?_, ?_⟩; try (first | rfl | (conv => lhs; whnf))) | exact fun h => h | exact fun _ => rfl | refine ⟨rfl, ?_⟩ | (refine ⟨Nat.le_of_ble_eq_true rfl, ?_⟩) | (refine ⟨?_, ?_, ?_⟩; exact okS; exact okS) | (refine ⟨?_, ?_⟩; exact okS) | rw [getD_mapI (ByteArray.empty) (by omega)] | rw [getD_map (ByteArray.empty) (by omega)] | rw [wrapId (by omega) (by omega)] | fail)
  · rw [hA, findN_eq ‹_›, if_pos (by rw [hs]; exact beqS_self)]
  · rw [hA, findN_eq ‹_›, if_neg (by simpa using h)]
  · rw [hA, findN_end hs]
theorem findN_has {l : List ByteArray} {s : ByteArray} : ∀ i : Nat, decide (findN l s i ≥ 0) = hasS l s := by
  induction l with
  | nil => intro i; rfl
  | cons x r ih =>
    intro i
    show decide ((if beqS s x then (i : Int) else findN r s (i + 1)) ≥ 0) = (beqS x s || hasS r s)
    rw [beqS_comm x s]
    cases beqS s x with
    | true => simp
    | false => simpa using ih (i + 1)
theorem c_Contains {l : List ByteArray} {s : ByteArray} (hl : l.length ≤ 1000000000) : XPure Tryz.prog 46 [eS l, .v (.string s)] (bln (hasS l s)) false := by
  refine XPure.body ⟨_, Tryz.func46, rfl, by kernel_rfl⟩ Tryz.func46 rfl (Nat.le_of_ble_eq_true (by rfl)) (pf_of1 rfl) fun env => ?_
  repeat' ((conv => whnf); (fail_if_success (with_reducible show ∃ _, _ ∧ _ ∧ Weak _ _ _)); first | ((with_reducible show guardA _ _ _ _ _ _ ∨ _); first | (refine .inr ?_; (conv => whnf); refine ⟨_, ?_, fun h => rfl, rfl, ?_⟩; ((conv => whnf); first | exact trivial | (refine ⟨?_, trivial⟩; exact okG))) | (refine .inr ?_; (conv => whnf); refine ⟨_, trivial, fun h => ⟨?_, ?_, ?_, rfl⟩, rfl, ?_⟩; (first | exact h | rfl); exact okG; exact okG) | refine .inl ?_) | refine cY ?_ | refine cN ?_ | refine gA ?_ | refine gB ?_ | refine gC ?_ | ((first | refine gsT (fun h => ?_) (fun h => ?_) | refine gsF (fun h => ?_) (fun h => ?_) | refine ⟨fun h => ?_, fun h => ?_⟩) <;> (have hs := h; try simp only [cs, reduceCtorEq, Int.reduceEq, Int.reduceNe, Int.reduceLT, Int.reduceLE, Int.reduceBEq, Int.reduceBNe] at hs)) | (refine .inl ⟨_, _, c_Index hl, ?_⟩) | ((with_reducible show _ ∧ _ ∧ Weak _ _ _); refine ⟨?_, ?_, Weak.go⟩; (omega)) | ((with_reducible show (_ ∧ _ ∧ _) ∧ _); refine ⟨⟨by kernel_rfl, by kernel_rfl, by rfl⟩, ?_⟩) | ((with_reducible show AV.pf _ = true ∧ _); refine pfA ?_) | (refine ⟨rfl, ?_, ?_, ?_⟩; exact okG; exact okG) | ((with_reducible show (_ ∨ _) ∧ _ ∧ retA _ _ _ _ _); refine ⟨?_, rfl, ?_⟩; (first | exact .inr rfl | exact .inl rfl)) | ((with_reducible show _ = _ ∧ _ = false ∧ _ = _); refine ⟨?_, rfl, rfl⟩; try (first | rfl | (conv => lhs; whnf))) | ((with_reducible show LeqD _ _); try (first | exact okN | (first | rfl | (conv => lhs; whnf))); done) | ((with_reducible show _ = _ ∧ (_ → _)); refine ⟨?_, ?_⟩; try (first | rfl | (conv => lhs; whnf))) | exact fun h => h | exact fun _ => rfl | refine ⟨rfl, ?_⟩ | (refine ⟨Nat.le_of_ble_eq_true rfl, ?_⟩) | (refine ⟨?_, ?_, ?_⟩; exact okS; exact okS) | (refine ⟨?_, ?_⟩; exact okS) | rw [wrapId (by omega) (by omega)] | fail)
  rw [findN_has]
theorem c_right_1 {s : ByteArray} : XPure Tryz.prog 82 [str s] (bln (decide ((s.size : Int) > 65536))) false := by
  refine XPure.body ⟨_, Tryz.func82, rfl, by kernel_rfl⟩ Tryz.func82 rfl (Nat.le_of_ble_eq_true (by rfl)) (pf_of1 rfl) fun env => ?_
  repeat' ((conv => whnf); (fail_if_success (with_reducible show ∃ _, _ ∧ _ ∧ Weak _ _ _)); first | ((with_reducible show guardA _ _ _ _ _ _ ∨ _); first | (refine .inr ?_; (conv => whnf); refine ⟨_, ?_, fun h => rfl, rfl, ?_⟩; ((conv => whnf); first | exact trivial | (refine ⟨?_, trivial⟩; exact okG))) | (refine .inr ?_; (conv => whnf); refine ⟨_, trivial, fun h => ⟨?_, ?_, ?_, rfl⟩, rfl, ?_⟩; (first | exact h | rfl); exact okG; exact okG) | refine .inl ?_) | refine cY ?_ | refine cN ?_ | refine gA ?_ | refine gB ?_ | refine gC ?_ | ((first | refine gsT (fun h => ?_) (fun h => ?_) | refine gsF (fun h => ?_) (fun h => ?_) | refine ⟨fun h => ?_, fun h => ?_⟩) <;> (have hs := h; try simp only [cs, reduceCtorEq, Int.reduceEq, Int.reduceNe, Int.reduceLT, Int.reduceLE, Int.reduceBEq, Int.reduceBNe] at hs)) | ((with_reducible show _ ∧ _ ∧ Weak _ _ _); refine ⟨?_, ?_, Weak.go⟩; (omega)) | ((with_reducible show (_ ∧ _ ∧ _) ∧ _); refine ⟨⟨by kernel_rfl, by kernel_rfl, by rfl⟩, ?_⟩) | ((with_reducible show AV.pf _ = true ∧ _); refine pfA ?_) | (refine ⟨rfl, ?_, ?_, ?_⟩; exact okG; exact okG) | ((with_reducible show (_ ∨ _) ∧ _ ∧ retA _ _ _ _ _); refine ⟨?_, rfl, ?_⟩; (first | exact .inr rfl | exact .inl rfl)) | ((with_reducible show _ = _ ∧ _ = false ∧ _ = _); refine ⟨?_, rfl, rfl⟩; try (first | rfl | (conv => lhs; whnf))) | ((with_reducible show LeqD _ _); try (first | exact okN | (first | rfl | (conv => lhs; whnf))); done) | ((with_reducible show _ = _ ∧ (_ → _)); refine ⟨?_, ?_⟩; try (first | rfl | (conv => lhs; whnf))) | exact fun h => h | exact fun _ => rfl | refine ⟨rfl, ?_⟩ | (refine ⟨Nat.le_of_ble_eq_true rfl, ?_⟩) | (refine ⟨?_, ?_, ?_⟩; exact okS; exact okS) | (refine ⟨?_, ?_⟩; exact okS) | rw [wrapId (by omega) (by omega)] | fail)
theorem c_place_1 {f : File} {s : ByteArray} : XPure Tryz.prog 97 [eF f, str s] (i64 (if ltS f.name s then -1 else if ltS s f.name then 1 else 0)) false := by
  refine XPure.body ⟨_, Tryz.func97, rfl, by kernel_rfl⟩ Tryz.func97 rfl (Nat.le_of_ble_eq_true (by rfl)) (pf_of1 rfl) fun env => ?_
  repeat' ((conv => whnf); (fail_if_success (with_reducible show ∃ _, _ ∧ _ ∧ Weak _ _ _)); first | ((with_reducible show guardA _ _ _ _ _ _ ∨ _); first | (refine .inr ?_; (conv => whnf); refine ⟨_, ?_, fun h => rfl, rfl, ?_⟩; ((conv => whnf); first | exact trivial | (refine ⟨?_, trivial⟩; exact okG))) | (refine .inr ?_; (conv => whnf); refine ⟨_, trivial, fun h => ⟨?_, ?_, ?_, rfl⟩, rfl, ?_⟩; (first | exact h | rfl); exact okG; exact okG) | refine .inl ?_) | refine cY ?_ | refine cN ?_ | refine gA ?_ | refine gB ?_ | refine gC ?_ | ((first | refine gsT (fun h => ?_) (fun h => ?_) | refine gsF (fun h => ?_) (fun h => ?_) | refine ⟨fun h => ?_, fun h => ?_⟩) <;> (have hs := h; try simp only [cs, reduceCtorEq, Int.reduceEq, Int.reduceNe, Int.reduceLT, Int.reduceLE, Int.reduceBEq, Int.reduceBNe] at hs)) | (refine .inl ⟨_, _, c_Compare, ?_⟩) | ((with_reducible show _ ∧ _ ∧ Weak _ _ _); refine ⟨?_, ?_, Weak.go⟩; (omega)) | ((with_reducible show (_ ∧ _ ∧ _) ∧ _); refine ⟨⟨by kernel_rfl, by kernel_rfl, by rfl⟩, ?_⟩) | ((with_reducible show AV.pf _ = true ∧ _); refine pfA ?_) | (refine ⟨rfl, ?_, ?_, ?_⟩; exact okG; exact okG) | ((with_reducible show (_ ∨ _) ∧ _ ∧ retA _ _ _ _ _); refine ⟨?_, rfl, ?_⟩; (first | exact .inr rfl | exact .inl rfl)) | ((with_reducible show _ = _ ∧ _ = false ∧ _ = _); refine ⟨?_, rfl, rfl⟩; try (first | rfl | (conv => lhs; whnf))) | ((with_reducible show LeqD _ _); try (first | exact okN | (first | rfl | (conv => lhs; whnf))); done) | ((with_reducible show _ = _ ∧ (_ → _)); refine ⟨?_, ?_⟩; try (first | rfl | (conv => lhs; whnf))) | exact fun h => h | exact fun _ => rfl | refine ⟨rfl, ?_⟩ | (refine ⟨Nat.le_of_ble_eq_true rfl, ?_⟩) | (refine ⟨?_, ?_, ?_⟩; exact okS; exact okS) | (refine ⟨?_, ?_⟩; exact okS) | rw [wrapId (by omega) (by omega)] | fail)
  rw [cmp_ltS]
end Go.Proofs.YtepdiooaoegpfaaGreatDoor.Fx
end
section
/- Disks: what is right, where a file stands. Conditions: those in each statement. -/
namespace Go.Proofs.YtepdiooaoegpfaaGreatDoor.Fx
open Go Go.Proofs Go.Ev Go.RowKit
set_option maxRecDepth 100000
set_option maxHeartbeats 1600000
set_option linter.unusedSimpArgs false
set_option linter.unusedVariables false
def fileOk (clock : Int) (f : File) : Bool := isName f.name && decide (f.text.size ≤ 4096) && decide (0 ≤ f.stamp) && decide (f.stamp ≤ clock)
def lastF (l : List File) : Nat → File
  | 0 => File.none
  | i + 1 => l.getD i File.none
def before (l : List File) (i : Nat) : Option ByteArray := match i with
  | 0 => none
  | i + 1 => some (l.getD i File.none).name
def chkF (clock : Int) (prev : Option ByteArray) : List File → Bool
  | [] => true
  | f :: r => fileOk clock f && (match prev with | none => true | some p => ltS p f.name) && chkF clock (some f.name) r
def okD (clock : Int) (l : List File) : Bool := decide (0 ≤ clock) && decide (clock ≤ 1099511627776) && decide (l.length ≤ 256) && chkF clock none l
def errIf (b : Bool) (e : Int) : Int := bif b then 0 else e
theorem chkF_step {clock : Int} {l : List File} {i : Nat} (h : i < l.length) : chkF clock (before l i) (l.drop i) = (fileOk clock (l.getD i File.none) && (match before l i with | none => true | some p => ltS p (l.getD i File.none).name) && chkF clock (before l (i + 1)) (l.drop (i + 1))) := by
  rw [drop_getD File.none h]; rfl
theorem chkF_end {clock : Int} {l : List File} {i : Nat} (h : ¬ i < l.length) {p : Option ByteArray} : chkF clock p (l.drop i) = true := by
  rw [List.drop_eq_nil_of_le (by omega)]; rfl
theorem okD_bad {clock : Int} {l : List File} (h : clock < 0 ∨ 1099511627776 < clock ∨ 256 < l.length) : okD clock l = false := by
  simp only [okD, Bool.and_eq_false_iff, decide_eq_false_iff_not]; omega
theorem okD_good {clock : Int} {l : List File} (h : 0 ≤ clock ∧ clock ≤ 1099511627776 ∧ l.length ≤ 256) : okD clock l = chkF clock none l := by
  have : decide (0 ≤ clock) = true ∧ decide (clock ≤ 1099511627776) = true ∧ decide (l.length ≤ 256) = true := ⟨decide_eq_true h.1, decide_eq_true h.2.1, decide_eq_true h.2.2⟩
  simp [okD, this]
theorem fileOk_iff {clock : Int} {f : File} : fileOk clock f = true ↔ isName f.name = true ∧ f.text.size ≤ 4096 ∧ 0 ≤ f.stamp ∧ f.stamp ≤ clock := by
  simp [fileOk, and_assoc]
theorem fileOk_no {clock : Int} {f : File} : fileOk clock f = false ↔ isName f.name = false ∨ 4096 < f.text.size ∨ f.stamp < 0 ∨ clock < f.stamp := by
  rw [← Bool.not_eq_true, fileOk_iff]
  cases isName f.name <;> simp <;> omega
theorem ltS_not {a b : ByteArray} : ltS a b = false ↔ ltS b a = true ∨ b = a := by
  constructor
  · intro h
    cases h' : ltS b a with
    | true => exact .inl rfl
    | false => exact .inr (ltS_total h' h)
  · rintro (h | rfl)
    · exact ltS_asymm h
    · exact ltS_irrefl _
theorem chk_bad {clock : Int} {l : List File} {i : Nat} (hi : i < l.length) (h : isName (l.getD i File.none).name = false ∨ 4096 < (l.getD i File.none).text.size ∨ (l.getD i File.none).stamp < 0 ∨ clock < (l.getD i File.none).stamp ∨ (0 < i ∧ ltS (lastF l i).name (l.getD i File.none).name = false)) : chkF clock (before l i) (l.drop i) = false := by
  rw [chkF_step hi]
  have : fileOk clock (l.getD i File.none) = false ∨ (0 < i ∧ ltS (lastF l i).name (l.getD i File.none).name = false) := by
    rw [fileOk_no]
    rcases h with h | h | h | h | h
    · exact .inl (.inl h)
    · exact .inl (.inr (.inl h))
    · exact .inl (.inr (.inr (.inl h)))
    · exact .inl (.inr (.inr (.inr h)))
    · exact .inr h
  rcases this with h | ⟨h0, h⟩
  · rw [h]; rfl
  · cases i with
    | zero => omega
    | succ i => simp only [before, lastF] at h ⊢; rw [h, Bool.and_false]; rfl
theorem chk_ok {clock : Int} {l : List File} {i : Nat} (hi : i < l.length) (h1 : isName (l.getD i File.none).name = true) (h2 : (l.getD i File.none).text.size ≤ 4096) (h3 : 0 ≤ (l.getD i File.none).stamp) (h4 : (l.getD i File.none).stamp ≤ clock) (h : i = 0 ∨ ltS (lastF l i).name (l.getD i File.none).name = true) : chkF clock (before l i) (l.drop i) = chkF clock (before l (i + 1)) (l.drop (i + 1)) := by
  rw [chkF_step hi, fileOk_iff.2 ⟨h1, h2, h3, h4⟩]
  cases i with
  | zero => rfl
  | succ i =>
    rcases h with h | h
    · omega
    · simp only [before, lastF] at h ⊢; rw [h]; rfl
theorem c_disk_Check {clock : Int} {l : List File} : XPure Tryz.prog 26 [eD clock l] (i64 (errIf (okD clock l) 4)) false := by
  refine XPure.body ⟨_, Tryz.func26, rfl, by kernel_rfl⟩ Tryz.func26 rfl (Nat.le_of_ble_eq_true (by rfl)) (pf_of1 rfl) fun env => ?_
  repeat' ((conv => whnf); (fail_if_success (with_reducible show ∃ _, _ ∧ _ ∧ Weak _ _ _)); first | ((with_reducible show guardA _ _ _ _ _ _ ∨ _); first | (refine .inr ?_; (conv => whnf); refine ⟨_, ?_, fun h => rfl, rfl, ?_⟩; ((conv => whnf); first | exact trivial | (refine ⟨?_, trivial⟩; exact okG))) | (refine .inr ?_; (conv => whnf); refine ⟨_, trivial, fun h => ⟨?_, ?_, ?_, rfl⟩, rfl, ?_⟩; (first | exact h | rfl); exact okG; exact okG) | refine .inl ?_) | refine cY ?_ | refine cN ?_ | refine gA ?_ | refine gB ?_ | refine gC ?_ | ((first | refine gsT (fun h => ?_) (fun h => ?_) | refine gsF (fun h => ?_) (fun h => ?_) | refine ⟨fun h => ?_, fun h => ?_⟩) <;> (have hs := h; try simp only [cs, reduceCtorEq, Int.reduceEq, Int.reduceNe, Int.reduceLT, Int.reduceLE, Int.reduceBEq, Int.reduceBNe] at hs)) | ((with_reducible show _ ∧ _ ∧ Weak _ _ _); refine ⟨?_, ?_, Weak.go⟩; (omega)) | ((with_reducible show (_ ∧ _ ∧ _) ∧ _); refine ⟨⟨by kernel_rfl, by kernel_rfl, by rfl⟩, ?_⟩) | ((with_reducible show AV.pf _ = true ∧ _); refine pfA ?_) | (refine ⟨rfl, ?_, ?_, ?_⟩; exact okG; exact okG) | ((with_reducible show (_ ∨ _) ∧ _ ∧ retA _ _ _ _ _); refine ⟨?_, rfl, ?_⟩; (first | exact .inr rfl | exact .inl rfl)) | ((with_reducible show _ = _ ∧ _ = false ∧ _ = _); refine ⟨?_, rfl, rfl⟩; try (first | rfl | (conv => lhs; whnf))) | ((with_reducible show LeqD _ _); try (first | exact okN | (first | rfl | (conv => lhs; whnf))); done) | ((with_reducible show _ = _ ∧ (_ → _)); refine ⟨?_, ?_⟩; try (first | rfl | (conv => lhs; whnf))) | exact fun h => h | exact fun _ => rfl | refine ⟨rfl, ?_⟩ | (refine ⟨Nat.le_of_ble_eq_true rfl, ?_⟩) | (refine ⟨?_, ?_, ?_⟩; exact okS; exact okS) | (refine ⟨?_, ?_⟩; exact okS) | rw [wrapId (by omega) (by omega)] | fail)
  rotate_left
  · refine XW.countL l.length [1, 3, 22, 23] (fun i => [(24, i64 i)]) (fun _ => []) (fun i => [.cells [i64 clock, eFs l] [], .cells (eF (lastF l i)).leaves []]) (fun i => okD clock l = chkF clock (before l i) (l.drop i)) Weak.go (okD_good (by omega)) ?_
    intro i hi hA
    refine codeS ?_
    repeat' ((conv => whnf); (fail_if_success (with_reducible show ∃ _, _ ∧ _ ∧ Weak _ _ _)); first | ((with_reducible show guardA _ _ _ _ _ _ ∨ _); first | (refine .inr ?_; (conv => whnf); refine ⟨_, ?_, fun h => rfl, rfl, ?_⟩; ((conv => whnf); first | exact trivial | (refine ⟨?_, trivial⟩; exact okG))) | (refine .inr ?_; (conv => whnf); refine ⟨_, trivial, fun h => ⟨?_, ?_, ?_, rfl⟩, rfl, ?_⟩; (first | exact h | rfl); exact okG; exact okG) | refine .inl ?_) | refine cY ?_ | refine cN ?_ | refine gA ?_ | refine gB ?_ | refine gC ?_ | ((first | refine gsT (fun h => ?_) (fun h => ?_) | refine gsF (fun h => ?_) (fun h => ?_) | refine ⟨fun h => ?_, fun h => ?_⟩) <;> (have hs := h; try simp only [cs, reduceCtorEq, Int.reduceEq, Int.reduceNe, Int.reduceLT, Int.reduceLE, Int.reduceBEq, Int.reduceBNe] at hs)) | (refine .inl ⟨_, _, c_disk_named, ?_⟩) | ((with_reducible show _ ∧ _ ∧ Weak _ _ _); refine ⟨?_, ?_, Weak.go⟩; (omega)) | ((with_reducible show (_ ∧ _ ∧ _) ∧ _); refine ⟨⟨by kernel_rfl, by kernel_rfl, by rfl⟩, ?_⟩) | ((with_reducible show AV.pf _ = true ∧ _); refine pfA ?_) | (refine ⟨rfl, ?_, ?_, ?_⟩; exact okG; exact okG) | ((with_reducible show (_ ∨ _) ∧ _ ∧ retA _ _ _ _ _); refine ⟨?_, rfl, ?_⟩; (first | exact .inr rfl | exact .inl rfl)) | ((with_reducible show _ = _ ∧ _ = false ∧ _ = _); refine ⟨?_, rfl, rfl⟩; try (first | rfl | (conv => lhs; whnf))) | ((with_reducible show LeqD _ _); try (first | exact okN | (first | rfl | (conv => lhs; whnf))); done) | ((with_reducible show _ = _ ∧ (_ → _)); refine ⟨?_, ?_⟩; try (first | rfl | (conv => lhs; whnf))) | exact fun h => h | exact fun _ => rfl | refine ⟨rfl, ?_⟩ | (refine ⟨Nat.le_of_ble_eq_true rfl, ?_⟩) | (refine ⟨?_, ?_, ?_⟩; exact okS; exact okS) | (refine ⟨?_, ?_⟩; exact okS) | rw [getD_mapI (File.none) (by omega)] | rw [getD_map (File.none) (by omega)] | rw [wrapId (by omega) (by omega)] | fail)
    all_goals try (have hi' : i < l.length := by assumption)
    all_goals try simp only [cs, reduceCtorEq, Int.reduceEq, Int.reduceNe, Int.reduceLT, Int.reduceLE, Int.reduceBEq, Int.reduceBNe, Bool.or_false, Bool.and_true, true_and, or_false, and_true, not_and, not_or, reduceCtorEq] at *
    all_goals first | (rw [hA, chk_bad hi' (by rw [ltS_not]; grind)]; rfl) | (rw [hA, chk_ok hi' (by grind) (by grind) (by grind) (by grind) (by rw [← Bool.not_eq_false, ltS_not]; grind)]) | (rw [hA, chkF_end (by omega)]; rfl) | skip
  all_goals rw [okD_bad (by omega)]; rfl
theorem c_ref02_Name {s : ByteArray} (hz : s.size ≤ 140737488355328) : XPure Tryz.prog 34 [.v (.string s)] (.v (.bool (isName s))) false := by
  refine XPure.body ⟨_, Tryz.func34, rfl, by kernel_rfl⟩ Tryz.func34 rfl (Nat.le_of_ble_eq_true (by rfl)) (pf_of1 rfl) fun env => ?_
  repeat' ((conv => whnf); (fail_if_success (with_reducible show ∃ _, _ ∧ _ ∧ Weak _ _ _)); first | ((with_reducible show guardA _ _ _ _ _ _ ∨ _); first | (refine .inr ?_; (conv => whnf); refine ⟨_, ?_, fun h => rfl, rfl, ?_⟩; ((conv => whnf); first | exact trivial | (refine ⟨?_, trivial⟩; exact okG))) | (refine .inr ?_; (conv => whnf); refine ⟨_, trivial, fun h => ⟨?_, ?_, ?_, rfl⟩, rfl, ?_⟩; (first | exact h | rfl); exact okG; exact okG) | refine .inl ?_) | refine cY ?_ | refine cN ?_ | refine gA ?_ | refine gB ?_ | refine gC ?_ | ((first | refine gsT (fun h => ?_) (fun h => ?_) | refine gsF (fun h => ?_) (fun h => ?_) | refine ⟨fun h => ?_, fun h => ?_⟩) <;> (have hs := h; try simp only [cs, reduceCtorEq, Int.reduceEq, Int.reduceNe, Int.reduceLT, Int.reduceLE, Int.reduceBEq, Int.reduceBNe] at hs)) | ((with_reducible show _ ∧ _ ∧ Weak _ _ _); refine ⟨?_, ?_, Weak.go⟩; (omega)) | ((with_reducible show (_ ∧ _ ∧ _) ∧ _); refine ⟨⟨by kernel_rfl, by kernel_rfl, by rfl⟩, ?_⟩) | ((with_reducible show AV.pf _ = true ∧ _); refine pfA ?_) | (refine ⟨rfl, ?_, ?_, ?_⟩; exact okG; exact okG) | ((with_reducible show (_ ∨ _) ∧ _ ∧ retA _ _ _ _ _); refine ⟨?_, rfl, ?_⟩; (first | exact .inr rfl | exact .inl rfl)) | ((with_reducible show _ = _ ∧ _ = false ∧ _ = _); refine ⟨?_, rfl, rfl⟩; try (first | rfl | (conv => lhs; whnf))) | ((with_reducible show LeqD _ _); try (first | exact okN | (first | rfl | (conv => lhs; whnf))); done) | ((with_reducible show _ = _ ∧ (_ → _)); refine ⟨?_, ?_⟩; try (first | rfl | (conv => lhs; whnf))) | exact fun h => h | exact fun _ => rfl | refine ⟨rfl, ?_⟩ | (refine ⟨Nat.le_of_ble_eq_true rfl, ?_⟩) | (refine ⟨?_, ?_, ?_⟩; exact okS; exact okS) | (refine ⟨?_, ?_⟩; exact okS) | rw [wrapId (by omega) (by omega)] | fail)
  refine XW.countL s.size [0] (fun i => [(3, i64 i)]) (fun _ => []) (fun _ => []) (fun i => (s.data.toList.all fun c => isLetter c.toNat) = (s.data.toList.drop i).all fun c => isLetter c.toNat) Weak.go rfl ?_
  intro i hi hA
  refine codeS ?_
  repeat' ((conv => whnf); (fail_if_success (with_reducible show ∃ _, _ ∧ _ ∧ Weak _ _ _)); first | ((with_reducible show guardA _ _ _ _ _ _ ∨ _); first | (refine .inr ?_; (conv => whnf); refine ⟨_, ?_, fun h => rfl, rfl, ?_⟩; ((conv => whnf); first | exact trivial | (refine ⟨?_, trivial⟩; exact okG))) | (refine .inr ?_; (conv => whnf); refine ⟨_, trivial, fun h => ⟨?_, ?_, ?_, rfl⟩, rfl, ?_⟩; (first | exact h | rfl); exact okG; exact okG) | refine .inl ?_) | refine cY ?_ | refine cN ?_ | refine gA ?_ | refine gB ?_ | refine gC ?_ | ((first | refine gsT (fun h => ?_) (fun h => ?_) | refine gsF (fun h => ?_) (fun h => ?_) | refine ⟨fun h => ?_, fun h => ?_⟩) <;> (have hs := h; try simp only [cs, reduceCtorEq, Int.reduceEq, Int.reduceNe, Int.reduceLT, Int.reduceLE, Int.reduceBEq, Int.reduceBNe] at hs)) | ((with_reducible show _ ∧ _ ∧ Weak _ _ _); refine ⟨?_, ?_, Weak.go⟩; (omega)) | ((with_reducible show (_ ∧ _ ∧ _) ∧ _); refine ⟨⟨by kernel_rfl, by kernel_rfl, by rfl⟩, ?_⟩) | ((with_reducible show AV.pf _ = true ∧ _); refine pfA ?_) | (refine ⟨rfl, ?_, ?_, ?_⟩; exact okG; exact okG) | ((with_reducible show (_ ∨ _) ∧ _ ∧ retA _ _ _ _ _); refine ⟨?_, rfl, ?_⟩; (first | exact .inr rfl | exact .inl rfl)) | ((with_reducible show _ = _ ∧ _ = false ∧ _ = _); refine ⟨?_, rfl, rfl⟩; try (first | rfl | (conv => lhs; whnf))) | ((with_reducible show LeqD _ _); try (first | exact okN | (first | rfl | (conv => lhs; whnf))); done) | ((with_reducible show _ = _ ∧ (_ → _)); refine ⟨?_, ?_⟩; try (first | rfl | (conv => lhs; whnf))) | exact fun h => h | exact fun _ => rfl | refine ⟨rfl, ?_⟩ | (refine ⟨Nat.le_of_ble_eq_true rfl, ?_⟩) | (refine ⟨?_, ?_, ?_⟩; exact okS; exact okS) | (refine ⟨?_, ?_⟩; exact okS) | rw [wrapId (by omega) (by omega)] | fail)
  · have h1 : isLetter (byteAt s i).toNat = false := by simp only [isLetter, cs, reduceCtorEq, Int.reduceEq, Int.reduceNe, Int.reduceLT, Int.reduceLE, Int.reduceBEq, Int.reduceBNe]; omega
    have : isName s = false := by unfold isName; rw [hA, all_no ‹_› h1, Bool.and_false]
    rw [this]
  · exact hA.trans (all_yes ‹_› (by simp only [isLetter, cs, reduceCtorEq, Int.reduceEq, Int.reduceNe, Int.reduceLT, Int.reduceLE, Int.reduceBEq, Int.reduceBNe]; omega))
  · have : isName s = (decide (0 < s.size) && decide (s.size ≤ 64)) := by unfold isName; rw [hA, all_end hs, Bool.and_true]
    rw [this]
    exact congrArg (fun b => AV.v (Value.bool b)) (by rw [show (decide ((s.size : Int) > 0)) = decide (0 < s.size) from decide_eq_decide.2 (by omega), show (decide ((s.size : Int) ≤ 64)) = decide (s.size ≤ 64) from decide_eq_decide.2 (by omega)]; cases decide (0 < s.size) <;> rfl)
end Go.Proofs.YtepdiooaoegpfaaGreatDoor.Fx
end
section
/- Where files stand; scripted failures. Conditions: those in each statement. -/
namespace Go.Proofs.YtepdiooaoegpfaaGreatDoor.Fx
open Go Go.Proofs Go.Ev Go.RowKit
set_option maxRecDepth 100000
set_option maxHeartbeats 1600000
set_option linter.unusedSimpArgs false
set_option linter.unusedVariables false
def findF (l : List File) (s : ByteArray) : Option File := match l with
  | [] => none
  | f :: r => if beqS f.name s then some f else findF r s
def posF (l : List File) (s : ByteArray) : Nat := match l with
  | [] => 0
  | f :: r => if ltS f.name s then posF r s + 1 else 0
def thereF (l : List File) (s : ByteArray) : Bool := match l[posF l s]? with
  | some f => beqS f.name s
  | none => false
theorem posF_eq : ∀ {l : List File} {s : ByteArray} {i : Nat}, i ≤ l.length → (∀ k, k < i → ltS (l.getD k File.none).name s = true) → (i < l.length → ltS (l.getD i File.none).name s = false) → posF l s = i
  | [], _, i, h, _, _ => by simp at h; simp [posF, h]
  | f :: r, s, 0, _, _, h2 => by
    have := h2 (by simp)
    simp at this
    simp [posF, this]
  | f :: r, s, i + 1, h, h1, h2 => by
    have := h1 0 (by omega)
    simp at this
    simp only [posF, this, if_true]
    rw [posF_eq (i := i) (by simpa using h) (fun k hk => by simpa using h1 (k + 1) (by omega)) (fun hk => by simpa using h2 (by simpa using hk))]
theorem sorted_of {clock : Int} : ∀ {l : List File} {p : Option ByteArray}, chkF clock p l = true → (∀ q, p = some q → ∀ f ∈ l, ltS q f.name = true) ∧ l.Pairwise fun a b => ltS a.name b.name = true
  | [], _, _ => ⟨fun _ _ _ h => by simp at h, .nil⟩
  | f :: r, p, h => by
    simp only [chkF, Bool.and_eq_true] at h
    obtain ⟨ih1, ih2⟩ := sorted_of h.2
    refine ⟨?_, List.pairwise_cons.2 ⟨fun b hb => ih1 _ rfl b hb, ih2⟩⟩
    rintro q rfl g hg
    have h0 : ltS q f.name = true := h.1.2
    rcases List.mem_cons.1 hg with rfl | hg
    · exact h0
    · exact ltS_trans h0 (ih1 _ rfl g hg)
theorem okD_sorted {clock : Int} {l : List File} (h : okD clock l = true) : l.length ≤ 256 ∧ l.Pairwise fun a b => ltS a.name b.name = true := by
  simp only [okD, Bool.and_eq_true, decide_eq_true_eq] at h
  exact ⟨h.1.2, (sorted_of h.2).2⟩
theorem halfW {i j : Nat} (h : i + j < 4611686018427387904) : IntKind.i64.wrap ((IntKind.u64.wrap ((i : Int) + (j : Int))).fdiv (2 ^ Int.toNat 1)) = (((i + j) / 2 : Nat) : Int) := by
  have e : IntKind.u64.wrap ((i : Int) + (j : Int)) = ((i + j : Nat) : Int) := by
    simp only [IntKind.wrap, IntKind.bits, IntKind.signed]; simp; omega
  rw [e]
  have e2 : ((i + j : Nat) : Int).fdiv (2 ^ Int.toNat 1) = (((i + j) / 2 : Nat) : Int) := by
    show ((i + j : Nat) : Int).fdiv ((2 : Nat) : Int) = _
    rw [Int.ofNat_fdiv]
  rw [e2, wrapId (by omega) (by omega)]
theorem halfW2 {i j : Nat} (h : i + j < 4611686018427387904) : IntKind.i64.wrap ((IntKind.u64.wrap (IntKind.i64.wrap ((i : Int) + (j : Int)))).fdiv (2 ^ Int.toNat 1)) = (((i + j) / 2 : Nat) : Int) := by
  rw [show IntKind.i64.wrap ((i : Int) + (j : Int)) = (i : Int) + (j : Int) from wrapId (by omega) (by omega)]; exact halfW h
theorem cmp3_lt {a b : Bool} : decide ((if a = true then (-1 : Int) else if b = true then 1 else 0) < 0) = a := by cases a <;> cases b <;> rfl
theorem pw_at {l : List File} (hp : l.Pairwise fun a b => ltS a.name b.name = true) {a b : Nat} (h : a < b) (hb : b < l.length) : ltS (l.getD a File.none).name (l.getD b File.none).name = true := by
  have := List.pairwise_iff_getElem.1 hp a b (by omega) hb h
  simpa [List.getD_eq_getElem?_getD, hb, (by omega : a < l.length)] using this
theorem thereF_eq {l : List File} {s : ByteArray} {i : Nat} (h : posF l s = i) (hi : i < l.length) : thereF l s = beqS (l.getD i File.none).name s := by
  unfold thereF; rw [h, List.getElem?_eq_getElem hi]; simp [List.getD_eq_getElem?_getD, hi]
theorem thereF_end {l : List File} {s : ByteArray} {i : Nat} (h : posF l s = i) (hi : ¬ i < l.length) : thereF l s = false := by
  unfold thereF; rw [h, List.getElem?_eq_none (by omega)]
theorem cmp3_eq {a s : ByteArray} : ((if ltS a s = true then (-1 : Int) else if ltS s a = true then 1 else 0) == 0) = beqS a s := by
  cases h : ltS a s with
  | true =>
    have : beqS a s = false := beqS_no.2 fun e => by subst e; rw [ltS_irrefl] at h; cases h
    rw [this]; rfl
  | false =>
    cases k : ltS s a with
    | true =>
      have : beqS a s = false := beqS_no.2 fun e => by subst e; rw [ltS_irrefl] at k; cases k
      rw [this]; rfl
    | false => rw [beqS_iff.2 (ltS_total h k)]; rfl
theorem c_BinarySearch {l : List File} {s : ByteArray} (hl : l.length ≤ 256) (hp : l.Pairwise fun a b => ltS a.name b.name = true) : XPure Tryz.prog 96 [eFs l, str s, .fn (.func 97) [] []] (.tup [i64 (posF l s), bln (thereF l s)]) false := by
  refine XPure.body ⟨_, Tryz.func96, rfl, by kernel_rfl⟩ Tryz.func96 rfl (Nat.le_of_ble_eq_true (by rfl)) (pf_of1 rfl) fun env => ?_
  repeat' ((conv => whnf); (fail_if_success (with_reducible show ∃ _, _ ∧ _ ∧ Weak _ _ _)); first | ((with_reducible show guardA _ _ _ _ _ _ ∨ _); first | (refine .inr ?_; (conv => whnf); refine ⟨_, ?_, fun h => rfl, rfl, ?_⟩; ((conv => whnf); first | exact trivial | (refine ⟨?_, trivial⟩; exact okG))) | (refine .inr ?_; (conv => whnf); refine ⟨_, trivial, fun h => ⟨?_, ?_, ?_, rfl⟩, rfl, ?_⟩; (first | exact h | rfl); exact okG; exact okG) | refine .inl ?_) | refine cY ?_ | refine cN ?_ | refine gA ?_ | refine gB ?_ | refine gC ?_ | ((first | refine gsT (fun h => ?_) (fun h => ?_) | refine gsF (fun h => ?_) (fun h => ?_) | refine ⟨fun h => ?_, fun h => ?_⟩) <;> (have hs := h; try simp only [cs, reduceCtorEq, Int.reduceEq, Int.reduceNe, Int.reduceLT, Int.reduceLE, Int.reduceBEq, Int.reduceBNe] at hs)) | ((with_reducible show _ ∧ _ ∧ Weak _ _ _); refine ⟨?_, ?_, Weak.go⟩; (omega)) | ((with_reducible show (_ ∧ _ ∧ _) ∧ _); refine ⟨⟨by kernel_rfl, by kernel_rfl, by rfl⟩, ?_⟩) | ((with_reducible show AV.pf _ = true ∧ _); refine pfA ?_) | (refine ⟨rfl, ?_, ?_, ?_⟩; exact okG; exact okG) | ((with_reducible show (_ ∨ _) ∧ _ ∧ retA _ _ _ _ _); refine ⟨?_, rfl, ?_⟩; (first | exact .inr rfl | exact .inl rfl)) | ((with_reducible show _ = _ ∧ _ = false ∧ _ = _); refine ⟨?_, rfl, rfl⟩; try (first | rfl | (conv => lhs; whnf))) | ((with_reducible show LeqD _ _); try (first | exact okN | (first | rfl | (conv => lhs; whnf))); done) | ((with_reducible show _ = _ ∧ (_ → _)); refine ⟨?_, ?_⟩; try (first | rfl | (conv => lhs; whnf))) | exact fun h => h | exact fun _ => rfl | refine ⟨rfl, ?_⟩ | (refine ⟨Nat.le_of_ble_eq_true rfl, ?_⟩) | (refine ⟨?_, ?_, ?_⟩; exact okS; exact okS) | (refine ⟨?_, ?_⟩; exact okS) | rw [wrapId (by omega) (by omega)] | fail)
  refine XW.overL [0, 1, 2, 6, 7, 8] (fun (p : Nat × Nat) => [(9, i64 p.1), (10, i64 p.2)]) (fun _ => []) (fun _ => []) (fun p => p.1 ≤ p.2 ∧ p.2 ≤ l.length ∧ (∀ k, k < p.1 → ltS (l.getD k File.none).name s = true) ∧ (∀ k, p.2 ≤ k → k < l.length → ltS (l.getD k File.none).name s = false)) (fun p => p.2 - p.1) (0, l.length) Weak.go ⟨Nat.zero_le _, Nat.le_refl _, fun k hk => by omega, fun k h1 h2 => by omega⟩ ?_
  rintro ⟨i, j⟩ ⟨h1, h2, h3, h4⟩
  dsimp only at h1 h2 h3 h4 ⊢
  refine codeS ?_
  repeat' ((conv => whnf); (fail_if_success (with_reducible show ∃ _, _ ∧ _ ∧ Weak _ _ _)); first | ((with_reducible show guardA _ _ _ _ _ _ ∨ _); first | (refine .inr ?_; (conv => whnf); refine ⟨_, ?_, fun h => rfl, rfl, ?_⟩; ((conv => whnf); first | exact trivial | (refine ⟨?_, trivial⟩; exact okG))) | (refine .inr ?_; (conv => whnf); refine ⟨_, trivial, fun h => ⟨?_, ?_, ?_, rfl⟩, rfl, ?_⟩; (first | exact h | rfl); exact okG; exact okG) | refine .inl ?_) | refine cY ?_ | refine cN ?_ | refine gA ?_ | refine gB ?_ | refine gC ?_ | ((first | refine gsT (fun h => ?_) (fun h => ?_) | refine gsF (fun h => ?_) (fun h => ?_) | refine ⟨fun h => ?_, fun h => ?_⟩) <;> (have hs := h; try simp only [cs, reduceCtorEq, Int.reduceEq, Int.reduceNe, Int.reduceLT, Int.reduceLE, Int.reduceBEq, Int.reduceBNe] at hs)) | (refine .inl ⟨_, _, c_place_1, ?_⟩) | ((with_reducible show _ ∧ _ ∧ Weak _ _ _); refine ⟨?_, ?_, Weak.go⟩; (omega)) | (first | rw [halfW (by omega)] | rw [halfW2 (by omega)]) | ((with_reducible show (_ ∧ _ ∧ _) ∧ _); refine ⟨⟨by kernel_rfl, by kernel_rfl, by rfl⟩, ?_⟩) | ((with_reducible show AV.pf _ = true ∧ _); refine pfA ?_) | (refine ⟨rfl, ?_, ?_, ?_⟩; exact okG; exact okG) | ((with_reducible show (_ ∨ _) ∧ _ ∧ retA _ _ _ _ _); refine ⟨?_, rfl, ?_⟩; (first | exact .inr rfl | exact .inl rfl)) | ((with_reducible show _ = _ ∧ _ = false ∧ _ = _); refine ⟨?_, rfl, rfl⟩; try (first | rfl | (conv => lhs; whnf))) | ((with_reducible show LeqD _ _); try (first | exact okN | (first | rfl | (conv => lhs; whnf))); done) | ((with_reducible show _ = _ ∧ (_ → _)); refine ⟨?_, ?_⟩; try (first | rfl | (conv => lhs; whnf))) | exact fun h => h | exact fun _ => rfl | refine ⟨rfl, ?_⟩ | (refine ⟨Nat.le_of_ble_eq_true rfl, ?_⟩) | (refine ⟨?_, ?_, ?_⟩; exact okS; exact okS) | (refine ⟨?_, ?_⟩; exact okS) | rw [getD_mapI (File.none) (by omega)] | rw [getD_map (File.none) (by omega)] | rw [wrapId (by omega) (by omega)] | fail)
  · have hlt : ltS (l.getD ((i + j) / 2) File.none).name s = true := cmp3_lt.symm.trans h
    refine ⟨((i + j) / 2 + 1, j), by dsimp only; omega, ⟨by dsimp only; omega, h2, fun k hk => ?_, h4⟩, Weak.go⟩
    rcases Nat.lt_or_ge k ((i + j) / 2) with q | q
    · exact ltS_trans (pw_at hp q (by omega)) hlt
    · obtain rfl : k = (i + j) / 2 := by dsimp only at hk; omega
      exact hlt
  · have hge : ltS (l.getD ((i + j) / 2) File.none).name s = false := cmp3_lt.symm.trans h
    conv => whnf
    refine ⟨(i, (i + j) / 2), by dsimp only; omega, ⟨by dsimp only; omega, by dsimp only; omega, h3, fun k hk hkl => ?_⟩, Weak.go⟩
    rcases Nat.lt_or_ge ((i + j) / 2) k with q | q
    · cases hc : ltS (l.getD k File.none).name s with
      | false => rfl
      | true => rw [ltS_trans (pw_at hp q hkl) hc] at hge; cases hge
    · obtain rfl : k = (i + j) / 2 := by dsimp only at hk; omega
      exact hge
  · have hp' := posF_eq (l := l) (s := s) (i := i) (by omega) h3 (fun _ => h4 i (by omega) (by omega))
    rw [hp', thereF_eq hp' hs]
    have e : ∀ b : Bool, (bif decide ((i : Int) < ((l.map eF).length : Int)) then b else false) = b := fun b => by rw [h]; rfl
    exact congrArg (fun b => AV.tup [i64 i, bln b]) ((e _).trans cmp3_eq)
  · have hp' := posF_eq (l := l) (s := s) (i := i) (by omega) h3 (fun _ => h4 i (by omega) (by omega))
    rw [hp', thereF_end hp' hs]; rfl
theorem c_disk_place {clock : Int} {l : List File} {s : ByteArray} (hl : l.length ≤ 256) (hp : l.Pairwise fun a b => ltS a.name b.name = true) : XPure Tryz.prog 73 [eD clock l, str s] (.tup [i64 (posF l s), bln (thereF l s)]) false := by
  refine XPure.body ⟨_, Tryz.func73, rfl, by kernel_rfl⟩ Tryz.func73 rfl (Nat.le_of_ble_eq_true (by rfl)) (pf_of1 rfl) fun env => ?_
  repeat' ((conv => whnf); (fail_if_success (with_reducible show ∃ _, _ ∧ _ ∧ Weak _ _ _)); first | ((with_reducible show guardA _ _ _ _ _ _ ∨ _); first | (refine .inr ?_; (conv => whnf); refine ⟨_, ?_, fun h => rfl, rfl, ?_⟩; ((conv => whnf); first | exact trivial | (refine ⟨?_, trivial⟩; exact okG))) | (refine .inr ?_; (conv => whnf); refine ⟨_, trivial, fun h => ⟨?_, ?_, ?_, rfl⟩, rfl, ?_⟩; (first | exact h | rfl); exact okG; exact okG) | refine .inl ?_) | refine cY ?_ | refine cN ?_ | refine gA ?_ | refine gB ?_ | refine gC ?_ | ((first | refine gsT (fun h => ?_) (fun h => ?_) | refine gsF (fun h => ?_) (fun h => ?_) | refine ⟨fun h => ?_, fun h => ?_⟩) <;> (have hs := h; try simp only [cs, reduceCtorEq, Int.reduceEq, Int.reduceNe, Int.reduceLT, Int.reduceLE, Int.reduceBEq, Int.reduceBNe] at hs)) | (refine .inl ⟨_, _, c_BinarySearch hl hp, ?_⟩) | ((with_reducible show _ ∧ _ ∧ Weak _ _ _); refine ⟨?_, ?_, Weak.go⟩; (omega)) | ((with_reducible show (_ ∧ _ ∧ _) ∧ _); refine ⟨⟨by kernel_rfl, by kernel_rfl, by rfl⟩, ?_⟩) | ((with_reducible show AV.pf _ = true ∧ _); refine pfA ?_) | (refine ⟨rfl, ?_, ?_, ?_⟩; exact okG; exact okG) | ((with_reducible show (_ ∨ _) ∧ _ ∧ retA _ _ _ _ _); refine ⟨?_, rfl, ?_⟩; (first | exact .inr rfl | exact .inl rfl)) | ((with_reducible show _ = _ ∧ _ = false ∧ _ = _); refine ⟨?_, rfl, rfl⟩; try (first | rfl | (conv => lhs; whnf))) | ((with_reducible show LeqD _ _); try (first | exact okN | (first | rfl | (conv => lhs; whnf))); done) | ((with_reducible show _ = _ ∧ (_ → _)); refine ⟨?_, ?_⟩; try (first | rfl | (conv => lhs; whnf))) | exact fun h => h | exact fun _ => rfl | refine ⟨rfl, ?_⟩ | (refine ⟨Nat.le_of_ble_eq_true rfl, ?_⟩) | (refine ⟨?_, ?_, ?_⟩; exact okS; exact okS) | (refine ⟨?_, ?_⟩; exact okS) | rw [wrapId (by omega) (by omega)] | fail)
theorem c_disk_asked {clock : Int} {l : List File} {s : ByteArray} : XPure Tryz.prog 71 [eD clock l, str s] (i64 (bif okD clock l then errIf (isName s) 3 else 4)) false := by
  refine XPure.body ⟨_, Tryz.func71, rfl, by kernel_rfl⟩ Tryz.func71 rfl (Nat.le_of_ble_eq_true (by rfl)) (pf_of1 rfl) fun env => ?_
  repeat' ((conv => whnf); (fail_if_success (with_reducible show ∃ _, _ ∧ _ ∧ Weak _ _ _)); first | ((with_reducible show guardA _ _ _ _ _ _ ∨ _); first | (refine .inr ?_; (conv => whnf); refine ⟨_, ?_, fun h => rfl, rfl, ?_⟩; ((conv => whnf); first | exact trivial | (refine ⟨?_, trivial⟩; exact okG))) | (refine .inr ?_; (conv => whnf); refine ⟨_, trivial, fun h => ⟨?_, ?_, ?_, rfl⟩, rfl, ?_⟩; (first | exact h | rfl); exact okG; exact okG) | refine .inl ?_) | refine cY ?_ | refine cN ?_ | refine gA ?_ | refine gB ?_ | refine gC ?_ | ((first | refine gsT (fun h => ?_) (fun h => ?_) | refine gsF (fun h => ?_) (fun h => ?_) | refine ⟨fun h => ?_, fun h => ?_⟩) <;> (have hs := h; try simp only [cs, reduceCtorEq, Int.reduceEq, Int.reduceNe, Int.reduceLT, Int.reduceLE, Int.reduceBEq, Int.reduceBNe] at hs)) | (refine .inl ⟨_, _, c_disk_Check, ?_⟩) | (refine .inl ⟨_, _, c_disk_named, ?_⟩) | ((with_reducible show _ ∧ _ ∧ Weak _ _ _); refine ⟨?_, ?_, Weak.go⟩; (omega)) | ((with_reducible show (_ ∧ _ ∧ _) ∧ _); refine ⟨⟨by kernel_rfl, by kernel_rfl, by rfl⟩, ?_⟩) | ((with_reducible show AV.pf _ = true ∧ _); refine pfA ?_) | (refine ⟨rfl, ?_, ?_, ?_⟩; exact okG; exact okG) | ((with_reducible show (_ ∨ _) ∧ _ ∧ retA _ _ _ _ _); refine ⟨?_, rfl, ?_⟩; (first | exact .inr rfl | exact .inl rfl)) | ((with_reducible show _ = _ ∧ _ = false ∧ _ = _); refine ⟨?_, rfl, rfl⟩; try (first | rfl | (conv => lhs; whnf))) | ((with_reducible show LeqD _ _); try (first | exact okN | (first | rfl | (conv => lhs; whnf))); done) | ((with_reducible show _ = _ ∧ (_ → _)); refine ⟨?_, ?_⟩; try (first | rfl | (conv => lhs; whnf))) | exact fun h => h | exact fun _ => rfl | refine ⟨rfl, ?_⟩ | (refine ⟨Nat.le_of_ble_eq_true rfl, ?_⟩) | (refine ⟨?_, ?_, ?_⟩; exact okS; exact okS) | (refine ⟨?_, ?_⟩; exact okS) | rw [wrapId (by omega) (by omega)] | fail)
  all_goals cases h1 : okD clock l <;> cases h2 : isName s <;> simp_all [errIf]
theorem asked0 {clock : Int} {l : List File} {s : ByteArray} (h : (bif okD clock l then errIf (isName s) 3 else 4) = 0) : okD clock l = true ∧ isName s = true := by
  cases h1 : okD clock l <;> cases h2 : isName s <;> simp_all [errIf]
theorem posF_le : ∀ {l : List File} {s : ByteArray}, posF l s ≤ l.length
  | [], _ => Nat.le_refl _
  | f :: r, s => by
    simp only [posF, List.length_cons]
    split
    · have := @posF_le r s; omega
    · omega
theorem posF_lt {l : List File} {s : ByteArray} (h : thereF l s = true) : posF l s < l.length := by
  unfold thereF at h
  split at h
  · rename_i f hf; exact (List.getElem?_eq_some_iff.1 hf).1
  · cases h
theorem findF_sorted : ∀ {l : List File} {s : ByteArray}, (l.Pairwise fun a b => ltS a.name b.name = true) → findF l s = if thereF l s then some (l.getD (posF l s) File.none) else none
  | [], _, _ => rfl
  | f :: r, s, hp => by
    obtain ⟨h1, h2⟩ := List.pairwise_cons.1 hp
    simp only [findF]
    cases hlt : ltS f.name s with
    | true =>
      have : beqS f.name s = false := beqS_no.2 fun e => by rw [e, ltS_irrefl] at hlt; cases hlt
      have e1 : posF (f :: r) s = posF r s + 1 := by simp [posF, hlt]
      have e2 : thereF (f :: r) s = thereF r s := by unfold thereF; rw [e1]; rfl
      rw [this, if_neg (by simp), findF_sorted h2, e2, e1]; rfl
    | false =>
      have e1 : posF (f :: r) s = 0 := by simp [posF, hlt]
      have e2 : thereF (f :: r) s = beqS f.name s := by unfold thereF; rw [e1]; rfl
      rw [e2, e1]
      cases hb : beqS f.name s with
      | true => rfl
      | false =>
        simp only [Bool.false_eq_true, if_false]
        have hgt : ltS s f.name = true := by
          cases h : ltS s f.name with
          | true => rfl
          | false => rw [beqS_iff.2 (ltS_total hlt h)] at hb; cases hb
        have : ∀ (q : List File), (∀ g ∈ q, ltS f.name g.name = true) → findF q s = none := by
          intro q
          induction q with
          | nil => intro _; rfl
          | cons g q ih =>
            intro hq
            have hg := ltS_trans hgt (hq g (by simp))
            have : beqS g.name s = false := beqS_no.2 fun e => by rw [e, ltS_irrefl] at hg; cases hg
            simp only [findF, this, Bool.false_eq_true, if_false]
            exact ih fun x hx => hq x (by simp [hx])
        exact this r h1
/-- A file that is asked for, or what is wrong. -/
def findD (clock : Int) (l : List File) (s : ByteArray) : Option File := bif okD clock l && isName s then findF l s else none
def findE (clock : Int) (l : List File) (s : ByteArray) : Int := bif okD clock l then bif isName s then errIf (findF l s).isSome 21 else 3 else 4
theorem find_ok {clock : Int} {l : List File} {s : ByteArray} (h : (bif okD clock l then errIf (isName s) 3 else 4) = 0) : findD clock l s = (if thereF l s then some (l.getD (posF l s) File.none) else none) ∧ findE clock l s = errIf (thereF l s) 21 := by
  obtain ⟨h1, h2⟩ := asked0 h
  unfold findD findE
  rw [h1, h2, findF_sorted (okD_sorted h1).2]
  cases thereF l s <;> exact ⟨rfl, rfl⟩
theorem find_bad {clock : Int} {l : List File} {s : ByteArray} (h : ¬ (bif okD clock l then errIf (isName s) 3 else 4) = 0) : findD clock l s = none ∧ findE clock l s = bif okD clock l then errIf (isName s) 3 else 4 := by
  unfold findD findE
  cases h1 : okD clock l <;> cases h2 : isName s <;> simp_all [errIf]
theorem c_disk_Find {clock : Int} {l : List File} {s : ByteArray} : XPure Tryz.prog 52 [eD clock l, str s] (.tup [eF ((findD clock l s).getD File.none), i64 (findE clock l s)]) false := by
  refine XPure.body ⟨_, Tryz.func52, rfl, by kernel_rfl⟩ Tryz.func52 rfl (Nat.le_of_ble_eq_true (by rfl)) (pf_of1 rfl) fun env => ?_
  repeat' ((conv => whnf); (fail_if_success (with_reducible show ∃ _, _ ∧ _ ∧ Weak _ _ _)); first | ((with_reducible show guardA _ _ _ _ _ _ ∨ _); first | (refine .inr ?_; (conv => whnf); refine ⟨_, ?_, fun h => rfl, rfl, ?_⟩; ((conv => whnf); first | exact trivial | (refine ⟨?_, trivial⟩; exact okG))) | (refine .inr ?_; (conv => whnf); refine ⟨_, trivial, fun h => ⟨?_, ?_, ?_, rfl⟩, rfl, ?_⟩; (first | exact h | rfl); exact okG; exact okG) | refine .inl ?_) | refine cY ?_ | refine cN ?_ | refine gA ?_ | refine gB ?_ | refine gC ?_ | ((first | refine gsT (fun h => ?_) (fun h => ?_) | refine gsF (fun h => ?_) (fun h => ?_) | refine ⟨fun h => ?_, fun h => ?_⟩) <;> (have hs := h; try simp only [cs, reduceCtorEq, Int.reduceEq, Int.reduceNe, Int.reduceLT, Int.reduceLE, Int.reduceBEq, Int.reduceBNe] at hs)) | (refine .inl ⟨_, _, c_disk_asked, ?_⟩) | (refine .inl ⟨_, _, c_disk_place (okD_sorted (asked0 (by assumption)).1).1 (okD_sorted (asked0 (by assumption)).1).2, ?_⟩) | ((with_reducible show _ ∧ _ ∧ Weak _ _ _); refine ⟨?_, ?_, Weak.go⟩; (omega)) | (rw [getD_mapI File.none (posF_lt (by assumption))]) | ((with_reducible show (_ ∧ _ ∧ _) ∧ _); refine ⟨⟨by kernel_rfl, by kernel_rfl, by rfl⟩, ?_⟩) | ((with_reducible show AV.pf _ = true ∧ _); refine pfA ?_) | (refine ⟨rfl, ?_, ?_, ?_⟩; exact okG; exact okG) | ((with_reducible show (_ ∨ _) ∧ _ ∧ retA _ _ _ _ _); refine ⟨?_, rfl, ?_⟩; (first | exact .inr rfl | exact .inl rfl)) | ((with_reducible show _ = _ ∧ _ = false ∧ _ = _); refine ⟨?_, rfl, rfl⟩; try (first | rfl | (conv => lhs; whnf))) | ((with_reducible show LeqD _ _); try (first | exact okN | (first | rfl | (conv => lhs; whnf))); done) | ((with_reducible show _ = _ ∧ (_ → _)); refine ⟨?_, ?_⟩; try (first | rfl | (conv => lhs; whnf))) | exact fun h => h | exact fun _ => rfl | refine ⟨rfl, ?_⟩ | (refine ⟨Nat.le_of_ble_eq_true rfl, ?_⟩) | (refine ⟨?_, ?_, ?_⟩; (first | omega | (have := posF_lt (by assumption); simp only [List.length_map]; omega)); (first | omega | (have := posF_lt (by assumption); simp only [List.length_map]; omega))) | (refine ⟨?_, ?_⟩; (first | omega | (have := posF_lt (by assumption); simp only [List.length_map]; omega))) | rw [wrapId (by omega) (by omega)] | fail)
  · obtain ⟨e1, e2⟩ := find_bad hs
    rw [e1, e2]; rfl
  · obtain ⟨e1, e2⟩ := find_ok (by assumption)
    rw [e1, e2, hs]; rfl
  · obtain ⟨e1, e2⟩ := find_ok (by assumption)
    rw [e1, e2, hs]; rfl
def Fail.none : Fail := ⟨.empty, 0, 0⟩
end Go.Proofs.YtepdiooaoegpfaaGreatDoor.Fx
end
section
/- Names, nodes and plans. Conditions: those in each statement. -/
namespace Go.Proofs.YtepdiooaoegpfaaGreatDoor.Fx
open Go Go.Proofs Go.Ev Go.RowKit
set_option maxRecDepth 100000
set_option maxHeartbeats 1600000
set_option linter.unusedSimpArgs false
set_option linter.unusedVariables false
theorem c_names_letter {c : UInt8} : XPure Tryz.prog 106 [.v (.int .u8 c.toNat)] (bln (isLetter c.toNat)) false := by
  obtain ⟨f, hf, cI⟩ := x_IndexByte
  have key : isLetter c.toNat = (decide (c.toNat ≥ 65) && decide (c.toNat ≤ 90) || decide (c.toNat ≥ 97) && decide (c.toNat ≤ 122) || decide (c.toNat ≥ 48) && decide (c.toNat ≤ 57) || decide (f ⟨#[95, 45, 46, 47, 43]⟩ c.toNat ≥ 0)) := by
    rw [hf]; exact letterIB _ (UInt8.toNat_lt _)
  refine XPure.body ⟨_, Tryz.func106, rfl, by kernel_rfl⟩ Tryz.func106 rfl (Nat.le_of_ble_eq_true (by rfl)) (pf_of1 rfl) fun env => ?_
  repeat' ((conv => whnf); (fail_if_success (with_reducible show ∃ _, _ ∧ _ ∧ Weak _ _ _)); first | ((with_reducible show guardA _ _ _ _ _ _ ∨ _); first | (refine .inr ?_; (conv => whnf); refine ⟨_, ?_, fun h => rfl, rfl, ?_⟩; ((conv => whnf); first | exact trivial | (refine ⟨?_, trivial⟩; exact okG))) | (refine .inr ?_; (conv => whnf); refine ⟨_, trivial, fun h => ⟨?_, ?_, ?_, rfl⟩, rfl, ?_⟩; (first | exact h | rfl); exact okG; exact okG) | refine .inl ?_) | refine cY ?_ | refine cN ?_ | refine gA ?_ | refine gB ?_ | refine gC ?_ | ((first | refine gsT (fun h => ?_) (fun h => ?_) | refine gsF (fun h => ?_) (fun h => ?_) | refine ⟨fun h => ?_, fun h => ?_⟩) <;> (have hs := h; try simp only [cs, reduceCtorEq, Int.reduceEq, Int.reduceNe, Int.reduceLT, Int.reduceLE, Int.reduceBEq, Int.reduceBNe] at hs)) | (refine .inl ⟨_, _, cI _ _, ?_⟩) | ((with_reducible show _ ∧ _ ∧ Weak _ _ _); refine ⟨?_, ?_, Weak.go⟩; (omega)) | ((with_reducible show (_ ∧ _ ∧ _) ∧ _); refine ⟨⟨by kernel_rfl, by kernel_rfl, by rfl⟩, ?_⟩) | ((with_reducible show AV.pf _ = true ∧ _); refine pfA ?_) | (refine ⟨rfl, ?_, ?_, ?_⟩; exact okG; exact okG) | ((with_reducible show (_ ∨ _) ∧ _ ∧ retA _ _ _ _ _); refine ⟨?_, rfl, ?_⟩; (first | exact .inr rfl | exact .inl rfl)) | ((with_reducible show _ = _ ∧ _ = false ∧ _ = _); refine ⟨?_, rfl, rfl⟩; try (first | rfl | (conv => lhs; whnf))) | ((with_reducible show LeqD _ _); try (first | exact okN | (first | rfl | (conv => lhs; whnf))); done) | ((with_reducible show _ = _ ∧ (_ → _)); refine ⟨?_, ?_⟩; try (first | rfl | (conv => lhs; whnf))) | exact fun h => h | exact fun _ => rfl | refine ⟨rfl, ?_⟩ | (refine ⟨Nat.le_of_ble_eq_true rfl, ?_⟩) | (refine ⟨?_, ?_, ?_⟩; exact okS; exact okS) | (refine ⟨?_, ?_⟩; exact okS) | rw [wrapId (by omega) (by omega)] | fail)
  · exact congrArg (fun b => bln b) (by rw [Bool.eq_iff_iff, key]; simp only [cs, reduceCtorEq, Int.reduceEq, Int.reduceNe, Int.reduceLT, Int.reduceLE, Int.reduceBEq, Int.reduceBNe]; omega)
  · exact congrArg (fun b => bln b) (by rw [key, eq_comm]; simp only [cs, reduceCtorEq, Int.reduceEq, Int.reduceNe, Int.reduceLT, Int.reduceLE, Int.reduceBEq, Int.reduceBNe]; omega)
theorem c_names_Check {s : ByteArray} (hz : s.size ≤ 140737488355328) : XPure Tryz.prog 80 [str s] (i64 (errIf (isName s) 3)) false := by
  refine XPure.body ⟨_, Tryz.func80, rfl, by kernel_rfl⟩ Tryz.func80 rfl (Nat.le_of_ble_eq_true (by rfl)) (pf_of1 rfl) fun env => ?_
  repeat' ((conv => whnf); (fail_if_success (with_reducible show ∃ _, _ ∧ _ ∧ Weak _ _ _)); first | ((with_reducible show guardA _ _ _ _ _ _ ∨ _); first | (refine .inr ?_; (conv => whnf); refine ⟨_, ?_, fun h => rfl, rfl, ?_⟩; ((conv => whnf); first | exact trivial | (refine ⟨?_, trivial⟩; exact okG))) | (refine .inr ?_; (conv => whnf); refine ⟨_, trivial, fun h => ⟨?_, ?_, ?_, rfl⟩, rfl, ?_⟩; (first | exact h | rfl); exact okG; exact okG) | refine .inl ?_) | refine cY ?_ | refine cN ?_ | refine gA ?_ | refine gB ?_ | refine gC ?_ | ((first | refine gsT (fun h => ?_) (fun h => ?_) | refine gsF (fun h => ?_) (fun h => ?_) | refine ⟨fun h => ?_, fun h => ?_⟩) <;> (have hs := h; try simp only [cs, reduceCtorEq, Int.reduceEq, Int.reduceNe, Int.reduceLT, Int.reduceLE, Int.reduceBEq, Int.reduceBNe] at hs)) | ((with_reducible show _ ∧ _ ∧ Weak _ _ _); refine ⟨?_, ?_, Weak.go⟩; (omega)) | ((with_reducible show (_ ∧ _ ∧ _) ∧ _); refine ⟨⟨by kernel_rfl, by kernel_rfl, by rfl⟩, ?_⟩) | ((with_reducible show AV.pf _ = true ∧ _); refine pfA ?_) | (refine ⟨rfl, ?_, ?_, ?_⟩; exact okG; exact okG) | ((with_reducible show (_ ∨ _) ∧ _ ∧ retA _ _ _ _ _); refine ⟨?_, rfl, ?_⟩; (first | exact .inr rfl | exact .inl rfl)) | ((with_reducible show _ = _ ∧ _ = false ∧ _ = _); refine ⟨?_, rfl, rfl⟩; try (first | rfl | (conv => lhs; whnf))) | ((with_reducible show LeqD _ _); try (first | exact okN | (first | rfl | (conv => lhs; whnf))); done) | ((with_reducible show _ = _ ∧ (_ → _)); refine ⟨?_, ?_⟩; try (first | rfl | (conv => lhs; whnf))) | exact fun h => h | exact fun _ => rfl | refine ⟨rfl, ?_⟩ | (refine ⟨Nat.le_of_ble_eq_true rfl, ?_⟩) | (refine ⟨?_, ?_, ?_⟩; exact okS; exact okS) | (refine ⟨?_, ?_⟩; exact okS) | rw [wrapId (by omega) (by omega)] | fail)
  · rw [isName_bad (by omega)]; rfl
  · refine XW.countL s.size [0, 13] (fun i => [(14, i64 i)]) (fun _ => []) (fun _ => []) (fun i => isName s = (s.data.toList.drop i).all fun c => isLetter c.toNat) Weak.go (isName_good (by omega)) ?_
    intro i hi hA
    refine codeS ?_
    repeat' ((conv => whnf); (fail_if_success (with_reducible show ∃ _, _ ∧ _ ∧ Weak _ _ _)); first | ((with_reducible show guardA _ _ _ _ _ _ ∨ _); first | (refine .inr ?_; (conv => whnf); refine ⟨_, ?_, fun h => rfl, rfl, ?_⟩; ((conv => whnf); first | exact trivial | (refine ⟨?_, trivial⟩; exact okG))) | (refine .inr ?_; (conv => whnf); refine ⟨_, trivial, fun h => ⟨?_, ?_, ?_, rfl⟩, rfl, ?_⟩; (first | exact h | rfl); exact okG; exact okG) | refine .inl ?_) | refine cY ?_ | refine cN ?_ | refine gA ?_ | refine gB ?_ | refine gC ?_ | ((first | refine gsT (fun h => ?_) (fun h => ?_) | refine gsF (fun h => ?_) (fun h => ?_) | refine ⟨fun h => ?_, fun h => ?_⟩) <;> (have hs := h; try simp only [cs, reduceCtorEq, Int.reduceEq, Int.reduceNe, Int.reduceLT, Int.reduceLE, Int.reduceBEq, Int.reduceBNe] at hs)) | (refine .inl ⟨_, _, c_names_letter, ?_⟩) | ((with_reducible show _ ∧ _ ∧ Weak _ _ _); refine ⟨?_, ?_, Weak.go⟩; (omega)) | ((with_reducible show (_ ∧ _ ∧ _) ∧ _); refine ⟨⟨by kernel_rfl, by kernel_rfl, by rfl⟩, ?_⟩) | ((with_reducible show AV.pf _ = true ∧ _); refine pfA ?_) | (refine ⟨rfl, ?_, ?_, ?_⟩; exact okG; exact okG) | ((with_reducible show (_ ∨ _) ∧ _ ∧ retA _ _ _ _ _); refine ⟨?_, rfl, ?_⟩; (first | exact .inr rfl | exact .inl rfl)) | ((with_reducible show _ = _ ∧ _ = false ∧ _ = _); refine ⟨?_, rfl, rfl⟩; try (first | rfl | (conv => lhs; whnf))) | ((with_reducible show LeqD _ _); try (first | exact okN | (first | rfl | (conv => lhs; whnf))); done) | ((with_reducible show _ = _ ∧ (_ → _)); refine ⟨?_, ?_⟩; try (first | rfl | (conv => lhs; whnf))) | exact fun h => h | exact fun _ => rfl | refine ⟨rfl, ?_⟩ | (refine ⟨Nat.le_of_ble_eq_true rfl, ?_⟩) | (refine ⟨?_, ?_, ?_⟩; exact okS; exact okS) | (refine ⟨?_, ?_⟩; exact okS) | rw [wrapId (by omega) (by omega)] | fail)
    · rw [hA, all_no ‹_› hs]; rfl
    · exact hA.trans (all_yes ‹_› hs)
    · rw [hA, all_end hs]; rfl
def findP (p : ByteArray → Bool) (l : List ByteArray) (i : Nat) : Int := match l with
  | [] => -1
  | x :: r => if p x then i else findP p r (i + 1)
theorem findP_eq {p : ByteArray → Bool} {l : List ByteArray} {i : Nat} (h : i < l.length) : findP p (l.drop i) i = if p (l.getD i .empty) then (i : Int) else findP p (l.drop (i + 1)) (i + 1) := by
  rw [drop_getD .empty h]; rfl
theorem findP_end {p : ByteArray → Bool} {l : List ByteArray} {i : Nat} (h : ¬ i < l.length) : findP p (l.drop i) i = -1 := by
  rw [List.drop_eq_nil_of_le (by omega)]; rfl
theorem findP_any {p : ByteArray → Bool} {l : List ByteArray} : ∀ i : Nat, decide (findP p l i ≥ 0) = l.any p := by
  induction l with
  | nil => intro i; rfl
  | cons x r ih =>
    intro i
    show decide ((if p x then (i : Int) else findP p r (i + 1)) ≥ 0) = (p x || r.any p)
    cases p x with
    | true => simp
    | false => simpa using ih (i + 1)
theorem c_IndexFunc {g : Nat} {p : ByteArray → Bool} {l : List ByteArray} (hg : ∀ {s : ByteArray}, XPure Tryz.prog g [str s] (bln (p s)) false) (hl : l.length ≤ 1000000000) : XPure Tryz.prog 107 [eS l, .fn (.func g) [] []] (i64 (findP p l 0)) false := by
  refine XPure.body ⟨_, Tryz.func107, rfl, by kernel_rfl⟩ Tryz.func107 rfl (Nat.le_of_ble_eq_true (by rfl)) (pf_of1 rfl) fun env => ?_
  repeat' ((conv => whnf); (fail_if_success (with_reducible show ∃ _, _ ∧ _ ∧ Weak _ _ _)); first | ((with_reducible show guardA _ _ _ _ _ _ ∨ _); first | (refine .inr ?_; (conv => whnf); refine ⟨_, ?_, fun h => rfl, rfl, ?_⟩; ((conv => whnf); first | exact trivial | (refine ⟨?_, trivial⟩; exact okG))) | (refine .inr ?_; (conv => whnf); refine ⟨_, trivial, fun h => ⟨?_, ?_, ?_, rfl⟩, rfl, ?_⟩; (first | exact h | rfl); exact okG; exact okG) | refine .inl ?_) | refine cY ?_ | refine cN ?_ | refine gA ?_ | refine gB ?_ | refine gC ?_ | ((first | refine gsT (fun h => ?_) (fun h => ?_) | refine gsF (fun h => ?_) (fun h => ?_) | refine ⟨fun h => ?_, fun h => ?_⟩) <;> (have hs := h; try simp only [cs, reduceCtorEq, Int.reduceEq, Int.reduceNe, Int.reduceLT, Int.reduceLE, Int.reduceBEq, Int.reduceBNe] at hs)) | ((with_reducible show _ ∧ _ ∧ Weak _ _ _); refine ⟨?_, ?_, Weak.go⟩; (omega)) | ((with_reducible show (_ ∧ _ ∧ _) ∧ _); refine ⟨⟨by kernel_rfl, by kernel_rfl, by rfl⟩, ?_⟩) | ((with_reducible show AV.pf _ = true ∧ _); refine pfA ?_) | (refine ⟨rfl, ?_, ?_, ?_⟩; exact okG; exact okG) | ((with_reducible show (_ ∨ _) ∧ _ ∧ retA _ _ _ _ _); refine ⟨?_, rfl, ?_⟩; (first | exact .inr rfl | exact .inl rfl)) | ((with_reducible show _ = _ ∧ _ = false ∧ _ = _); refine ⟨?_, rfl, rfl⟩; try (first | rfl | (conv => lhs; whnf))) | ((with_reducible show LeqD _ _); try (first | exact okN | (first | rfl | (conv => lhs; whnf))); done) | ((with_reducible show _ = _ ∧ (_ → _)); refine ⟨?_, ?_⟩; try (first | rfl | (conv => lhs; whnf))) | exact fun h => h | exact fun _ => rfl | refine ⟨rfl, ?_⟩ | (refine ⟨Nat.le_of_ble_eq_true rfl, ?_⟩) | (refine ⟨?_, ?_, ?_⟩; exact okS; exact okS) | (refine ⟨?_, ?_⟩; exact okS) | rw [wrapId (by omega) (by omega)] | fail)
  refine XW.countL l.length [0, 1, 7] (fun i => [(8, i64 i)]) (fun _ => []) (fun _ => []) (fun i => findP p l 0 = findP p (l.drop i) i) Weak.go rfl ?_
  intro i hi hA
  refine codeS ?_
  repeat' ((conv => whnf); (fail_if_success (with_reducible show ∃ _, _ ∧ _ ∧ Weak _ _ _)); first | ((with_reducible show guardA _ _ _ _ _ _ ∨ _); first | (refine .inr ?_; (conv => whnf); refine ⟨_, ?_, fun h => rfl, rfl, ?_⟩; ((conv => whnf); first | exact trivial | (refine ⟨?_, trivial⟩; exact okG))) | (refine .inr ?_; (conv => whnf); refine ⟨_, trivial, fun h => ⟨?_, ?_, ?_, rfl⟩, rfl, ?_⟩; (first | exact h | rfl); exact okG; exact okG) | refine .inl ?_) | refine cY ?_ | refine cN ?_ | refine gA ?_ | refine gB ?_ | refine gC ?_ | ((first | refine gsT (fun h => ?_) (fun h => ?_) | refine gsF (fun h => ?_) (fun h => ?_) | refine ⟨fun h => ?_, fun h => ?_⟩) <;> (have hs := h; try simp only [cs, reduceCtorEq, Int.reduceEq, Int.reduceNe, Int.reduceLT, Int.reduceLE, Int.reduceBEq, Int.reduceBNe] at hs)) | (refine .inl ⟨_, _, hg, ?_⟩) | ((with_reducible show _ ∧ _ ∧ Weak _ _ _); refine ⟨?_, ?_, Weak.go⟩; (omega)) | ((with_reducible show (_ ∧ _ ∧ _) ∧ _); refine ⟨⟨by kernel_rfl, by kernel_rfl, by rfl⟩, ?_⟩) | ((with_reducible show AV.pf _ = true ∧ _); refine pfA ?_) | (refine ⟨rfl, ?_, ?_, ?_⟩; exact okG; exact okG) | ((with_reducible show (_ ∨ _) ∧ _ ∧ retA _ _ _ _ _); refine ⟨?_, rfl, ?_⟩; (first | exact .inr rfl | exact .inl rfl)) | ((with_reducible show _ = _ ∧ _ = false ∧ _ = _); refine ⟨?_, rfl, rfl⟩; try (first | rfl | (conv => lhs; whnf))) | ((with_reducible show LeqD _ _); try (first | exact okN | (first | rfl | (conv => lhs; whnf))); done) | ((with_reducible show _ = _ ∧ (_ → _)); refine ⟨?_, ?_⟩; try (first | rfl | (conv => lhs; whnf))) | exact fun h => h | exact fun _ => rfl | refine ⟨rfl, ?_⟩ | (refine ⟨Nat.le_of_ble_eq_true rfl, ?_⟩) | (refine ⟨?_, ?_, ?_⟩; exact okS; exact okS) | (refine ⟨?_, ?_⟩; exact okS) | rw [getD_mapI (ByteArray.empty) (by omega)] | rw [getD_map (ByteArray.empty) (by omega)] | rw [wrapId (by omega) (by omega)] | fail)
  · rw [hA, findP_eq ‹_›, if_pos hs]
  · rw [hA, findP_eq ‹_›, if_neg (by rw [hs]; simp)]
  · rw [hA, findP_end hs]
theorem c_ContainsFunc {g : Nat} {p : ByteArray → Bool} {l : List ByteArray} (hg : ∀ {s : ByteArray}, XPure Tryz.prog g [str s] (bln (p s)) false) (hl : l.length ≤ 1000000000) : XPure Tryz.prog 81 [eS l, .fn (.func g) [] []] (bln (l.any p)) false := by
  refine XPure.body ⟨_, Tryz.func81, rfl, by kernel_rfl⟩ Tryz.func81 rfl (Nat.le_of_ble_eq_true (by rfl)) (pf_of1 rfl) fun env => ?_
  repeat' ((conv => whnf); (fail_if_success (with_reducible show ∃ _, _ ∧ _ ∧ Weak _ _ _)); first | ((with_reducible show guardA _ _ _ _ _ _ ∨ _); first | (refine .inr ?_; (conv => whnf); refine ⟨_, ?_, fun h => rfl, rfl, ?_⟩; ((conv => whnf); first | exact trivial | (refine ⟨?_, trivial⟩; exact okG))) | (refine .inr ?_; (conv => whnf); refine ⟨_, trivial, fun h => ⟨?_, ?_, ?_, rfl⟩, rfl, ?_⟩; (first | exact h | rfl); exact okG; exact okG) | refine .inl ?_) | refine cY ?_ | refine cN ?_ | refine gA ?_ | refine gB ?_ | refine gC ?_ | ((first | refine gsT (fun h => ?_) (fun h => ?_) | refine gsF (fun h => ?_) (fun h => ?_) | refine ⟨fun h => ?_, fun h => ?_⟩) <;> (have hs := h; try simp only [cs, reduceCtorEq, Int.reduceEq, Int.reduceNe, Int.reduceLT, Int.reduceLE, Int.reduceBEq, Int.reduceBNe] at hs)) | (refine .inl ⟨_, _, c_IndexFunc hg hl, ?_⟩) | ((with_reducible show _ ∧ _ ∧ Weak _ _ _); refine ⟨?_, ?_, Weak.go⟩; (omega)) | ((with_reducible show (_ ∧ _ ∧ _) ∧ _); refine ⟨⟨by kernel_rfl, by kernel_rfl, by rfl⟩, ?_⟩) | ((with_reducible show AV.pf _ = true ∧ _); refine pfA ?_) | (refine ⟨rfl, ?_, ?_, ?_⟩; exact okG; exact okG) | ((with_reducible show (_ ∨ _) ∧ _ ∧ retA _ _ _ _ _); refine ⟨?_, rfl, ?_⟩; (first | exact .inr rfl | exact .inl rfl)) | ((with_reducible show _ = _ ∧ _ = false ∧ _ = _); refine ⟨?_, rfl, rfl⟩; try (first | rfl | (conv => lhs; whnf))) | ((with_reducible show LeqD _ _); try (first | exact okN | (first | rfl | (conv => lhs; whnf))); done) | ((with_reducible show _ = _ ∧ (_ → _)); refine ⟨?_, ?_⟩; try (first | rfl | (conv => lhs; whnf))) | exact fun h => h | exact fun _ => rfl | refine ⟨rfl, ?_⟩ | (refine ⟨Nat.le_of_ble_eq_true rfl, ?_⟩) | (refine ⟨?_, ?_, ?_⟩; exact okS; exact okS) | (refine ⟨?_, ?_⟩; exact okS) | rw [wrapId (by omega) (by omega)] | fail)
  rw [findP_any]

/-- What a node's parts are, but for what stands ahead of it. -/
def nodeIn (n : Node) : Bool :=
  isName n.target && decide (n.needs.length ≤ 65) && decide (n.recipe.length ≤ 64) && (n.has || decide (n.recipe.length = 0)) && !(n.recipe.any fun s => decide ((s.size : Int) > 65536)) &&
    (bif beqS n.source .empty then beqS n.stem .empty else decide (0 < n.needs.length) && beqS (n.needs.getD 0 .empty) n.source && decide (n.stem.size ≤ 64))
/-- Needs: names, all other ones, each of which p says. -/
def needsOk (p : ByteArray → Bool) (done : List ByteArray) : List ByteArray → Bool
  | [] => true
  | x :: r => isName x && !hasS done x && p x && needsOk p (done ++ [x]) r
theorem take_succD {l : List ByteArray} {i : Nat} (h : i < l.length) : l.take (i + 1) = l.take i ++ [l.getD i .empty] := by
  rw [List.take_succ_eq_append_getElem h]; simp [List.getD_eq_getElem?_getD, h]
theorem needsOk_step {p : ByteArray → Bool} {l : List ByteArray} {i : Nat} (h : i < l.length) : needsOk p (l.take i) (l.drop i) = (isName (l.getD i .empty) && !hasS (l.take i) (l.getD i .empty) && p (l.getD i .empty) && needsOk p (l.take (i + 1)) (l.drop (i + 1))) := by
  rw [drop_getD .empty h, take_succD h]; rfl
theorem needsOk_no {p : ByteArray → Bool} {l : List ByteArray} {i : Nat} (h : i < l.length) (h1 : isName (l.getD i .empty) = false ∨ hasS (l.take i) (l.getD i .empty) = true ∨ p (l.getD i .empty) = false) : needsOk p (l.take i) (l.drop i) = false := by
  rw [needsOk_step h]
  rcases h1 with h1 | h1 | h1 <;> rw [h1] <;> simp
theorem needsOk_yes {p : ByteArray → Bool} {l : List ByteArray} {i : Nat} (h : i < l.length) (h1 : isName (l.getD i .empty) = true) (h2 : hasS (l.take i) (l.getD i .empty) = false) (h3 : p (l.getD i .empty) = true) : needsOk p (l.take i) (l.drop i) = needsOk p (l.take (i + 1)) (l.drop (i + 1)) := by
  rw [needsOk_step h, h1, h2, h3]; rfl
theorem needsOk_end {p : ByteArray → Bool} {l : List ByteArray} {i : Nat} (h : ¬ i < l.length) : needsOk p (l.take i) (l.drop i) = true := by
  rw [List.drop_eq_nil_of_le (by omega)]; rfl
def nodeOk (n : Node) : Bool := nodeIn n && needsOk (fun x => !beqS x n.target) [] n.needs
theorem take_eS (l : List ByteArray) (n : Nat) : AV.sl 1 (((l.map fun x => .v (.string x)).take n).drop 0) = eS (l.take n) := by
  show AV.sl 1 (((l.map fun x => AV.v (.string x)).take n).drop 0) = AV.sl 1 ((l.take n).map _)
  rw [List.drop_zero, List.map_take]
theorem c_ref03_HasT {l : List ByteArray} {n : Nat} {s : ByteArray} (hl : l.length ≤ 1000000000) : XPure Tryz.prog 16 [.sl 1 (((l.map fun x => .v (.string x)).take n).drop 0), .v (.string s)] (.v (.bool (hasS (l.take n) s))) false := by
  rw [take_eS]; exact c_ref03_Has (by rw [List.length_take]; omega)
theorem c_ContainsT {l : List ByteArray} {n : Nat} {s : ByteArray} (hl : l.length ≤ 1000000000) : XPure Tryz.prog 46 [.sl 1 (((l.map fun x => .v (.string x)).take n).drop 0), .v (.string s)] (.v (.bool (hasS (l.take n) s))) false := by
  rw [take_eS]; exact c_Contains (by rw [List.length_take]; omega)
def SzL (l : List ByteArray) : Prop := l.length ≤ 1000000000 ∧ ∀ x ∈ l, x.size ≤ 140737488355328
theorem SzL.at {l : List ByteArray} (h : SzL l) {i : Nat} (hi : i < l.length) : (l.getD i .empty).size ≤ 140737488355328 :=
  h.2 _ (by simp [List.getD_eq_getElem?_getD, hi])
structure SzN (n : Node) : Prop where
  target : n.target.size ≤ 140737488355328
  needs : SzL n.needs
  recipe : SzL n.recipe
theorem nodeIn_iff {n : Node} : nodeIn n = true ↔ isName n.target = true ∧ n.needs.length ≤ 65 ∧ n.recipe.length ≤ 64 ∧ (n.has = true ∨ n.recipe.length = 0) ∧ (n.recipe.any fun s => decide ((s.size : Int) > 65536)) = false ∧
    ((n.source = .empty ∧ n.stem = .empty) ∨ (n.source ≠ .empty ∧ 0 < n.needs.length ∧ n.needs.getD 0 .empty = n.source ∧ n.stem.size ≤ 64)) := by
  unfold nodeIn
  cases h : beqS n.source .empty with
  | true =>
    have := beqS_iff.1 h
    simp [beqS_iff, this, and_assoc]
  | false =>
    have := beqS_no.1 h
    simp [beqS_iff, this, and_assoc]
end Go.Proofs.YtepdiooaoegpfaaGreatDoor.Fx
end
section
/- Plans. Conditions: those in each statement. -/
namespace Go.Proofs.YtepdiooaoegpfaaGreatDoor.Fx
open Go Go.Proofs Go.Ev Go.RowKit
set_option maxRecDepth 100000
set_option maxHeartbeats 1600000
set_option linter.unusedSimpArgs false
set_option linter.unusedVariables false
def mOf (l : List ByteArray) : List (ByteArray × AV) := l.map fun s => (s, i64 1)
theorem getM_mOf : ∀ (l : List ByteArray) (s : ByteArray), getM (mOf l) s = if hasS l s then some (i64 1) else none
  | [], _ => rfl
  | x :: l, s => by
    show (if s = x then some (i64 1) else getM (mOf l) s) = if (beqS x s || hasS l s) = true then some (i64 1) else none
    by_cases h : s = x
    · rw [if_pos h, beqS_iff.2 h.symm]; rfl
    · rw [if_neg h, beqS_no.2 (fun e => h e.symm), Bool.false_or]; exact getM_mOf l s
theorem getM_some {l : List ByteArray} {s : ByteArray} {x : AV} (h : getM (mOf l) s = some x) : x = i64 1 ∧ hasS l s = true := by
  rw [getM_mOf] at h
  split at h
  · rename_i e; exact ⟨(Option.some.inj h).symm, e⟩
  · cases h
theorem getM_none {l : List ByteArray} {s : ByteArray} (h : getM (mOf l) s = none) : hasS l s = false := by
  rw [getM_mOf] at h
  split at h
  · cases h
  · rename_i e; simpa using e
theorem setM_mOf : ∀ (l : List ByteArray) (s : ByteArray), hasS l s = false → setM (mOf l) s (i64 1) = mOf (l ++ [s])
  | [], _, _ => rfl
  | x :: l, s, h => by
    have h' : beqS x s = false ∧ hasS l s = false := by simpa [hasS] using h
    show (if s = x then (s, i64 1) :: mOf l else (x, i64 1) :: setM (mOf l) s (i64 1)) = (x, i64 1) :: mOf (l ++ [s])
    rw [if_neg (fun e => beqS_no.1 h'.1 e.symm), setM_mOf l s h'.2]
def rightN (ahead : List ByteArray) (n : Node) : Bool := nodeIn n && !hasS ahead n.target && needsOk (hasS ahead) [] n.needs
theorem errIf_0 {b : Bool} : errIf b 3 = 0 ↔ b = true := by cases b <;> simp [errIf]
theorem rightN_last {ahead : List ByteArray} {n : Node} (h1 : isName n.target = true ∧ n.needs.length ≤ 65 ∧ n.recipe.length ≤ 64 ∧ (n.has = true ∨ n.recipe.length = 0)) (h2 : hasS ahead n.target = false) (h3 : needsOk (hasS ahead) [] n.needs = true) (h4 : (n.recipe.any fun s => decide ((s.size : Int) > 65536)) = false) :
    rightN ahead n = bif beqS n.source .empty then beqS n.stem .empty else decide (0 < n.needs.length) && beqS (n.needs.getD 0 .empty) n.source && decide (n.stem.size ≤ 64) := by
  obtain ⟨q1, q2, q3, q4⟩ := h1
  have e : (n.has || decide (n.recipe.length = 0)) = true := by rcases q4 with q | q <;> simp [q]
  unfold rightN nodeIn
  rw [q1, h2, h3, h4, e, decide_eq_true q2, decide_eq_true q3]
  simp
theorem rightN_any {ahead : List ByteArray} {n : Node} (h4 : (n.recipe.any fun s => decide ((s.size : Int) > 65536)) = true) : rightN ahead n = false := by
  unfold rightN nodeIn; rw [h4]; simp
theorem c_right {n : Node} {ahead : List ByteArray} {env : List Bx} {k : Nat} (he : env[k]? = some (.map (mOf ahead))) (hz : SzN n) :
    XCalls Tryz.prog 64 [eN n, .mx k] env fun r ow env' => r = bln (rightN ahead n) ∧ ow = false ∧ env' = env := by
  have hn1 := hz.needs.1
  have hn2 := hz.recipe.1
  have hE0 : ByteArray.empty.size = 0 := rfl
  have hkk : k < env.length := (List.getElem?_eq_some_iff.1 he).1
  refine XCalls.body Tryz.func64 rfl (Nat.le_of_ble_eq_true (by rfl)) ?_
  repeat' ((conv => whnf); first | ((with_reducible show (∀ _ : AV, _) ∧ _); refine ⟨fun x hx => ?_, fun hx => ?_⟩; (obtain ⟨rfl, hx⟩ := getM_some hx)) | ((with_reducible show guardA _ _ _ _ _ _ ∨ _); first | (refine .inr ?_; (conv => whnf); refine ⟨_, ?_, fun h => rfl, rfl, ?_⟩; ((conv => whnf); first | exact trivial | (refine ⟨?_, trivial⟩; exact okG))) | (refine .inr ?_; (conv => whnf); refine ⟨_, trivial, fun h => ⟨?_, ?_, ?_, rfl⟩, rfl, ?_⟩; (first | exact h | rfl); exact okG; exact okG) | refine .inl ?_) | refine cY ?_ | refine cN ?_ | refine gA ?_ | refine gB ?_ | refine gC ?_ | ((first | refine gsT (fun h => ?_) (fun h => ?_) | refine gsF (fun h => ?_) (fun h => ?_) | refine ⟨fun h => ?_, fun h => ?_⟩) <;> (have hs := h; try simp only [cs, reduceCtorEq, Int.reduceEq, Int.reduceNe, Int.reduceLT, Int.reduceLE, Int.reduceBEq, Int.reduceBNe] at hs)) | (refine .inl ⟨_, _, c_names_Check hz.target, ?_⟩) | ((with_reducible show _ ∧ _ ∧ Weak _ _ _); refine ⟨?_, ?_, Weak.go⟩; (omega)) | ((refine ⟨_, mapOf_mx he, ?_⟩)) | ((with_reducible show (_ ∧ _ ∧ _) ∧ _); refine ⟨⟨by kernel_rfl, by kernel_rfl, by rfl⟩, ?_⟩) | ((with_reducible show AV.pf _ = true ∧ _); refine pfA ?_) | (refine ⟨rfl, ?_, ?_, ?_⟩; exact okG; exact okG) | ((with_reducible show (_ ∨ _) ∧ _ ∧ retA _ _ _ _ _); refine ⟨?_, rfl, ?_⟩; (first | exact .inr rfl | exact .inl rfl)) | ((with_reducible show _ = _ ∧ _ = false ∧ _ = _); refine ⟨?_, rfl, rfl⟩; try (first | rfl | (conv => lhs; whnf))) | ((with_reducible show LeqD _ _); try (first | exact okN | (first | rfl | (conv => lhs; whnf))); done) | ((with_reducible show _ = _ ∧ (_ → _)); refine ⟨?_, ?_⟩; try (first | rfl | (conv => lhs; whnf))) | exact fun h => h | exact fun _ => rfl | refine ⟨rfl, ?_⟩ | (refine ⟨Nat.le_of_ble_eq_true rfl, ?_⟩) | (refine ⟨?_, ?_, ?_⟩; exact okS; exact okS) | (refine ⟨?_, ?_⟩; exact okS) | rw [wrapId (by omega) (by omega)] | fail)
  all_goals try (have e : rightN ahead n = false := by rw [← Bool.not_eq_true]; simp only [rightN, Bool.and_eq_true, nodeIn_iff, errIf_0, Bool.not_eq_true'] at *; grind)
  all_goals try (rw [e])
  all_goals replace hx := getM_none ‹_›
  all_goals have hF : isName n.target = true ∧ n.needs.length ≤ 65 ∧ n.recipe.length ≤ 64 ∧ (n.has = true ∨ n.recipe.length = 0) := by simp only [errIf_0, cs, reduceCtorEq, Int.reduceEq, Int.reduceNe, Int.reduceLT, Int.reduceLE, Int.reduceBEq, Int.reduceBNe] at *; grind
  all_goals clear h hs
  all_goals refine XW.countL n.needs.length [1, 2, 42, 43] (fun i => [(44, i64 i)]) (fun _ => []) (fun _ => [.cells (eN n).leaves []]) (fun i => needsOk (hasS ahead) [] n.needs = needsOk (hasS ahead) (n.needs.take i) (n.needs.drop i)) Weak.go rfl ?_
  all_goals
    intro i hi hA
    refine codeS ?_
    repeat' ((conv => whnf); first | ((with_reducible show (∀ _ : AV, _) ∧ _); refine ⟨fun x hx => ?_, fun hx => ?_⟩; (obtain ⟨rfl, hx⟩ := getM_some hx)) | ((with_reducible show guardA _ _ _ _ _ _ ∨ _); first | (refine .inr ?_; (conv => whnf); refine ⟨_, ?_, fun h => rfl, rfl, ?_⟩; ((conv => whnf); first | exact trivial | (refine ⟨?_, trivial⟩; exact okG))) | (refine .inr ?_; (conv => whnf); refine ⟨_, trivial, fun h => ⟨?_, ?_, ?_, rfl⟩, rfl, ?_⟩; (first | exact h | rfl); exact okG; exact okG) | refine .inl ?_) | refine cY ?_ | refine cN ?_ | refine gA ?_ | refine gB ?_ | refine gC ?_ | ((first | refine gsT (fun h => ?_) (fun h => ?_) | refine gsF (fun h => ?_) (fun h => ?_) | refine ⟨fun h => ?_, fun h => ?_⟩) <;> (have hs := h; try simp only [cs, reduceCtorEq, Int.reduceEq, Int.reduceNe, Int.reduceLT, Int.reduceLE, Int.reduceBEq, Int.reduceBNe] at hs)) | (refine .inl ⟨_, _, c_names_Check (hz.needs.at (by omega)), ?_⟩) | (refine .inl ⟨_, _, c_ContainsT hn1, ?_⟩) | ((with_reducible show _ ∧ _ ∧ Weak _ _ _); refine ⟨?_, ?_, Weak.go⟩; (omega)) | refine XW.dr (m := 20) ?_ | (refine ⟨_, _, c_names_Check (hz.needs.at (by omega)), ?_⟩) | (refine ⟨_, _, c_ContainsT hn1, ?_⟩) | ((refine ⟨_, mapOf_mx he, ?_⟩)) | ((with_reducible show (_ ∧ _ ∧ _) ∧ _); refine ⟨⟨by kernel_rfl, by kernel_rfl, by rfl⟩, ?_⟩) | ((with_reducible show AV.pf _ = true ∧ _); refine pfA ?_) | (refine ⟨rfl, ?_, ?_, ?_⟩; exact okG; exact okG) | ((with_reducible show (_ ∨ _) ∧ _ ∧ retA _ _ _ _ _); refine ⟨?_, rfl, ?_⟩; (first | exact .inr rfl | exact .inl rfl)) | ((with_reducible show _ = _ ∧ _ = false ∧ _ = _); refine ⟨?_, rfl, rfl⟩; try (first | rfl | (conv => lhs; whnf))) | ((with_reducible show LeqD _ _); try (first | exact okN | (first | rfl | (conv => lhs; whnf))); done) | ((with_reducible show _ = _ ∧ (_ → _)); refine ⟨?_, ?_⟩; try (first | rfl | (conv => lhs; whnf))) | exact fun h => h | exact fun _ => rfl | refine ⟨rfl, ?_⟩ | (refine ⟨Nat.le_of_ble_eq_true rfl, ?_⟩) | (refine ⟨?_, ?_, ?_⟩; exact okS; exact okS) | (refine ⟨?_, ?_⟩; exact okS) | rw [getD_mapI (ByteArray.empty) (by omega)] | rw [getD_map (ByteArray.empty) (by omega)] | rw [wrapId (by omega) (by omega)] | fail)
    all_goals try (have hi' : i < n.needs.length := by assumption)
    all_goals try simp only [cs, reduceCtorEq, Int.reduceEq, Int.reduceNe, Int.reduceLT, Int.reduceLE, Int.reduceBEq, Int.reduceBNe, errIf_0] at hs
    all_goals try (replace hx := getM_none ‹_›)
    all_goals try (have e : rightN ahead n = false := by unfold rightN; rw [hA, needsOk_no hi' (by simp only [cs, reduceCtorEq, Int.reduceEq, Int.reduceNe, Int.reduceLT, Int.reduceLE, Int.reduceBEq, Int.reduceBNe, errIf_0] at *; grind), Bool.and_false])
    all_goals try (rw [e])
    all_goals try exact hA.trans (needsOk_yes hi' (by grind) (by grind) (by grind))
    have hN : needsOk (hasS ahead) [] n.needs = true := by rw [hA, needsOk_end hs]
    repeat' ((conv => whnf); (fail_if_success (with_reducible show ∃ _, _ ∧ _ ∧ Weak _ _ _)); first | ((with_reducible show guardA _ _ _ _ _ _ ∨ _); first | (refine .inr ?_; (conv => whnf); refine ⟨_, ?_, fun h => rfl, rfl, ?_⟩; ((conv => whnf); first | exact trivial | (refine ⟨?_, trivial⟩; exact okG))) | (refine .inr ?_; (conv => whnf); refine ⟨_, trivial, fun h => ⟨?_, ?_, ?_, rfl⟩, rfl, ?_⟩; (first | exact h | rfl); exact okG; exact okG) | refine .inl ?_) | refine cY ?_ | refine cN ?_ | refine gA ?_ | refine gB ?_ | refine gC ?_ | ((first | refine gsT (fun h => ?_) (fun h => ?_) | refine gsF (fun h => ?_) (fun h => ?_) | refine ⟨fun h => ?_, fun h => ?_⟩) <;> (have hs := h; try simp only [cs, reduceCtorEq, Int.reduceEq, Int.reduceNe, Int.reduceLT, Int.reduceLE, Int.reduceBEq, Int.reduceBNe] at hs)) | (refine .inl ⟨_, _, c_ContainsFunc c_right_1 hn2, ?_⟩) | ((with_reducible show _ ∧ _ ∧ Weak _ _ _); refine ⟨?_, ?_, Weak.go⟩; (omega)) | refine XW.dr (m := 20) ?_ | (refine ⟨_, _, c_ContainsFunc c_right_1 hn2, ?_⟩) | ((with_reducible show (_ ∧ _ ∧ _) ∧ _); refine ⟨⟨by kernel_rfl, by kernel_rfl, by rfl⟩, ?_⟩) | ((with_reducible show AV.pf _ = true ∧ _); refine pfA ?_) | (refine ⟨rfl, ?_, ?_, ?_⟩; exact okG; exact okG) | ((with_reducible show (_ ∨ _) ∧ _ ∧ retA _ _ _ _ _); refine ⟨?_, rfl, ?_⟩; (first | exact .inr rfl | exact .inl rfl)) | ((with_reducible show _ = _ ∧ _ = false ∧ _ = _); refine ⟨?_, rfl, rfl⟩; try (first | rfl | (conv => lhs; whnf))) | ((with_reducible show LeqD _ _); try (first | exact okN | (first | rfl | (conv => lhs; whnf))); done) | ((with_reducible show _ = _ ∧ (_ → _)); refine ⟨?_, ?_⟩; try (first | rfl | (conv => lhs; whnf))) | exact fun h => h | exact fun _ => rfl | refine ⟨rfl, ?_⟩ | (refine ⟨Nat.le_of_ble_eq_true rfl, ?_⟩) | (refine ⟨?_, ?_, ?_⟩; exact okS; exact okS) | (refine ⟨?_, ?_⟩; exact okS) | rw [getD_mapI (ByteArray.empty) (by omega)] | rw [getD_map (ByteArray.empty) (by omega)] | rw [wrapId (by omega) (by omega)] | fail)
    · rw [rightN_any h]
    · rw [rightN_last hF hx hN ‹_›, show beqS n.source .empty = true from h, cond_true]; rfl
    all_goals rw [rightN_last hF hx hN ‹_›, show beqS n.source .empty = false from ‹_›, cond_false]
    all_goals clear hA he hkk
    all_goals refine congrArg (fun b => bln b) ?_
    all_goals rw [Bool.eq_iff_iff]
    all_goals simp only [cs, reduceCtorEq, Int.reduceEq, Int.reduceNe, Int.reduceLT, Int.reduceLE, Int.reduceBEq, Int.reduceBNe] at *
    all_goals grind
theorem rightN_target {ahead : List ByteArray} {n : Node} (h : rightN ahead n = true) : hasS ahead n.target = false := by
  simp only [rightN, Bool.and_eq_true, Bool.not_eq_true'] at h; exact h.1.2
def nodesOk (ahead : List ByteArray) : List Node → Bool
  | [] => true
  | n :: r => rightN ahead n && nodesOk (ahead ++ [n.target]) r
/-- The targets of nodes. -/
def targets (l : List Node) : List ByteArray := l.map Node.target
def goalsOk (all done : List ByteArray) : List ByteArray → Bool
  | [] => true
  | g :: r => hasS all g && !hasS done g && goalsOk all (done ++ [g]) r
def planOk (nodes : List Node) (goals : List ByteArray) : Bool := decide (nodes.length ≤ 256) && decide (1 ≤ goals.length) && decide (goals.length ≤ 512) && nodesOk [] nodes && goalsOk (targets nodes) [] goals
abbrev eP (nodes : List Node) (goals : List ByteArray) : AV := .agg [.sl 10 (nodes.map eN), eS goals]
theorem targets_succ {l : List Node} {i : Nat} (h : i < l.length) : targets (l.take (i + 1)) = targets (l.take i) ++ [(l.getD i default).target] := by
  unfold targets
  rw [List.take_succ_eq_append_getElem h, List.map_append]; simp [List.getD_eq_getElem?_getD, h]
theorem nodesOk_step {l : List Node} {i : Nat} (h : i < l.length) : nodesOk (targets (l.take i)) (l.drop i) = (rightN (targets (l.take i)) (l.getD i default) && nodesOk (targets (l.take (i + 1))) (l.drop (i + 1))) := by
  rw [drop_getD default h, targets_succ h]; rfl
theorem nodesOk_end {l : List Node} {i : Nat} (h : ¬ i < l.length) : nodesOk (targets (l.take i)) (l.drop i) = true := by
  rw [List.drop_eq_nil_of_le (by omega)]; rfl
theorem goalsOk_step {all l : List ByteArray} {i : Nat} (h : i < l.length) : goalsOk all (l.take i) (l.drop i) = (hasS all (l.getD i .empty) && !hasS (l.take i) (l.getD i .empty) && goalsOk all (l.take (i + 1)) (l.drop (i + 1))) := by
  rw [drop_getD .empty h, take_succD h]; rfl
theorem goalsOk_end {all l : List ByteArray} {i : Nat} (h : ¬ i < l.length) : goalsOk all (l.take i) (l.drop i) = true := by
  rw [List.drop_eq_nil_of_le (by omega)]; rfl
end Go.Proofs.YtepdiooaoegpfaaGreatDoor.Fx
end
section
/- Words: the document's answer joins them; what commands are. Conditions: those in each statement. -/
namespace Go.Proofs.YtepdiooaoegpfaaGreatDoor.Fx
open Go Go.Proofs Go.Ev Go.RowKit
set_option maxRecDepth 100000
set_option maxHeartbeats 1600000
set_option linter.unusedSimpArgs false
set_option linter.unusedVariables false
theorem c_ref15_blank {c : Int} : XPure Tryz.prog 100 [.v (.int .u8 c)] (bln (c == 32 || c == 9)) false := by
  refine XPure.body ⟨_, Tryz.func100, rfl, by kernel_rfl⟩ Tryz.func100 rfl (Nat.le_of_ble_eq_true (by rfl)) (pf_of1 rfl) fun env => ?_
  repeat' ((conv => whnf); (fail_if_success (with_reducible show ∃ _, _ ∧ _ ∧ Weak _ _ _)); first | ((with_reducible show guardA _ _ _ _ _ _ ∨ _); first | (refine .inr ?_; (conv => whnf); refine ⟨_, ?_, fun h => rfl, rfl, ?_⟩; ((conv => whnf); first | exact trivial | (refine ⟨?_, trivial⟩; exact okG))) | (refine .inr ?_; (conv => whnf); refine ⟨_, trivial, fun h => ⟨?_, ?_, ?_, rfl⟩, rfl, ?_⟩; (first | exact h | rfl); exact okG; exact okG) | refine .inl ?_) | refine cY ?_ | refine cN ?_ | refine gA ?_ | refine gB ?_ | refine gC ?_ | ((first | refine gsT (fun h => ?_) (fun h => ?_) | refine gsF (fun h => ?_) (fun h => ?_) | refine ⟨fun h => ?_, fun h => ?_⟩) <;> (have hs := h; try simp only [cs, reduceCtorEq, Int.reduceEq, Int.reduceNe, Int.reduceLT, Int.reduceLE, Int.reduceBEq, Int.reduceBNe] at hs)) | ((with_reducible show _ ∧ _ ∧ Weak _ _ _); refine ⟨?_, ?_, Weak.go⟩; (omega)) | ((with_reducible show (_ ∧ _ ∧ _) ∧ _); refine ⟨⟨by kernel_rfl, by kernel_rfl, by rfl⟩, ?_⟩) | ((with_reducible show AV.pf _ = true ∧ _); refine pfA ?_) | (refine ⟨rfl, ?_, ?_, ?_⟩; exact okG; exact okG) | ((with_reducible show (_ ∨ _) ∧ _ ∧ retA _ _ _ _ _); refine ⟨?_, rfl, ?_⟩; (first | exact .inr rfl | exact .inl rfl)) | ((with_reducible show _ = _ ∧ _ = false ∧ _ = _); refine ⟨?_, rfl, rfl⟩; try ((conv => lhs; whnf); simp only [Bool.cond_true_left])) | ((with_reducible show LeqD _ _); try (first | exact okN | ((conv => lhs; whnf); simp only [Bool.cond_true_left])); done) | ((with_reducible show _ = _ ∧ (_ → _)); refine ⟨?_, ?_⟩; try ((conv => lhs; whnf); simp only [Bool.cond_true_left])) | exact fun h => h | exact fun _ => rfl | refine ⟨rfl, ?_⟩ | (refine ⟨Nat.le_of_ble_eq_true rfl, ?_⟩) | (refine ⟨?_, ?_, ?_⟩; exact okS; exact okS) | (refine ⟨?_, ?_⟩; exact okS) | rw [wrapId (by omega) (by omega)] | fail)
theorem c_lex_blank {c : Int} : XPure Tryz.prog 84 [.v (.int .u8 c)] (bln (c == 32 || c == 9)) false := by
  refine XPure.body ⟨_, Tryz.func84, rfl, by kernel_rfl⟩ Tryz.func84 rfl (Nat.le_of_ble_eq_true (by rfl)) (pf_of1 rfl) fun env => ?_
  repeat' ((conv => whnf); (fail_if_success (with_reducible show ∃ _, _ ∧ _ ∧ Weak _ _ _)); first | ((with_reducible show guardA _ _ _ _ _ _ ∨ _); first | (refine .inr ?_; (conv => whnf); refine ⟨_, ?_, fun h => rfl, rfl, ?_⟩; ((conv => whnf); first | exact trivial | (refine ⟨?_, trivial⟩; exact okG))) | (refine .inr ?_; (conv => whnf); refine ⟨_, trivial, fun h => ⟨?_, ?_, ?_, rfl⟩, rfl, ?_⟩; (first | exact h | rfl); exact okG; exact okG) | refine .inl ?_) | refine cY ?_ | refine cN ?_ | refine gA ?_ | refine gB ?_ | refine gC ?_ | ((first | refine gsT (fun h => ?_) (fun h => ?_) | refine gsF (fun h => ?_) (fun h => ?_) | refine ⟨fun h => ?_, fun h => ?_⟩) <;> (have hs := h; try simp only [cs, reduceCtorEq, Int.reduceEq, Int.reduceNe, Int.reduceLT, Int.reduceLE, Int.reduceBEq, Int.reduceBNe] at hs)) | ((with_reducible show _ ∧ _ ∧ Weak _ _ _); refine ⟨?_, ?_, Weak.go⟩; (omega)) | ((with_reducible show (_ ∧ _ ∧ _) ∧ _); refine ⟨⟨by kernel_rfl, by kernel_rfl, by rfl⟩, ?_⟩) | ((with_reducible show AV.pf _ = true ∧ _); refine pfA ?_) | (refine ⟨rfl, ?_, ?_, ?_⟩; exact okG; exact okG) | ((with_reducible show (_ ∨ _) ∧ _ ∧ retA _ _ _ _ _); refine ⟨?_, rfl, ?_⟩; (first | exact .inr rfl | exact .inl rfl)) | ((with_reducible show _ = _ ∧ _ = false ∧ _ = _); refine ⟨?_, rfl, rfl⟩; try ((conv => lhs; whnf); simp only [Bool.cond_true_left])) | ((with_reducible show LeqD _ _); try (first | exact okN | ((conv => lhs; whnf); simp only [Bool.cond_true_left])); done) | ((with_reducible show _ = _ ∧ (_ → _)); refine ⟨?_, ?_⟩; try ((conv => lhs; whnf); simp only [Bool.cond_true_left])) | exact fun h => h | exact fun _ => rfl | refine ⟨rfl, ?_⟩ | (refine ⟨Nat.le_of_ble_eq_true rfl, ?_⟩) | (refine ⟨?_, ?_, ?_⟩; exact okS; exact okS) | (refine ⟨?_, ?_⟩; exact okS) | rw [wrapId (by omega) (by omega)] | fail)
theorem c_ref16_writes {op : Int} {dst : ByteArray} {src words : List ByteArray} {st : Int} : XPure Tryz.prog 122 [.agg [i64 op, str dst, eS src, eS words, i64 st]] (bln (decide (1 ≤ op) && decide (op ≤ 5))) false := by
  refine XPure.body ⟨_, Tryz.func122, rfl, by kernel_rfl⟩ Tryz.func122 rfl (Nat.le_of_ble_eq_true (by rfl)) (pf_of1 rfl) fun env => ?_
  repeat' ((conv => whnf); (fail_if_success (with_reducible show ∃ _, _ ∧ _ ∧ Weak _ _ _)); first | ((with_reducible show guardA _ _ _ _ _ _ ∨ _); first | (refine .inr ?_; (conv => whnf); refine ⟨_, ?_, fun h => rfl, rfl, ?_⟩; ((conv => whnf); first | exact trivial | (refine ⟨?_, trivial⟩; exact okG))) | (refine .inr ?_; (conv => whnf); refine ⟨_, trivial, fun h => ⟨?_, ?_, ?_, rfl⟩, rfl, ?_⟩; (first | exact h | rfl); exact okG; exact okG) | refine .inl ?_) | refine cY ?_ | refine cN ?_ | refine gA ?_ | refine gB ?_ | refine gC ?_ | ((first | refine gsT (fun h => ?_) (fun h => ?_) | refine gsF (fun h => ?_) (fun h => ?_) | refine ⟨fun h => ?_, fun h => ?_⟩) <;> (have hs := h; try simp only [cs, reduceCtorEq, Int.reduceEq, Int.reduceNe, Int.reduceLT, Int.reduceLE, Int.reduceBEq, Int.reduceBNe] at hs)) | ((with_reducible show _ ∧ _ ∧ Weak _ _ _); refine ⟨?_, ?_, Weak.go⟩; (omega)) | ((with_reducible show (_ ∧ _ ∧ _) ∧ _); refine ⟨⟨by kernel_rfl, by kernel_rfl, by rfl⟩, ?_⟩) | ((with_reducible show AV.pf _ = true ∧ _); refine pfA ?_) | (refine ⟨rfl, ?_, ?_, ?_⟩; exact okG; exact okG) | ((with_reducible show (_ ∨ _) ∧ _ ∧ retA _ _ _ _ _); refine ⟨?_, rfl, ?_⟩; (first | exact .inr rfl | exact .inl rfl)) | ((with_reducible show _ = _ ∧ _ = false ∧ _ = _); refine ⟨?_, rfl, rfl⟩; try (first | rfl | (conv => lhs; whnf))) | ((with_reducible show LeqD _ _); try (first | exact okN | (first | rfl | (conv => lhs; whnf))); done) | ((with_reducible show _ = _ ∧ (_ → _)); refine ⟨?_, ?_⟩; try (first | rfl | (conv => lhs; whnf))) | exact fun h => h | exact fun _ => rfl | refine ⟨rfl, ?_⟩ | (refine ⟨Nat.le_of_ble_eq_true rfl, ?_⟩) | (refine ⟨?_, ?_, ?_⟩; exact okS; exact okS) | (refine ⟨?_, ?_⟩; exact okS) | rw [wrapId (by omega) (by omega)] | fail)
  · exact congrArg (fun b => bln b) (Bool.cond_false_right ..)
  · exact congrArg (fun b => bln b) (by rw [decide_eq_false (by omega : ¬ 1 ≤ op)]; rfl)
theorem c_cmd_few {l : List ByteArray} : XPure Tryz.prog 187 [eS l] (i64 (if 512 < l.length then 160 else 0)) false := by
  refine XPure.body ⟨_, Tryz.func187, rfl, by kernel_rfl⟩ Tryz.func187 rfl (Nat.le_of_ble_eq_true (by rfl)) (pf_of1 rfl) fun env => ?_
  repeat' ((conv => whnf); (fail_if_success (with_reducible show ∃ _, _ ∧ _ ∧ Weak _ _ _)); first | ((with_reducible show guardA _ _ _ _ _ _ ∨ _); first | (refine .inr ?_; (conv => whnf); refine ⟨_, ?_, fun h => rfl, rfl, ?_⟩; ((conv => whnf); first | exact trivial | (refine ⟨?_, trivial⟩; exact okG))) | (refine .inr ?_; (conv => whnf); refine ⟨_, trivial, fun h => ⟨?_, ?_, ?_, rfl⟩, rfl, ?_⟩; (first | exact h | rfl); exact okG; exact okG) | refine .inl ?_) | refine cY ?_ | refine cN ?_ | refine gA ?_ | refine gB ?_ | refine gC ?_ | ((first | refine gsT (fun h => ?_) (fun h => ?_) | refine gsF (fun h => ?_) (fun h => ?_) | refine ⟨fun h => ?_, fun h => ?_⟩) <;> (have hs := h; try simp only [cs, reduceCtorEq, Int.reduceEq, Int.reduceNe, Int.reduceLT, Int.reduceLE, Int.reduceBEq, Int.reduceBNe] at hs)) | ((with_reducible show _ ∧ _ ∧ Weak _ _ _); refine ⟨?_, ?_, Weak.go⟩; (omega)) | ((with_reducible show (_ ∧ _ ∧ _) ∧ _); refine ⟨⟨by kernel_rfl, by kernel_rfl, by rfl⟩, ?_⟩) | ((with_reducible show AV.pf _ = true ∧ _); refine pfA ?_) | (refine ⟨rfl, ?_, ?_, ?_⟩; exact okG; exact okG) | ((with_reducible show (_ ∨ _) ∧ _ ∧ retA _ _ _ _ _); refine ⟨?_, rfl, ?_⟩; (first | exact .inr rfl | exact .inl rfl)) | ((with_reducible show _ = _ ∧ _ = false ∧ _ = _); refine ⟨?_, rfl, rfl⟩; try (first | rfl | (conv => lhs; whnf))) | ((with_reducible show LeqD _ _); try (first | exact okN | (first | rfl | (conv => lhs; whnf))); done) | ((with_reducible show _ = _ ∧ (_ → _)); refine ⟨?_, ?_⟩; try (first | rfl | (conv => lhs; whnf))) | exact fun h => h | exact fun _ => rfl | refine ⟨rfl, ?_⟩ | (refine ⟨Nat.le_of_ble_eq_true rfl, ?_⟩) | (refine ⟨?_, ?_, ?_⟩; exact okS; exact okS) | (refine ⟨?_, ?_⟩; exact okS) | rw [wrapId (by omega) (by omega)] | fail)
  · rw [if_pos (by omega)]
  · rw [if_neg (by omega)]
theorem c_ref17_Status {e : Int} : XPure Tryz.prog 22 [i64 e] (i64 (if e = 0 then 0 else if e = 171 then 1 else if e = 150 ∨ e = 9 ∨ e = 160 ∨ e = 3 then 2 else if e = 170 then 3 else if e = 21 then 4 else if e = 20 then 5 else if e = 22 then 6 else if e = 23 then 7 else 8)) false := by
  refine XPure.body ⟨_, Tryz.func22, rfl, by kernel_rfl⟩ Tryz.func22 rfl (Nat.le_of_ble_eq_true (by rfl)) (pf_of1 rfl) fun env => ?_
  repeat' ((conv => whnf); (fail_if_success (with_reducible show ∃ _, _ ∧ _ ∧ Weak _ _ _)); first | ((with_reducible show guardA _ _ _ _ _ _ ∨ _); first | (refine .inr ?_; (conv => whnf); refine ⟨_, ?_, fun h => rfl, rfl, ?_⟩; ((conv => whnf); first | exact trivial | (refine ⟨?_, trivial⟩; exact okG))) | (refine .inr ?_; (conv => whnf); refine ⟨_, trivial, fun h => ⟨?_, ?_, ?_, rfl⟩, rfl, ?_⟩; (first | exact h | rfl); exact okG; exact okG) | refine .inl ?_) | refine cY ?_ | refine cN ?_ | refine gA ?_ | refine gB ?_ | refine gC ?_ | ((first | refine gsT (fun h => ?_) (fun h => ?_) | refine gsF (fun h => ?_) (fun h => ?_) | refine ⟨fun h => ?_, fun h => ?_⟩) <;> (have hs := h; try simp only [cs, reduceCtorEq, Int.reduceEq, Int.reduceNe, Int.reduceLT, Int.reduceLE, Int.reduceBEq, Int.reduceBNe] at hs)) | ((with_reducible show _ ∧ _ ∧ Weak _ _ _); refine ⟨?_, ?_, Weak.go⟩; (omega)) | ((with_reducible show (_ ∧ _ ∧ _) ∧ _); refine ⟨⟨by kernel_rfl, by kernel_rfl, by rfl⟩, ?_⟩) | ((with_reducible show AV.pf _ = true ∧ _); refine pfA ?_) | (refine ⟨rfl, ?_, ?_, ?_⟩; exact okG; exact okG) | ((with_reducible show (_ ∨ _) ∧ _ ∧ retA _ _ _ _ _); refine ⟨?_, rfl, ?_⟩; (first | exact .inr rfl | exact .inl rfl)) | ((with_reducible show _ = _ ∧ _ = false ∧ _ = _); refine ⟨?_, rfl, rfl⟩; try (first | rfl | (conv => lhs; whnf))) | ((with_reducible show LeqD _ _); try (first | exact okN | (first | rfl | (conv => lhs; whnf))); done) | ((with_reducible show _ = _ ∧ (_ → _)); refine ⟨?_, ?_⟩; try (first | rfl | (conv => lhs; whnf))) | exact fun h => h | exact fun _ => rfl | refine ⟨rfl, ?_⟩ | (refine ⟨Nat.le_of_ble_eq_true rfl, ?_⟩) | (refine ⟨?_, ?_, ?_⟩; exact okS; exact okS) | (refine ⟨?_, ?_⟩; exact okS) | rw [wrapId (by omega) (by omega)] | fail)
  all_goals refine congrArg i64 ?_
  all_goals grind
theorem c_exec_Status {e : Int} : XPure Tryz.prog 21 [i64 e] (i64 (if e = 0 then 0 else if e = 171 then 1 else if e = 150 ∨ e = 9 ∨ e = 160 ∨ e = 3 then 2 else if e = 170 then 3 else if e = 21 then 4 else if e = 20 then 5 else if e = 22 then 6 else if e = 23 then 7 else 8)) false := by
  refine XPure.body ⟨_, Tryz.func21, rfl, by kernel_rfl⟩ Tryz.func21 rfl (Nat.le_of_ble_eq_true (by rfl)) (pf_of1 rfl) fun env => ?_
  repeat' ((conv => whnf); (fail_if_success (with_reducible show ∃ _, _ ∧ _ ∧ Weak _ _ _)); first | ((with_reducible show guardA _ _ _ _ _ _ ∨ _); first | (refine .inr ?_; (conv => whnf); refine ⟨_, ?_, fun h => rfl, rfl, ?_⟩; ((conv => whnf); first | exact trivial | (refine ⟨?_, trivial⟩; exact okG))) | (refine .inr ?_; (conv => whnf); refine ⟨_, trivial, fun h => ⟨?_, ?_, ?_, rfl⟩, rfl, ?_⟩; (first | exact h | rfl); exact okG; exact okG) | refine .inl ?_) | refine cY ?_ | refine cN ?_ | refine gA ?_ | refine gB ?_ | refine gC ?_ | ((first | refine gsT (fun h => ?_) (fun h => ?_) | refine gsF (fun h => ?_) (fun h => ?_) | refine ⟨fun h => ?_, fun h => ?_⟩) <;> (have hs := h; try simp only [cs, reduceCtorEq, Int.reduceEq, Int.reduceNe, Int.reduceLT, Int.reduceLE, Int.reduceBEq, Int.reduceBNe] at hs)) | ((with_reducible show _ ∧ _ ∧ Weak _ _ _); refine ⟨?_, ?_, Weak.go⟩; (omega)) | ((with_reducible show (_ ∧ _ ∧ _) ∧ _); refine ⟨⟨by kernel_rfl, by kernel_rfl, by rfl⟩, ?_⟩) | ((with_reducible show AV.pf _ = true ∧ _); refine pfA ?_) | (refine ⟨rfl, ?_, ?_, ?_⟩; exact okG; exact okG) | ((with_reducible show (_ ∨ _) ∧ _ ∧ retA _ _ _ _ _); refine ⟨?_, rfl, ?_⟩; (first | exact .inr rfl | exact .inl rfl)) | ((with_reducible show _ = _ ∧ _ = false ∧ _ = _); refine ⟨?_, rfl, rfl⟩; try (first | rfl | (conv => lhs; whnf))) | ((with_reducible show LeqD _ _); try (first | exact okN | (first | rfl | (conv => lhs; whnf))); done) | ((with_reducible show _ = _ ∧ (_ → _)); refine ⟨?_, ?_⟩; try (first | rfl | (conv => lhs; whnf))) | exact fun h => h | exact fun _ => rfl | refine ⟨rfl, ?_⟩ | (refine ⟨Nat.le_of_ble_eq_true rfl, ?_⟩) | (refine ⟨?_, ?_, ?_⟩; exact okS; exact okS) | (refine ⟨?_, ?_⟩; exact okS) | rw [wrapId (by omega) (by omega)] | fail)
  all_goals refine congrArg i64 ?_
  all_goals grind
def opName (op : Int) : ByteArray := if op = 1 then ⟨#[99, 111, 112, 121]⟩ else if op = 2 then ⟨#[99, 111, 110, 99, 97, 116]⟩ else if op = 3 then ⟨#[101, 99, 104, 111, 45, 116, 111]⟩ else if op = 4 then ⟨#[116, 111, 117, 99, 104]⟩ else if op = 5 then ⟨#[114, 101, 109, 111, 118, 101]⟩ else if op = 6 then ⟨#[116, 101, 115, 116, 45, 101, 120, 105, 115, 116, 115]⟩ else if op = 7 then ⟨#[102, 97, 105, 108]⟩ else if op = 8 then ⟨#[115, 97, 121]⟩ else .empty
theorem c_ref16_Name {op : Int} : XPure Tryz.prog 121 [i64 op] (str (opName op)) false := by
  refine XPure.body ⟨_, Tryz.func121, rfl, by kernel_rfl⟩ Tryz.func121 rfl (Nat.le_of_ble_eq_true (by rfl)) (pf_of1 rfl) fun env => ?_
  repeat' ((conv => whnf); (fail_if_success (with_reducible show ∃ _, _ ∧ _ ∧ Weak _ _ _)); first | ((with_reducible show guardA _ _ _ _ _ _ ∨ _); first | (refine .inr ?_; (conv => whnf); refine ⟨_, ?_, fun h => rfl, rfl, ?_⟩; ((conv => whnf); first | exact trivial | (refine ⟨?_, trivial⟩; exact okG))) | (refine .inr ?_; (conv => whnf); refine ⟨_, trivial, fun h => ⟨?_, ?_, ?_, rfl⟩, rfl, ?_⟩; (first | exact h | rfl); exact okG; exact okG) | refine .inl ?_) | refine cY ?_ | refine cN ?_ | refine gA ?_ | refine gB ?_ | refine gC ?_ | ((first | refine gsT (fun h => ?_) (fun h => ?_) | refine gsF (fun h => ?_) (fun h => ?_) | refine ⟨fun h => ?_, fun h => ?_⟩) <;> (have hs := h; try simp only [cs, reduceCtorEq, Int.reduceEq, Int.reduceNe, Int.reduceLT, Int.reduceLE, Int.reduceBEq, Int.reduceBNe] at hs)) | ((with_reducible show _ ∧ _ ∧ Weak _ _ _); refine ⟨?_, ?_, Weak.go⟩; (omega)) | ((with_reducible show (_ ∧ _ ∧ _) ∧ _); refine ⟨⟨by kernel_rfl, by kernel_rfl, by rfl⟩, ?_⟩) | ((with_reducible show AV.pf _ = true ∧ _); refine pfA ?_) | (refine ⟨rfl, ?_, ?_, ?_⟩; exact okG; exact okG) | ((with_reducible show (_ ∨ _) ∧ _ ∧ retA _ _ _ _ _); refine ⟨?_, rfl, ?_⟩; (first | exact .inr rfl | exact .inl rfl)) | ((with_reducible show _ = _ ∧ _ = false ∧ _ = _); refine ⟨?_, rfl, rfl⟩; try (first | rfl | (conv => lhs; whnf))) | ((with_reducible show LeqD _ _); try (first | exact okN | (first | rfl | (conv => lhs; whnf))); done) | ((with_reducible show _ = _ ∧ (_ → _)); refine ⟨?_, ?_⟩; try (first | rfl | (conv => lhs; whnf))) | exact fun h => h | exact fun _ => rfl | refine ⟨rfl, ?_⟩ | (refine ⟨Nat.le_of_ble_eq_true rfl, ?_⟩) | (refine ⟨?_, ?_, ?_⟩; exact okS; exact okS) | (refine ⟨?_, ?_⟩; exact okS) | rw [wrapId (by omega) (by omega)] | fail)
  all_goals refine congrArg str ?_
  all_goals (simp only [opName]; simp_all)
  all_goals rfl
def manyOk (op n : Int) : Bool := if op = 1 then decide (n = 2) else if op = 2 then decide (n ≥ 2) && decide (n ≤ 65) else if op = 3 then decide (n ≥ 1) && decide (n ≤ 513) else if op = 4 ∨ op = 5 ∨ op = 6 then decide (n = 1) else if op = 7 then decide (n ≤ 1) else if op = 8 then decide (n ≤ 512) else false
theorem c_ref16_many {op n : Int} : XPure Tryz.prog 103 [i64 op, i64 n] (bln (manyOk op n)) false := by
  refine XPure.body ⟨_, Tryz.func103, rfl, by kernel_rfl⟩ Tryz.func103 rfl (Nat.le_of_ble_eq_true (by rfl)) (pf_of1 rfl) fun env => ?_
  repeat' ((conv => whnf); (fail_if_success (with_reducible show ∃ _, _ ∧ _ ∧ Weak _ _ _)); first | ((with_reducible show guardA _ _ _ _ _ _ ∨ _); first | (refine .inr ?_; (conv => whnf); refine ⟨_, ?_, fun h => rfl, rfl, ?_⟩; ((conv => whnf); first | exact trivial | (refine ⟨?_, trivial⟩; exact okG))) | (refine .inr ?_; (conv => whnf); refine ⟨_, trivial, fun h => ⟨?_, ?_, ?_, rfl⟩, rfl, ?_⟩; (first | exact h | rfl); exact okG; exact okG) | refine .inl ?_) | refine cY ?_ | refine cN ?_ | refine gA ?_ | refine gB ?_ | refine gC ?_ | ((first | refine gsT (fun h => ?_) (fun h => ?_) | refine gsF (fun h => ?_) (fun h => ?_) | refine ⟨fun h => ?_, fun h => ?_⟩) <;> (have hs := h; try simp only [cs, reduceCtorEq, Int.reduceEq, Int.reduceNe, Int.reduceLT, Int.reduceLE, Int.reduceBEq, Int.reduceBNe] at hs)) | ((with_reducible show _ ∧ _ ∧ Weak _ _ _); refine ⟨?_, ?_, Weak.go⟩; (omega)) | ((with_reducible show (_ ∧ _ ∧ _) ∧ _); refine ⟨⟨by kernel_rfl, by kernel_rfl, by rfl⟩, ?_⟩) | ((with_reducible show AV.pf _ = true ∧ _); refine pfA ?_) | (refine ⟨rfl, ?_, ?_, ?_⟩; exact okG; exact okG) | ((with_reducible show (_ ∨ _) ∧ _ ∧ retA _ _ _ _ _); refine ⟨?_, rfl, ?_⟩; (first | exact .inr rfl | exact .inl rfl)) | ((with_reducible show _ = _ ∧ _ = false ∧ _ = _); refine ⟨?_, rfl, rfl⟩; try (first | rfl | (conv => lhs; whnf))) | ((with_reducible show LeqD _ _); try (first | exact okN | (first | rfl | (conv => lhs; whnf))); done) | ((with_reducible show _ = _ ∧ (_ → _)); refine ⟨?_, ?_⟩; try (first | rfl | (conv => lhs; whnf))) | exact fun h => h | exact fun _ => rfl | refine ⟨rfl, ?_⟩ | (refine ⟨Nat.le_of_ble_eq_true rfl, ?_⟩) | (refine ⟨?_, ?_, ?_⟩; exact okS; exact okS) | (refine ⟨?_, ?_⟩; exact okS) | rw [wrapId (by omega) (by omega)] | fail)
  all_goals refine congrArg (fun b => bln b) ?_
  all_goals (simp only [manyOk, Bool.cond_false_right]; grind)
theorem c_cmd_count {op n : Int} (h8 : 1 ≤ op ∧ op ≤ 8) : XPure Tryz.prog 90 [i64 op, i64 n] (bln (manyOk op n)) false := by
  refine XPure.body ⟨_, Tryz.func90, rfl, by kernel_rfl⟩ Tryz.func90 rfl (Nat.le_of_ble_eq_true (by rfl)) (pf_of1 rfl) fun env => ?_
  repeat' ((conv => whnf); (fail_if_success (with_reducible show ∃ _, _ ∧ _ ∧ Weak _ _ _)); first | ((with_reducible show guardA _ _ _ _ _ _ ∨ _); first | (refine .inr ?_; (conv => whnf); refine ⟨_, ?_, fun h => rfl, rfl, ?_⟩; ((conv => whnf); first | exact trivial | (refine ⟨?_, trivial⟩; exact okG))) | (refine .inr ?_; (conv => whnf); refine ⟨_, trivial, fun h => ⟨?_, ?_, ?_, rfl⟩, rfl, ?_⟩; (first | exact h | rfl); exact okG; exact okG) | refine .inl ?_) | refine cY ?_ | refine cN ?_ | refine gA ?_ | refine gB ?_ | refine gC ?_ | ((first | refine gsT (fun h => ?_) (fun h => ?_) | refine gsF (fun h => ?_) (fun h => ?_) | refine ⟨fun h => ?_, fun h => ?_⟩) <;> (have hs := h; try simp only [cs, reduceCtorEq, Int.reduceEq, Int.reduceNe, Int.reduceLT, Int.reduceLE, Int.reduceBEq, Int.reduceBNe] at hs)) | ((with_reducible show _ ∧ _ ∧ Weak _ _ _); refine ⟨?_, ?_, Weak.go⟩; (omega)) | ((with_reducible show (_ ∧ _ ∧ _) ∧ _); refine ⟨⟨by kernel_rfl, by kernel_rfl, by rfl⟩, ?_⟩) | ((with_reducible show AV.pf _ = true ∧ _); refine pfA ?_) | (refine ⟨rfl, ?_, ?_, ?_⟩; exact okG; exact okG) | ((with_reducible show (_ ∨ _) ∧ _ ∧ retA _ _ _ _ _); refine ⟨?_, rfl, ?_⟩; (first | exact .inr rfl | exact .inl rfl)) | ((with_reducible show _ = _ ∧ _ = false ∧ _ = _); refine ⟨?_, rfl, rfl⟩; try (first | rfl | (conv => lhs; whnf))) | ((with_reducible show LeqD _ _); try (first | exact okN | (first | rfl | (conv => lhs; whnf))); done) | ((with_reducible show _ = _ ∧ (_ → _)); refine ⟨?_, ?_⟩; try (first | rfl | (conv => lhs; whnf))) | exact fun h => h | exact fun _ => rfl | refine ⟨rfl, ?_⟩ | (refine ⟨Nat.le_of_ble_eq_true rfl, ?_⟩) | (refine ⟨?_, ?_, ?_⟩; exact okS; exact okS) | (refine ⟨?_, ?_⟩; exact okS) | rw [wrapId (by omega) (by omega)] | fail)
  all_goals refine congrArg (fun b => bln b) ?_
  all_goals (simp only [manyOk, Bool.cond_false_right]; grind)
def firstE (l : List Int) : Int := match l with
  | [] => 0
  | e :: r => if e = 0 then firstE r else e
theorem filesE_step {l : List ByteArray} {i : Nat} (h : i < l.length) : (l.drop i).all isName = (isName (l.getD i .empty) && (l.drop (i + 1)).all isName) := by
  rw [drop_getD .empty h, List.all_cons]
theorem c_cmd_files {l : List ByteArray} (hl : l.length ≤ 1000000000) (hz : ∀ i, i < l.length → (l.getD i .empty).size ≤ 140737488355328) : XPure Tryz.prog 93 [eS l] (i64 (errIf (l.all isName) 3)) false := by
  refine XPure.body ⟨_, Tryz.func93, rfl, by kernel_rfl⟩ Tryz.func93 rfl (Nat.le_of_ble_eq_true (by rfl)) (pf_of1 rfl) fun env => ?_
  repeat' ((conv => whnf); (fail_if_success (with_reducible show ∃ _, _ ∧ _ ∧ Weak _ _ _)); first | ((with_reducible show guardA _ _ _ _ _ _ ∨ _); first | (refine .inr ?_; (conv => whnf); refine ⟨_, ?_, fun h => rfl, rfl, ?_⟩; ((conv => whnf); first | exact trivial | (refine ⟨?_, trivial⟩; exact okG))) | (refine .inr ?_; (conv => whnf); refine ⟨_, trivial, fun h => ⟨?_, ?_, ?_, rfl⟩, rfl, ?_⟩; (first | exact h | rfl); exact okG; exact okG) | refine .inl ?_) | refine cY ?_ | refine cN ?_ | refine gA ?_ | refine gB ?_ | refine gC ?_ | ((first | refine gsT (fun h => ?_) (fun h => ?_) | refine gsF (fun h => ?_) (fun h => ?_) | refine ⟨fun h => ?_, fun h => ?_⟩) <;> (have hs := h; try simp only [cs, reduceCtorEq, Int.reduceEq, Int.reduceNe, Int.reduceLT, Int.reduceLE, Int.reduceBEq, Int.reduceBNe] at hs)) | ((with_reducible show _ ∧ _ ∧ Weak _ _ _); refine ⟨?_, ?_, Weak.go⟩; (omega)) | ((with_reducible show (_ ∧ _ ∧ _) ∧ _); refine ⟨⟨by kernel_rfl, by kernel_rfl, by rfl⟩, ?_⟩) | ((with_reducible show AV.pf _ = true ∧ _); refine pfA ?_) | (refine ⟨rfl, ?_, ?_, ?_⟩; exact okG; exact okG) | ((with_reducible show (_ ∨ _) ∧ _ ∧ retA _ _ _ _ _); refine ⟨?_, rfl, ?_⟩; (first | exact .inr rfl | exact .inl rfl)) | ((with_reducible show _ = _ ∧ _ = false ∧ _ = _); refine ⟨?_, rfl, rfl⟩; try (first | rfl | (conv => lhs; whnf))) | ((with_reducible show LeqD _ _); try (first | exact okN | (first | rfl | (conv => lhs; whnf))); done) | ((with_reducible show _ = _ ∧ (_ → _)); refine ⟨?_, ?_⟩; try (first | rfl | (conv => lhs; whnf))) | exact fun h => h | exact fun _ => rfl | refine ⟨rfl, ?_⟩ | (refine ⟨Nat.le_of_ble_eq_true rfl, ?_⟩) | (refine ⟨?_, ?_, ?_⟩; exact okS; exact okS) | (refine ⟨?_, ?_⟩; exact okS) | rw [wrapId (by omega) (by omega)] | fail)
  refine XW.countL l.length [6, 7] (fun i => [(8, i64 i)]) (fun _ => []) (fun _ => []) (fun i => l.all isName = (l.drop i).all isName) Weak.go rfl ?_
  intro i hi hA
  refine codeS ?_
  repeat' ((conv => whnf); (fail_if_success (with_reducible show ∃ _, _ ∧ _ ∧ Weak _ _ _)); first | ((with_reducible show guardA _ _ _ _ _ _ ∨ _); first | (refine .inr ?_; (conv => whnf); refine ⟨_, ?_, fun h => rfl, rfl, ?_⟩; ((conv => whnf); first | exact trivial | (refine ⟨?_, trivial⟩; exact okG))) | (refine .inr ?_; (conv => whnf); refine ⟨_, trivial, fun h => ⟨?_, ?_, ?_, rfl⟩, rfl, ?_⟩; (first | exact h | rfl); exact okG; exact okG) | refine .inl ?_) | refine cY ?_ | refine cN ?_ | refine gA ?_ | refine gB ?_ | refine gC ?_ | ((first | refine gsT (fun h => ?_) (fun h => ?_) | refine gsF (fun h => ?_) (fun h => ?_) | refine ⟨fun h => ?_, fun h => ?_⟩) <;> (have hs := h; try simp only [cs, reduceCtorEq, Int.reduceEq, Int.reduceNe, Int.reduceLT, Int.reduceLE, Int.reduceBEq, Int.reduceBNe] at hs)) | (refine .inl ⟨_, _, c_names_Check (hz i (by omega)), ?_⟩) | ((with_reducible show _ ∧ _ ∧ Weak _ _ _); refine ⟨?_, ?_, Weak.go⟩; (omega)) | ((with_reducible show (_ ∧ _ ∧ _) ∧ _); refine ⟨⟨by kernel_rfl, by kernel_rfl, by rfl⟩, ?_⟩) | ((with_reducible show AV.pf _ = true ∧ _); refine pfA ?_) | (refine ⟨rfl, ?_, ?_, ?_⟩; exact okG; exact okG) | ((with_reducible show (_ ∨ _) ∧ _ ∧ retA _ _ _ _ _); refine ⟨?_, rfl, ?_⟩; (first | exact .inr rfl | exact .inl rfl)) | ((with_reducible show _ = _ ∧ _ = false ∧ _ = _); refine ⟨?_, rfl, rfl⟩; try (first | rfl | (conv => lhs; whnf))) | ((with_reducible show LeqD _ _); try (first | exact okN | (first | rfl | (conv => lhs; whnf))); done) | ((with_reducible show _ = _ ∧ (_ → _)); refine ⟨?_, ?_⟩; try (first | rfl | (conv => lhs; whnf))) | exact fun h => h | exact fun _ => rfl | refine ⟨rfl, ?_⟩ | (refine ⟨Nat.le_of_ble_eq_true rfl, ?_⟩) | (refine ⟨?_, ?_, ?_⟩; exact okS; exact okS) | (refine ⟨?_, ?_⟩; exact okS) | rw [getD_mapI (ByteArray.empty) (by omega)] | rw [getD_map (ByteArray.empty) (by omega)] | rw [wrapId (by omega) (by omega)] | fail)
  · have e : isName (l.getD i .empty) = false := by rw [errIf_0] at hs; simpa using hs
    rw [hA, filesE_step ‹_›, e]; rfl
  · rw [hA, filesE_step ‹_›, errIf_0.1 hs, Bool.true_and]
  · rw [hA, List.drop_eq_nil_of_le (by omega)]; rfl
theorem c_ref16_files {op : Int} {dst : ByteArray} {src words : List ByteArray} {st : Int} (hd : dst.size ≤ 140737488355328) (hl : src.length ≤ 1000000000) (hz : ∀ i, i < src.length → (src.getD i .empty).size ≤ 140737488355328) :
    XPure Tryz.prog 105 [.agg [i64 op, str dst, eS src, eS words, i64 st]] (bln ((!(decide (1 ≤ op) && decide (op ≤ 5)) || isName dst) && src.all isName)) false := by
  refine XPure.body ⟨_, Tryz.func105, rfl, by kernel_rfl⟩ Tryz.func105 rfl (Nat.le_of_ble_eq_true (by rfl)) (pf_of1 rfl) fun env => ?_
  repeat' ((conv => whnf); (fail_if_success (with_reducible show ∃ _, _ ∧ _ ∧ Weak _ _ _)); first | ((with_reducible show guardA _ _ _ _ _ _ ∨ _); first | (refine .inr ?_; (conv => whnf); refine ⟨_, ?_, fun h => rfl, rfl, ?_⟩; ((conv => whnf); first | exact trivial | (refine ⟨?_, trivial⟩; exact okG))) | (refine .inr ?_; (conv => whnf); refine ⟨_, trivial, fun h => ⟨?_, ?_, ?_, rfl⟩, rfl, ?_⟩; (first | exact h | rfl); exact okG; exact okG) | refine .inl ?_) | refine cY ?_ | refine cN ?_ | refine gA ?_ | refine gB ?_ | refine gC ?_ | ((first | refine gsT (fun h => ?_) (fun h => ?_) | refine gsF (fun h => ?_) (fun h => ?_) | refine ⟨fun h => ?_, fun h => ?_⟩) <;> (have hs := h; try simp only [cs, reduceCtorEq, Int.reduceEq, Int.reduceNe, Int.reduceLT, Int.reduceLE, Int.reduceBEq, Int.reduceBNe] at hs)) | (refine .inl ⟨_, _, c_ref16_writes, ?_⟩) | (refine .inl ⟨_, _, c_ref02_Name hd, ?_⟩) | ((with_reducible show _ ∧ _ ∧ Weak _ _ _); refine ⟨?_, ?_, Weak.go⟩; (omega)) | ((with_reducible show (_ ∧ _ ∧ _) ∧ _); refine ⟨⟨by kernel_rfl, by kernel_rfl, by rfl⟩, ?_⟩) | ((with_reducible show AV.pf _ = true ∧ _); refine pfA ?_) | (refine ⟨rfl, ?_, ?_, ?_⟩; exact okG; exact okG) | ((with_reducible show (_ ∨ _) ∧ _ ∧ retA _ _ _ _ _); refine ⟨?_, rfl, ?_⟩; (first | exact .inr rfl | exact .inl rfl)) | ((with_reducible show _ = _ ∧ _ = false ∧ _ = _); refine ⟨?_, rfl, rfl⟩; try (first | rfl | (conv => lhs; whnf))) | ((with_reducible show LeqD _ _); try (first | exact okN | (first | rfl | (conv => lhs; whnf))); done) | ((with_reducible show _ = _ ∧ (_ → _)); refine ⟨?_, ?_⟩; try (first | rfl | (conv => lhs; whnf))) | exact fun h => h | exact fun _ => rfl | refine ⟨rfl, ?_⟩ | (refine ⟨Nat.le_of_ble_eq_true rfl, ?_⟩) | (refine ⟨?_, ?_, ?_⟩; exact okS; exact okS) | (refine ⟨?_, ?_⟩; exact okS) | rw [wrapId (by omega) (by omega)] | fail)
  · refine congrArg (fun b => bln b) ?_
    obtain ⟨⟨q1, q2⟩, q3⟩ := hs
    rw [decide_eq_true q1, decide_eq_true q2, q3]; rfl
  all_goals have hF : (!(decide (1 ≤ op) && decide (op ≤ 5)) || isName dst) = true := by (cases h1 : (decide (1 ≤ op) && decide (op ≤ 5)) <;> simp_all)
  all_goals rw [hF, Bool.true_and]
  all_goals refine XW.countL src.length [1] (fun i => [(3, i64 i)]) (fun _ => []) (fun _ => [.cells [i64 op, str dst, eS src, eS words, i64 st] []]) (fun i => src.all isName = (src.drop i).all isName) Weak.go rfl ?_
  all_goals
    intro i hi hA
    refine codeS ?_
    repeat' ((conv => whnf); (fail_if_success (with_reducible show ∃ _, _ ∧ _ ∧ Weak _ _ _)); first | ((with_reducible show guardA _ _ _ _ _ _ ∨ _); first | (refine .inr ?_; (conv => whnf); refine ⟨_, ?_, fun h => rfl, rfl, ?_⟩; ((conv => whnf); first | exact trivial | (refine ⟨?_, trivial⟩; exact okG))) | (refine .inr ?_; (conv => whnf); refine ⟨_, trivial, fun h => ⟨?_, ?_, ?_, rfl⟩, rfl, ?_⟩; (first | exact h | rfl); exact okG; exact okG) | refine .inl ?_) | refine cY ?_ | refine cN ?_ | refine gA ?_ | refine gB ?_ | refine gC ?_ | ((first | refine gsT (fun h => ?_) (fun h => ?_) | refine gsF (fun h => ?_) (fun h => ?_) | refine ⟨fun h => ?_, fun h => ?_⟩) <;> (have hs := h; try simp only [cs, reduceCtorEq, Int.reduceEq, Int.reduceNe, Int.reduceLT, Int.reduceLE, Int.reduceBEq, Int.reduceBNe] at hs)) | (refine .inl ⟨_, _, c_ref02_Name (hz i (by omega)), ?_⟩) | ((with_reducible show _ ∧ _ ∧ Weak _ _ _); refine ⟨?_, ?_, Weak.go⟩; (omega)) | ((with_reducible show (_ ∧ _ ∧ _) ∧ _); refine ⟨⟨by kernel_rfl, by kernel_rfl, by rfl⟩, ?_⟩) | ((with_reducible show AV.pf _ = true ∧ _); refine pfA ?_) | (refine ⟨rfl, ?_, ?_, ?_⟩; exact okG; exact okG) | ((with_reducible show (_ ∨ _) ∧ _ ∧ retA _ _ _ _ _); refine ⟨?_, rfl, ?_⟩; (first | exact .inr rfl | exact .inl rfl)) | ((with_reducible show _ = _ ∧ _ = false ∧ _ = _); refine ⟨?_, rfl, rfl⟩; try (first | rfl | (conv => lhs; whnf))) | ((with_reducible show LeqD _ _); try (first | exact okN | (first | rfl | (conv => lhs; whnf))); done) | ((with_reducible show _ = _ ∧ (_ → _)); refine ⟨?_, ?_⟩; try (first | rfl | (conv => lhs; whnf))) | exact fun h => h | exact fun _ => rfl | refine ⟨rfl, ?_⟩ | (refine ⟨Nat.le_of_ble_eq_true rfl, ?_⟩) | (refine ⟨?_, ?_, ?_⟩; exact okS; exact okS) | (refine ⟨?_, ?_⟩; exact okS) | rw [getD_mapI (ByteArray.empty) (by omega)] | rw [getD_map (ByteArray.empty) (by omega)] | rw [wrapId (by omega) (by omega)] | fail)
    · rw [hA, filesE_step ‹_›, hs]; rfl
    · rw [hA, filesE_step ‹_›, hs, Bool.true_and]
    · rw [hA, List.drop_eq_nil_of_le (by omega)]; rfl
end Go.Proofs.YtepdiooaoegpfaaGreatDoor.Fx
end
section
/- Names without doubles; operations of words. Conditions: those in each statement. -/
namespace Go.Proofs.YtepdiooaoegpfaaGreatDoor.Fx
open Go Go.Proofs Go.Ev Go.RowKit
set_option maxRecDepth 100000
set_option maxHeartbeats 1600000
set_option linter.unusedSimpArgs false
set_option linter.unusedVariables false
def opFrom (w : ByteArray) (i : Nat) : Nat → Int
  | 0 => 0
  | k + 1 => if beqS (opName i) w then i else opFrom w (i + 1) k
theorem c_ref16_op {w : ByteArray} : XPure Tryz.prog 102 [str w] (i64 (opFrom w 1 8)) false := by
  refine XPure.body ⟨_, Tryz.func102, rfl, by kernel_rfl⟩ Tryz.func102 rfl (Nat.le_of_ble_eq_true (by rfl)) (pf_of1 rfl) fun env => ?_
  repeat' ((conv => whnf); (fail_if_success (with_reducible show ∃ _, _ ∧ _ ∧ Weak _ _ _)); first | ((with_reducible show guardA _ _ _ _ _ _ ∨ _); first | (refine .inr ?_; (conv => whnf); refine ⟨_, ?_, fun h => rfl, rfl, ?_⟩; ((conv => whnf); first | exact trivial | (refine ⟨?_, trivial⟩; exact okG))) | (refine .inr ?_; (conv => whnf); refine ⟨_, trivial, fun h => ⟨?_, ?_, ?_, rfl⟩, rfl, ?_⟩; (first | exact h | rfl); exact okG; exact okG) | refine .inl ?_) | refine cY ?_ | refine cN ?_ | refine gA ?_ | refine gB ?_ | refine gC ?_ | ((first | refine gsT (fun h => ?_) (fun h => ?_) | refine gsF (fun h => ?_) (fun h => ?_) | refine ⟨fun h => ?_, fun h => ?_⟩) <;> (have hs := h; try simp only [cs, reduceCtorEq, Int.reduceEq, Int.reduceNe, Int.reduceLT, Int.reduceLE, Int.reduceBEq, Int.reduceBNe] at hs)) | ((with_reducible show _ ∧ _ ∧ Weak _ _ _); refine ⟨?_, ?_, Weak.go⟩; (omega)) | ((with_reducible show (_ ∧ _ ∧ _) ∧ _); refine ⟨⟨by kernel_rfl, by kernel_rfl, by rfl⟩, ?_⟩) | ((with_reducible show AV.pf _ = true ∧ _); refine pfA ?_) | (refine ⟨rfl, ?_, ?_, ?_⟩; exact okG; exact okG) | ((with_reducible show (_ ∨ _) ∧ _ ∧ retA _ _ _ _ _); refine ⟨?_, rfl, ?_⟩; (first | exact .inr rfl | exact .inl rfl)) | ((with_reducible show _ = _ ∧ _ = false ∧ _ = _); refine ⟨?_, rfl, rfl⟩; try (first | rfl | (conv => lhs; whnf))) | ((with_reducible show LeqD _ _); try (first | exact okN | (first | rfl | (conv => lhs; whnf))); done) | ((with_reducible show _ = _ ∧ (_ → _)); refine ⟨?_, ?_⟩; try (first | rfl | (conv => lhs; whnf))) | exact fun h => h | exact fun _ => rfl | refine ⟨rfl, ?_⟩ | (refine ⟨Nat.le_of_ble_eq_true rfl, ?_⟩) | (refine ⟨?_, ?_, ?_⟩; exact okS; exact okS) | (refine ⟨?_, ?_⟩; exact okS) | rw [wrapId (by omega) (by omega)] | fail)
  refine XW.countL 8 [0] (fun i => [(3, i64 ((i + 1 : Nat) : Int))]) (fun _ => []) (fun _ => []) (fun i => opFrom w 1 8 = opFrom w (i + 1) (8 - i)) Weak.go rfl ?_
  intro i hi hA
  refine codeS ?_
  repeat' ((conv => whnf); (fail_if_success (with_reducible show ∃ _, _ ∧ _ ∧ Weak _ _ _)); first | ((with_reducible show guardA _ _ _ _ _ _ ∨ _); first | (refine .inr ?_; (conv => whnf); refine ⟨_, ?_, fun h => rfl, rfl, ?_⟩; ((conv => whnf); first | exact trivial | (refine ⟨?_, trivial⟩; exact okG))) | (refine .inr ?_; (conv => whnf); refine ⟨_, trivial, fun h => ⟨?_, ?_, ?_, rfl⟩, rfl, ?_⟩; (first | exact h | rfl); exact okG; exact okG) | refine .inl ?_) | refine cY ?_ | refine cN ?_ | refine gA ?_ | refine gB ?_ | refine gC ?_ | ((first | refine gsT (fun h => ?_) (fun h => ?_) | refine gsF (fun h => ?_) (fun h => ?_) | refine ⟨fun h => ?_, fun h => ?_⟩) <;> (have hs := h; try simp only [cs, reduceCtorEq, Int.reduceEq, Int.reduceNe, Int.reduceLT, Int.reduceLE, Int.reduceBEq, Int.reduceBNe] at hs)) | (refine .inl ⟨_, _, c_ref16_Name, ?_⟩) | ((with_reducible show _ ∧ _ ∧ Weak _ _ _); refine ⟨?_, ?_, Weak.go⟩; (omega)) | ((with_reducible show (_ ∧ _ ∧ _) ∧ _); refine ⟨⟨by kernel_rfl, by kernel_rfl, by rfl⟩, ?_⟩) | ((with_reducible show AV.pf _ = true ∧ _); refine pfA ?_) | (refine ⟨rfl, ?_, ?_, ?_⟩; exact okG; exact okG) | ((with_reducible show (_ ∨ _) ∧ _ ∧ retA _ _ _ _ _); refine ⟨?_, rfl, ?_⟩; (first | exact .inr rfl | exact .inl rfl)) | ((with_reducible show _ = _ ∧ _ = false ∧ _ = _); refine ⟨?_, rfl, rfl⟩; try (first | rfl | (conv => lhs; whnf))) | ((with_reducible show LeqD _ _); try (first | exact okN | (first | rfl | (conv => lhs; whnf))); done) | ((with_reducible show _ = _ ∧ (_ → _)); refine ⟨?_, ?_⟩; try (first | rfl | (conv => lhs; whnf))) | exact fun h => h | exact fun _ => rfl | refine ⟨rfl, ?_⟩ | (refine ⟨Nat.le_of_ble_eq_true rfl, ?_⟩) | (refine ⟨?_, ?_, ?_⟩; exact okS; exact okS) | (refine ⟨?_, ?_⟩; exact okS) | rw [wrapId (by omega) (by omega)] | fail)
  all_goals have e8 : i < 8 → opFrom w (i + 1) (8 - i) = if beqS (opName ((i + 1 : Nat) : Int)) w then ((i + 1 : Nat) : Int) else opFrom w (i + 1 + 1) (8 - (i + 1)) := fun q => by (obtain ⟨k, hk⟩ : ∃ k, 8 - i = k + 1 := ⟨7 - i, by omega⟩; rw [hk, show 8 - (i + 1) = k from by omega]; rfl)
  · rw [hA, e8 (by omega), if_pos h]
  · rw [hA, e8 (by omega), if_neg (by rw [h]; simp)]
  · obtain rfl : i = 8 := by omega
    rw [hA]; rfl
theorem firstE_step {l : List Int} {i : Nat} (h : i < l.length) : firstE (l.drop i) = if l.getD i 0 = 0 then firstE (l.drop (i + 1)) else l.getD i 0 := by
  rw [drop_getD 0 h]; rfl
theorem c_cmd_first {l : List Int} (hl : l.length ≤ 1000000000) : XPure Tryz.prog 181 [.sl 1 (l.map i64)] (i64 (firstE l)) false := by
  refine XPure.body ⟨_, Tryz.func181, rfl, by kernel_rfl⟩ Tryz.func181 rfl (Nat.le_of_ble_eq_true (by rfl)) (pf_of1 rfl) fun env => ?_
  repeat' ((conv => whnf); (fail_if_success (with_reducible show ∃ _, _ ∧ _ ∧ Weak _ _ _)); first | ((with_reducible show guardA _ _ _ _ _ _ ∨ _); first | (refine .inr ?_; (conv => whnf); refine ⟨_, ?_, fun h => rfl, rfl, ?_⟩; ((conv => whnf); first | exact trivial | (refine ⟨?_, trivial⟩; exact okG))) | (refine .inr ?_; (conv => whnf); refine ⟨_, trivial, fun h => ⟨?_, ?_, ?_, rfl⟩, rfl, ?_⟩; (first | exact h | rfl); exact okG; exact okG) | refine .inl ?_) | refine cY ?_ | refine cN ?_ | refine gA ?_ | refine gB ?_ | refine gC ?_ | ((first | refine gsT (fun h => ?_) (fun h => ?_) | refine gsF (fun h => ?_) (fun h => ?_) | refine ⟨fun h => ?_, fun h => ?_⟩) <;> (have hs := h; try simp only [cs, reduceCtorEq, Int.reduceEq, Int.reduceNe, Int.reduceLT, Int.reduceLE, Int.reduceBEq, Int.reduceBNe] at hs)) | ((with_reducible show _ ∧ _ ∧ Weak _ _ _); refine ⟨?_, ?_, Weak.go⟩; (omega)) | ((with_reducible show (_ ∧ _ ∧ _) ∧ _); refine ⟨⟨by kernel_rfl, by kernel_rfl, by rfl⟩, ?_⟩) | ((with_reducible show AV.pf _ = true ∧ _); refine pfA ?_) | (refine ⟨rfl, ?_, ?_, ?_⟩; exact okG; exact okG) | ((with_reducible show (_ ∨ _) ∧ _ ∧ retA _ _ _ _ _); refine ⟨?_, rfl, ?_⟩; (first | exact .inr rfl | exact .inl rfl)) | ((with_reducible show _ = _ ∧ _ = false ∧ _ = _); refine ⟨?_, rfl, rfl⟩; try (first | rfl | (conv => lhs; whnf))) | ((with_reducible show LeqD _ _); try (first | exact okN | (first | rfl | (conv => lhs; whnf))); done) | ((with_reducible show _ = _ ∧ (_ → _)); refine ⟨?_, ?_⟩; try (first | rfl | (conv => lhs; whnf))) | exact fun h => h | exact fun _ => rfl | refine ⟨rfl, ?_⟩ | (refine ⟨Nat.le_of_ble_eq_true rfl, ?_⟩) | (refine ⟨?_, ?_, ?_⟩; exact okS; exact okS) | (refine ⟨?_, ?_⟩; exact okS) | rw [wrapId (by omega) (by omega)] | fail)
  refine XW.countL l.length [5, 6] (fun i => [(7, i64 i)]) (fun _ => []) (fun _ => []) (fun i => firstE l = firstE (l.drop i)) Weak.go rfl ?_
  intro i hi hA
  refine codeS ?_
  repeat' ((conv => whnf); (fail_if_success (with_reducible show ∃ _, _ ∧ _ ∧ Weak _ _ _)); first | ((with_reducible show guardA _ _ _ _ _ _ ∨ _); first | (refine .inr ?_; (conv => whnf); refine ⟨_, ?_, fun h => rfl, rfl, ?_⟩; ((conv => whnf); first | exact trivial | (refine ⟨?_, trivial⟩; exact okG))) | (refine .inr ?_; (conv => whnf); refine ⟨_, trivial, fun h => ⟨?_, ?_, ?_, rfl⟩, rfl, ?_⟩; (first | exact h | rfl); exact okG; exact okG) | refine .inl ?_) | refine cY ?_ | refine cN ?_ | refine gA ?_ | refine gB ?_ | refine gC ?_ | ((first | refine gsT (fun h => ?_) (fun h => ?_) | refine gsF (fun h => ?_) (fun h => ?_) | refine ⟨fun h => ?_, fun h => ?_⟩) <;> (have hs := h; try simp only [cs, reduceCtorEq, Int.reduceEq, Int.reduceNe, Int.reduceLT, Int.reduceLE, Int.reduceBEq, Int.reduceBNe] at hs)) | ((with_reducible show _ ∧ _ ∧ Weak _ _ _); refine ⟨?_, ?_, Weak.go⟩; (omega)) | ((with_reducible show (_ ∧ _ ∧ _) ∧ _); refine ⟨⟨by kernel_rfl, by kernel_rfl, by rfl⟩, ?_⟩) | ((with_reducible show AV.pf _ = true ∧ _); refine pfA ?_) | (refine ⟨rfl, ?_, ?_, ?_⟩; exact okG; exact okG) | ((with_reducible show (_ ∨ _) ∧ _ ∧ retA _ _ _ _ _); refine ⟨?_, rfl, ?_⟩; (first | exact .inr rfl | exact .inl rfl)) | ((with_reducible show _ = _ ∧ _ = false ∧ _ = _); refine ⟨?_, rfl, rfl⟩; try (first | rfl | (conv => lhs; whnf))) | ((with_reducible show LeqD _ _); try (first | exact okN | (first | rfl | (conv => lhs; whnf))); done) | ((with_reducible show _ = _ ∧ (_ → _)); refine ⟨?_, ?_⟩; try (first | rfl | (conv => lhs; whnf))) | exact fun h => h | exact fun _ => rfl | refine ⟨rfl, ?_⟩ | (refine ⟨Nat.le_of_ble_eq_true rfl, ?_⟩) | (refine ⟨?_, ?_, ?_⟩; exact okS; exact okS) | (refine ⟨?_, ?_⟩; exact okS) | rw [getD_mapI ((0 : Int)) (by omega)] | rw [getD_map ((0 : Int)) (by omega)] | rw [wrapId (by omega) (by omega)] | fail)
  · rw [hA, firstE_step (by assumption), if_neg hs]
  · rw [hA, firstE_step (by assumption), if_pos hs]
  · rw [hA, List.drop_eq_nil_of_le (by omega)]; rfl
end Go.Proofs.YtepdiooaoegpfaaGreatDoor.Fx
end
section
/- What commands do, each by itself. Conditions: those in each statement. -/
namespace Go.Proofs.YtepdiooaoegpfaaGreatDoor.Fx
open Go Go.Proofs Go.Ev Go.RowKit
set_option maxRecDepth 100000
set_option maxHeartbeats 1600000
set_option linter.unusedSimpArgs false
set_option linter.unusedVariables false
theorem sz2 {a b : ByteArray} (ha : a.size ≤ 140737488355328) (hb : b.size ≤ 140737488355328) : ∀ i, i < [a, b].length → ([a, b].getD i .empty).size ≤ 140737488355328
  | 0, _ => ha
  | 1, _ => hb
  | i + 2, h => absurd h (by simp)
theorem sz1 {a : ByteArray} (ha : a.size ≤ 140737488355328) : ∀ i, i < [a].length → ([a].getD i .empty).size ≤ 140737488355328
  | 0, _ => ha
  | i + 1, h => absurd h (by simp)
theorem c_copying_right {s d : ByteArray} (hz1 : s.size ≤ 140737488355328) (hz2 : d.size ≤ 140737488355328) : XPure Tryz.prog 171 [.agg [str s, str d]] (i64 (errIf ([d, s].all isName) 3)) false := by
  refine XPure.body ⟨_, Tryz.func171, rfl, by kernel_rfl⟩ Tryz.func171 rfl (Nat.le_of_ble_eq_true (by rfl)) (pf_of1 rfl) fun env => ?_
  repeat' ((conv => whnf); (fail_if_success (with_reducible show ∃ _, _ ∧ _ ∧ Weak _ _ _)); first | ((with_reducible show guardA _ _ _ _ _ _ ∨ _); first | (refine .inr ?_; (conv => whnf); refine ⟨_, ?_, fun h => rfl, rfl, ?_⟩; ((conv => whnf); first | exact trivial | (refine ⟨?_, trivial⟩; exact okG))) | (refine .inr ?_; (conv => whnf); refine ⟨_, trivial, fun h => ⟨?_, ?_, ?_, rfl⟩, rfl, ?_⟩; (first | exact h | rfl); exact okG; exact okG) | refine .inl ?_) | refine cY ?_ | refine cN ?_ | refine gA ?_ | refine gB ?_ | refine gC ?_ | ((first | refine gsT (fun h => ?_) (fun h => ?_) | refine gsF (fun h => ?_) (fun h => ?_) | refine ⟨fun h => ?_, fun h => ?_⟩) <;> (have hs := h; try simp only [cs, reduceCtorEq, Int.reduceEq, Int.reduceNe, Int.reduceLT, Int.reduceLE, Int.reduceBEq, Int.reduceBNe] at hs)) | (refine .inl ⟨_, _, c_cmd_files (l := [d, s]) (Nat.le_of_ble_eq_true rfl) (sz2 hz2 hz1), ?_⟩) | ((with_reducible show _ ∧ _ ∧ Weak _ _ _); refine ⟨?_, ?_, Weak.go⟩; (omega)) | (refine .inl ?_) | ((with_reducible show (_ ∧ _ ∧ _) ∧ _); refine ⟨⟨by kernel_rfl, by kernel_rfl, by rfl⟩, ?_⟩) | ((with_reducible show AV.pf _ = true ∧ _); refine pfA ?_) | (refine ⟨rfl, ?_, ?_, ?_⟩; exact okG; exact okG) | ((with_reducible show (_ ∨ _) ∧ _ ∧ retA _ _ _ _ _); refine ⟨?_, rfl, ?_⟩; (first | exact .inr rfl | exact .inl rfl)) | ((with_reducible show _ = _ ∧ _ = false ∧ _ = _); refine ⟨?_, rfl, rfl⟩; try (first | rfl | (conv => lhs; whnf))) | ((with_reducible show LeqD _ _); try (first | exact okN | (first | rfl | (conv => lhs; whnf))); done) | ((with_reducible show _ = _ ∧ (_ → _)); refine ⟨?_, ?_⟩; try (first | rfl | (conv => lhs; whnf))) | exact fun h => h | exact fun _ => rfl | refine ⟨rfl, ?_⟩ | (refine ⟨Nat.le_of_ble_eq_true rfl, ?_⟩) | (refine ⟨?_, ?_, ?_⟩; exact okS; exact okS) | (refine ⟨?_, ?_⟩; exact okS) | rw [wrapId (by omega) (by omega)] | fail)
theorem c_copying_reads {s d : ByteArray} : XPure Tryz.prog 170 [.agg [str s, str d]] (eS [s]) false := by
  refine XPure.body ⟨_, Tryz.func170, rfl, by kernel_rfl⟩ Tryz.func170 rfl (Nat.le_of_ble_eq_true (by rfl)) (pf_of1 rfl) fun env => ?_
  repeat' ((conv => whnf); (fail_if_success (with_reducible show ∃ _, _ ∧ _ ∧ Weak _ _ _)); first | ((with_reducible show guardA _ _ _ _ _ _ ∨ _); first | (refine .inr ?_; (conv => whnf); refine ⟨_, ?_, fun h => rfl, rfl, ?_⟩; ((conv => whnf); first | exact trivial | (refine ⟨?_, trivial⟩; exact okG))) | (refine .inr ?_; (conv => whnf); refine ⟨_, trivial, fun h => ⟨?_, ?_, ?_, rfl⟩, rfl, ?_⟩; (first | exact h | rfl); exact okG; exact okG) | refine .inl ?_) | refine cY ?_ | refine cN ?_ | refine gA ?_ | refine gB ?_ | refine gC ?_ | ((first | refine gsT (fun h => ?_) (fun h => ?_) | refine gsF (fun h => ?_) (fun h => ?_) | refine ⟨fun h => ?_, fun h => ?_⟩) <;> (have hs := h; try simp only [cs, reduceCtorEq, Int.reduceEq, Int.reduceNe, Int.reduceLT, Int.reduceLE, Int.reduceBEq, Int.reduceBNe] at hs)) | ((with_reducible show _ ∧ _ ∧ Weak _ _ _); refine ⟨?_, ?_, Weak.go⟩; (omega)) | (refine .inl ?_) | ((with_reducible show (_ ∧ _ ∧ _) ∧ _); refine ⟨⟨by kernel_rfl, by kernel_rfl, by rfl⟩, ?_⟩) | ((with_reducible show AV.pf _ = true ∧ _); refine pfA ?_) | (refine ⟨rfl, ?_, ?_, ?_⟩; exact okG; exact okG) | ((with_reducible show (_ ∨ _) ∧ _ ∧ retA _ _ _ _ _); refine ⟨?_, rfl, ?_⟩; (first | exact .inr rfl | exact .inl rfl)) | ((with_reducible show _ = _ ∧ _ = false ∧ _ = _); refine ⟨?_, rfl, rfl⟩; try (first | rfl | (conv => lhs; whnf))) | ((with_reducible show LeqD _ _); try (first | exact okN | (first | rfl | (conv => lhs; whnf))); done) | ((with_reducible show _ = _ ∧ (_ → _)); refine ⟨?_, ?_⟩; try (first | rfl | (conv => lhs; whnf))) | exact fun h => h | exact fun _ => rfl | refine ⟨rfl, ?_⟩ | (refine ⟨Nat.le_of_ble_eq_true rfl, ?_⟩) | (refine ⟨?_, ?_, ?_⟩; exact okS; exact okS) | (refine ⟨?_, ?_⟩; exact okS) | rw [wrapId (by omega) (by omega)] | fail)
theorem c_copying_writes {s d : ByteArray} : XPure Tryz.prog 174 [.agg [str s, str d]] (.tup [str d, bln true]) false := by
  refine XPure.body ⟨_, Tryz.func174, rfl, by kernel_rfl⟩ Tryz.func174 rfl (Nat.le_of_ble_eq_true (by rfl)) (pf_of1 rfl) fun env => ?_
  repeat' ((conv => whnf); (fail_if_success (with_reducible show ∃ _, _ ∧ _ ∧ Weak _ _ _)); first | ((with_reducible show guardA _ _ _ _ _ _ ∨ _); first | (refine .inr ?_; (conv => whnf); refine ⟨_, ?_, fun h => rfl, rfl, ?_⟩; ((conv => whnf); first | exact trivial | (refine ⟨?_, trivial⟩; exact okG))) | (refine .inr ?_; (conv => whnf); refine ⟨_, trivial, fun h => ⟨?_, ?_, ?_, rfl⟩, rfl, ?_⟩; (first | exact h | rfl); exact okG; exact okG) | refine .inl ?_) | refine cY ?_ | refine cN ?_ | refine gA ?_ | refine gB ?_ | refine gC ?_ | ((first | refine gsT (fun h => ?_) (fun h => ?_) | refine gsF (fun h => ?_) (fun h => ?_) | refine ⟨fun h => ?_, fun h => ?_⟩) <;> (have hs := h; try simp only [cs, reduceCtorEq, Int.reduceEq, Int.reduceNe, Int.reduceLT, Int.reduceLE, Int.reduceBEq, Int.reduceBNe] at hs)) | ((with_reducible show _ ∧ _ ∧ Weak _ _ _); refine ⟨?_, ?_, Weak.go⟩; (omega)) | ((with_reducible show (_ ∧ _ ∧ _) ∧ _); refine ⟨⟨by kernel_rfl, by kernel_rfl, by rfl⟩, ?_⟩) | ((with_reducible show AV.pf _ = true ∧ _); refine pfA ?_) | (refine ⟨rfl, ?_, ?_, ?_⟩; exact okG; exact okG) | ((with_reducible show (_ ∨ _) ∧ _ ∧ retA _ _ _ _ _); refine ⟨?_, rfl, ?_⟩; (first | exact .inr rfl | exact .inl rfl)) | ((with_reducible show _ = _ ∧ _ = false ∧ _ = _); refine ⟨?_, rfl, rfl⟩; try (first | rfl | (conv => lhs; whnf))) | ((with_reducible show LeqD _ _); try (first | exact okN | (first | rfl | (conv => lhs; whnf))); done) | ((with_reducible show _ = _ ∧ (_ → _)); refine ⟨?_, ?_⟩; try (first | rfl | (conv => lhs; whnf))) | exact fun h => h | exact fun _ => rfl | refine ⟨rfl, ?_⟩ | (refine ⟨Nat.le_of_ble_eq_true rfl, ?_⟩) | (refine ⟨?_, ?_, ?_⟩; exact okS; exact okS) | (refine ⟨?_, ?_⟩; exact okS) | rw [wrapId (by omega) (by omega)] | fail)
theorem c_joining_writes {d : ByteArray} {l : List ByteArray} : XPure Tryz.prog 179 [.agg [str d, eS l]] (.tup [str d, bln true]) false := by
  refine XPure.body ⟨_, Tryz.func179, rfl, by kernel_rfl⟩ Tryz.func179 rfl (Nat.le_of_ble_eq_true (by rfl)) (pf_of1 rfl) fun env => ?_
  repeat' ((conv => whnf); (fail_if_success (with_reducible show ∃ _, _ ∧ _ ∧ Weak _ _ _)); first | ((with_reducible show guardA _ _ _ _ _ _ ∨ _); first | (refine .inr ?_; (conv => whnf); refine ⟨_, ?_, fun h => rfl, rfl, ?_⟩; ((conv => whnf); first | exact trivial | (refine ⟨?_, trivial⟩; exact okG))) | (refine .inr ?_; (conv => whnf); refine ⟨_, trivial, fun h => ⟨?_, ?_, ?_, rfl⟩, rfl, ?_⟩; (first | exact h | rfl); exact okG; exact okG) | refine .inl ?_) | refine cY ?_ | refine cN ?_ | refine gA ?_ | refine gB ?_ | refine gC ?_ | ((first | refine gsT (fun h => ?_) (fun h => ?_) | refine gsF (fun h => ?_) (fun h => ?_) | refine ⟨fun h => ?_, fun h => ?_⟩) <;> (have hs := h; try simp only [cs, reduceCtorEq, Int.reduceEq, Int.reduceNe, Int.reduceLT, Int.reduceLE, Int.reduceBEq, Int.reduceBNe] at hs)) | ((with_reducible show _ ∧ _ ∧ Weak _ _ _); refine ⟨?_, ?_, Weak.go⟩; (omega)) | ((with_reducible show (_ ∧ _ ∧ _) ∧ _); refine ⟨⟨by kernel_rfl, by kernel_rfl, by rfl⟩, ?_⟩) | ((with_reducible show AV.pf _ = true ∧ _); refine pfA ?_) | (refine ⟨rfl, ?_, ?_, ?_⟩; exact okG; exact okG) | ((with_reducible show (_ ∨ _) ∧ _ ∧ retA _ _ _ _ _); refine ⟨?_, rfl, ?_⟩; (first | exact .inr rfl | exact .inl rfl)) | ((with_reducible show _ = _ ∧ _ = false ∧ _ = _); refine ⟨?_, rfl, rfl⟩; try (first | rfl | (conv => lhs; whnf))) | ((with_reducible show LeqD _ _); try (first | exact okN | (first | rfl | (conv => lhs; whnf))); done) | ((with_reducible show _ = _ ∧ (_ → _)); refine ⟨?_, ?_⟩; try (first | rfl | (conv => lhs; whnf))) | exact fun h => h | exact fun _ => rfl | refine ⟨rfl, ?_⟩ | (refine ⟨Nat.le_of_ble_eq_true rfl, ?_⟩) | (refine ⟨?_, ?_, ?_⟩; exact okS; exact okS) | (refine ⟨?_, ?_⟩; exact okS) | rw [wrapId (by omega) (by omega)] | fail)
theorem c_echoing_writes {d : ByteArray} {l : List ByteArray} : XPure Tryz.prog 186 [.agg [str d, eS l]] (.tup [str d, bln true]) false := by
  refine XPure.body ⟨_, Tryz.func186, rfl, by kernel_rfl⟩ Tryz.func186 rfl (Nat.le_of_ble_eq_true (by rfl)) (pf_of1 rfl) fun env => ?_
  repeat' ((conv => whnf); (fail_if_success (with_reducible show ∃ _, _ ∧ _ ∧ Weak _ _ _)); first | ((with_reducible show guardA _ _ _ _ _ _ ∨ _); first | (refine .inr ?_; (conv => whnf); refine ⟨_, ?_, fun h => rfl, rfl, ?_⟩; ((conv => whnf); first | exact trivial | (refine ⟨?_, trivial⟩; exact okG))) | (refine .inr ?_; (conv => whnf); refine ⟨_, trivial, fun h => ⟨?_, ?_, ?_, rfl⟩, rfl, ?_⟩; (first | exact h | rfl); exact okG; exact okG) | refine .inl ?_) | refine cY ?_ | refine cN ?_ | refine gA ?_ | refine gB ?_ | refine gC ?_ | ((first | refine gsT (fun h => ?_) (fun h => ?_) | refine gsF (fun h => ?_) (fun h => ?_) | refine ⟨fun h => ?_, fun h => ?_⟩) <;> (have hs := h; try simp only [cs, reduceCtorEq, Int.reduceEq, Int.reduceNe, Int.reduceLT, Int.reduceLE, Int.reduceBEq, Int.reduceBNe] at hs)) | ((with_reducible show _ ∧ _ ∧ Weak _ _ _); refine ⟨?_, ?_, Weak.go⟩; (omega)) | ((with_reducible show (_ ∧ _ ∧ _) ∧ _); refine ⟨⟨by kernel_rfl, by kernel_rfl, by rfl⟩, ?_⟩) | ((with_reducible show AV.pf _ = true ∧ _); refine pfA ?_) | (refine ⟨rfl, ?_, ?_, ?_⟩; exact okG; exact okG) | ((with_reducible show (_ ∨ _) ∧ _ ∧ retA _ _ _ _ _); refine ⟨?_, rfl, ?_⟩; (first | exact .inr rfl | exact .inl rfl)) | ((with_reducible show _ = _ ∧ _ = false ∧ _ = _); refine ⟨?_, rfl, rfl⟩; try (first | rfl | (conv => lhs; whnf))) | ((with_reducible show LeqD _ _); try (first | exact okN | (first | rfl | (conv => lhs; whnf))); done) | ((with_reducible show _ = _ ∧ (_ → _)); refine ⟨?_, ?_⟩; try (first | rfl | (conv => lhs; whnf))) | exact fun h => h | exact fun _ => rfl | refine ⟨rfl, ?_⟩ | (refine ⟨Nat.le_of_ble_eq_true rfl, ?_⟩) | (refine ⟨?_, ?_, ?_⟩; exact okS; exact okS) | (refine ⟨?_, ?_⟩; exact okS) | rw [wrapId (by omega) (by omega)] | fail)
theorem c_echoing_reads {d : ByteArray} {l : List ByteArray} : XPure Tryz.prog 182 [.agg [str d, eS l]] (eS []) false := by
  refine XPure.bodyN ⟨_, Tryz.func182, rfl, by kernel_rfl⟩ Tryz.func182 rfl (Nat.le_of_ble_eq_true (by rfl)) (pf_of1 rfl) fun env => ?_
  repeat' ((conv => whnf); (fail_if_success (with_reducible show ∃ _, _ ∧ _ ∧ Weak _ _ _)); first | ((with_reducible show guardA _ _ _ _ _ _ ∨ _); first | (refine .inr ?_; (conv => whnf); refine ⟨_, ?_, fun h => rfl, rfl, ?_⟩; ((conv => whnf); first | exact trivial | (refine ⟨?_, trivial⟩; exact okG))) | (refine .inr ?_; (conv => whnf); refine ⟨_, trivial, fun h => ⟨?_, ?_, ?_, rfl⟩, rfl, ?_⟩; (first | exact h | rfl); exact okG; exact okG) | refine .inl ?_) | refine cY ?_ | refine cN ?_ | refine gA ?_ | refine gB ?_ | refine gC ?_ | ((first | refine gsT (fun h => ?_) (fun h => ?_) | refine gsF (fun h => ?_) (fun h => ?_) | refine ⟨fun h => ?_, fun h => ?_⟩) <;> (have hs := h; try simp only [cs, reduceCtorEq, Int.reduceEq, Int.reduceNe, Int.reduceLT, Int.reduceLE, Int.reduceBEq, Int.reduceBNe] at hs)) | ((with_reducible show _ ∧ _ ∧ Weak _ _ _); refine ⟨?_, ?_, Weak.go⟩; (omega)) | ((with_reducible show (_ ∧ _ ∧ _) ∧ _); refine ⟨⟨by kernel_rfl, by kernel_rfl, by rfl⟩, ?_⟩) | ((with_reducible show AV.pf _ = true ∧ _); refine pfA ?_) | (refine ⟨rfl, ?_, ?_, ?_⟩; exact okG; exact okG) | ((with_reducible show (_ ∨ _) ∧ _ ∧ retA _ _ _ _ _); refine ⟨?_, rfl, ?_⟩; (first | exact .inr rfl | exact .inl rfl)) | ((with_reducible show _ = _ ∧ _ = false ∧ _ = _); refine ⟨?_, rfl, rfl⟩; try (first | rfl | (conv => lhs; whnf))) | ((with_reducible show LeqD _ _); try (first | exact okN | (first | rfl | (conv => lhs; whnf))); done) | ((with_reducible show _ = _ ∧ (_ → _)); refine ⟨?_, ?_⟩; try (first | rfl | (conv => lhs; whnf))) | exact fun h => h | exact fun _ => rfl | refine ⟨rfl, ?_⟩ | (refine ⟨Nat.le_of_ble_eq_true rfl, ?_⟩) | (refine ⟨?_, ?_, ?_⟩; exact okS; exact okS) | (refine ⟨?_, ?_⟩; exact okS) | rw [wrapId (by omega) (by omega)] | fail)
theorem c_touching_writes {d : ByteArray} : XPure Tryz.prog 193 [.agg [str d]] (.tup [str d, bln true]) false := by
  refine XPure.body ⟨_, Tryz.func193, rfl, by kernel_rfl⟩ Tryz.func193 rfl (Nat.le_of_ble_eq_true (by rfl)) (pf_of1 rfl) fun env => ?_
  repeat' ((conv => whnf); (fail_if_success (with_reducible show ∃ _, _ ∧ _ ∧ Weak _ _ _)); first | ((with_reducible show guardA _ _ _ _ _ _ ∨ _); first | (refine .inr ?_; (conv => whnf); refine ⟨_, ?_, fun h => rfl, rfl, ?_⟩; ((conv => whnf); first | exact trivial | (refine ⟨?_, trivial⟩; exact okG))) | (refine .inr ?_; (conv => whnf); refine ⟨_, trivial, fun h => ⟨?_, ?_, ?_, rfl⟩, rfl, ?_⟩; (first | exact h | rfl); exact okG; exact okG) | refine .inl ?_) | refine cY ?_ | refine cN ?_ | refine gA ?_ | refine gB ?_ | refine gC ?_ | ((first | refine gsT (fun h => ?_) (fun h => ?_) | refine gsF (fun h => ?_) (fun h => ?_) | refine ⟨fun h => ?_, fun h => ?_⟩) <;> (have hs := h; try simp only [cs, reduceCtorEq, Int.reduceEq, Int.reduceNe, Int.reduceLT, Int.reduceLE, Int.reduceBEq, Int.reduceBNe] at hs)) | ((with_reducible show _ ∧ _ ∧ Weak _ _ _); refine ⟨?_, ?_, Weak.go⟩; (omega)) | ((with_reducible show (_ ∧ _ ∧ _) ∧ _); refine ⟨⟨by kernel_rfl, by kernel_rfl, by rfl⟩, ?_⟩) | ((with_reducible show AV.pf _ = true ∧ _); refine pfA ?_) | (refine ⟨rfl, ?_, ?_, ?_⟩; exact okG; exact okG) | ((with_reducible show (_ ∨ _) ∧ _ ∧ retA _ _ _ _ _); refine ⟨?_, rfl, ?_⟩; (first | exact .inr rfl | exact .inl rfl)) | ((with_reducible show _ = _ ∧ _ = false ∧ _ = _); refine ⟨?_, rfl, rfl⟩; try (first | rfl | (conv => lhs; whnf))) | ((with_reducible show LeqD _ _); try (first | exact okN | (first | rfl | (conv => lhs; whnf))); done) | ((with_reducible show _ = _ ∧ (_ → _)); refine ⟨?_, ?_⟩; try (first | rfl | (conv => lhs; whnf))) | exact fun h => h | exact fun _ => rfl | refine ⟨rfl, ?_⟩ | (refine ⟨Nat.le_of_ble_eq_true rfl, ?_⟩) | (refine ⟨?_, ?_, ?_⟩; exact okS; exact okS) | (refine ⟨?_, ?_⟩; exact okS) | rw [wrapId (by omega) (by omega)] | fail)
theorem c_touching_reads {d : ByteArray} : XPure Tryz.prog 189 [.agg [str d]] (eS []) false := by
  refine XPure.bodyN ⟨_, Tryz.func189, rfl, by kernel_rfl⟩ Tryz.func189 rfl (Nat.le_of_ble_eq_true (by rfl)) (pf_of1 rfl) fun env => ?_
  repeat' ((conv => whnf); (fail_if_success (with_reducible show ∃ _, _ ∧ _ ∧ Weak _ _ _)); first | ((with_reducible show guardA _ _ _ _ _ _ ∨ _); first | (refine .inr ?_; (conv => whnf); refine ⟨_, ?_, fun h => rfl, rfl, ?_⟩; ((conv => whnf); first | exact trivial | (refine ⟨?_, trivial⟩; exact okG))) | (refine .inr ?_; (conv => whnf); refine ⟨_, trivial, fun h => ⟨?_, ?_, ?_, rfl⟩, rfl, ?_⟩; (first | exact h | rfl); exact okG; exact okG) | refine .inl ?_) | refine cY ?_ | refine cN ?_ | refine gA ?_ | refine gB ?_ | refine gC ?_ | ((first | refine gsT (fun h => ?_) (fun h => ?_) | refine gsF (fun h => ?_) (fun h => ?_) | refine ⟨fun h => ?_, fun h => ?_⟩) <;> (have hs := h; try simp only [cs, reduceCtorEq, Int.reduceEq, Int.reduceNe, Int.reduceLT, Int.reduceLE, Int.reduceBEq, Int.reduceBNe] at hs)) | ((with_reducible show _ ∧ _ ∧ Weak _ _ _); refine ⟨?_, ?_, Weak.go⟩; (omega)) | ((with_reducible show (_ ∧ _ ∧ _) ∧ _); refine ⟨⟨by kernel_rfl, by kernel_rfl, by rfl⟩, ?_⟩) | ((with_reducible show AV.pf _ = true ∧ _); refine pfA ?_) | (refine ⟨rfl, ?_, ?_, ?_⟩; exact okG; exact okG) | ((with_reducible show (_ ∨ _) ∧ _ ∧ retA _ _ _ _ _); refine ⟨?_, rfl, ?_⟩; (first | exact .inr rfl | exact .inl rfl)) | ((with_reducible show _ = _ ∧ _ = false ∧ _ = _); refine ⟨?_, rfl, rfl⟩; try (first | rfl | (conv => lhs; whnf))) | ((with_reducible show LeqD _ _); try (first | exact okN | (first | rfl | (conv => lhs; whnf))); done) | ((with_reducible show _ = _ ∧ (_ → _)); refine ⟨?_, ?_⟩; try (first | rfl | (conv => lhs; whnf))) | exact fun h => h | exact fun _ => rfl | refine ⟨rfl, ?_⟩ | (refine ⟨Nat.le_of_ble_eq_true rfl, ?_⟩) | (refine ⟨?_, ?_, ?_⟩; exact okS; exact okS) | (refine ⟨?_, ?_⟩; exact okS) | rw [wrapId (by omega) (by omega)] | fail)
theorem c_touching_right {d : ByteArray} (hz : d.size ≤ 140737488355328) : XPure Tryz.prog 190 [.agg [str d]] (i64 (errIf ([d].all isName) 3)) false := by
  refine XPure.body ⟨_, Tryz.func190, rfl, by kernel_rfl⟩ Tryz.func190 rfl (Nat.le_of_ble_eq_true (by rfl)) (pf_of1 rfl) fun env => ?_
  repeat' ((conv => whnf); (fail_if_success (with_reducible show ∃ _, _ ∧ _ ∧ Weak _ _ _)); first | ((with_reducible show guardA _ _ _ _ _ _ ∨ _); first | (refine .inr ?_; (conv => whnf); refine ⟨_, ?_, fun h => rfl, rfl, ?_⟩; ((conv => whnf); first | exact trivial | (refine ⟨?_, trivial⟩; exact okG))) | (refine .inr ?_; (conv => whnf); refine ⟨_, trivial, fun h => ⟨?_, ?_, ?_, rfl⟩, rfl, ?_⟩; (first | exact h | rfl); exact okG; exact okG) | refine .inl ?_) | refine cY ?_ | refine cN ?_ | refine gA ?_ | refine gB ?_ | refine gC ?_ | ((first | refine gsT (fun h => ?_) (fun h => ?_) | refine gsF (fun h => ?_) (fun h => ?_) | refine ⟨fun h => ?_, fun h => ?_⟩) <;> (have hs := h; try simp only [cs, reduceCtorEq, Int.reduceEq, Int.reduceNe, Int.reduceLT, Int.reduceLE, Int.reduceBEq, Int.reduceBNe] at hs)) | (refine .inl ⟨_, _, c_cmd_files (l := [d]) (Nat.le_of_ble_eq_true rfl) (sz1 hz), ?_⟩) | ((with_reducible show _ ∧ _ ∧ Weak _ _ _); refine ⟨?_, ?_, Weak.go⟩; (omega)) | (refine .inl ?_) | ((with_reducible show (_ ∧ _ ∧ _) ∧ _); refine ⟨⟨by kernel_rfl, by kernel_rfl, by rfl⟩, ?_⟩) | ((with_reducible show AV.pf _ = true ∧ _); refine pfA ?_) | (refine ⟨rfl, ?_, ?_, ?_⟩; exact okG; exact okG) | ((with_reducible show (_ ∨ _) ∧ _ ∧ retA _ _ _ _ _); refine ⟨?_, rfl, ?_⟩; (first | exact .inr rfl | exact .inl rfl)) | ((with_reducible show _ = _ ∧ _ = false ∧ _ = _); refine ⟨?_, rfl, rfl⟩; try (first | rfl | (conv => lhs; whnf))) | ((with_reducible show LeqD _ _); try (first | exact okN | (first | rfl | (conv => lhs; whnf))); done) | ((with_reducible show _ = _ ∧ (_ → _)); refine ⟨?_, ?_⟩; try (first | rfl | (conv => lhs; whnf))) | exact fun h => h | exact fun _ => rfl | refine ⟨rfl, ?_⟩ | (refine ⟨Nat.le_of_ble_eq_true rfl, ?_⟩) | (refine ⟨?_, ?_, ?_⟩; exact okS; exact okS) | (refine ⟨?_, ?_⟩; exact okS) | rw [wrapId (by omega) (by omega)] | fail)
theorem c_removing_writes {d : ByteArray} : XPure Tryz.prog 198 [.agg [str d]] (.tup [str d, bln true]) false := by
  refine XPure.body ⟨_, Tryz.func198, rfl, by kernel_rfl⟩ Tryz.func198 rfl (Nat.le_of_ble_eq_true (by rfl)) (pf_of1 rfl) fun env => ?_
  repeat' ((conv => whnf); (fail_if_success (with_reducible show ∃ _, _ ∧ _ ∧ Weak _ _ _)); first | ((with_reducible show guardA _ _ _ _ _ _ ∨ _); first | (refine .inr ?_; (conv => whnf); refine ⟨_, ?_, fun h => rfl, rfl, ?_⟩; ((conv => whnf); first | exact trivial | (refine ⟨?_, trivial⟩; exact okG))) | (refine .inr ?_; (conv => whnf); refine ⟨_, trivial, fun h => ⟨?_, ?_, ?_, rfl⟩, rfl, ?_⟩; (first | exact h | rfl); exact okG; exact okG) | refine .inl ?_) | refine cY ?_ | refine cN ?_ | refine gA ?_ | refine gB ?_ | refine gC ?_ | ((first | refine gsT (fun h => ?_) (fun h => ?_) | refine gsF (fun h => ?_) (fun h => ?_) | refine ⟨fun h => ?_, fun h => ?_⟩) <;> (have hs := h; try simp only [cs, reduceCtorEq, Int.reduceEq, Int.reduceNe, Int.reduceLT, Int.reduceLE, Int.reduceBEq, Int.reduceBNe] at hs)) | ((with_reducible show _ ∧ _ ∧ Weak _ _ _); refine ⟨?_, ?_, Weak.go⟩; (omega)) | ((with_reducible show (_ ∧ _ ∧ _) ∧ _); refine ⟨⟨by kernel_rfl, by kernel_rfl, by rfl⟩, ?_⟩) | ((with_reducible show AV.pf _ = true ∧ _); refine pfA ?_) | (refine ⟨rfl, ?_, ?_, ?_⟩; exact okG; exact okG) | ((with_reducible show (_ ∨ _) ∧ _ ∧ retA _ _ _ _ _); refine ⟨?_, rfl, ?_⟩; (first | exact .inr rfl | exact .inl rfl)) | ((with_reducible show _ = _ ∧ _ = false ∧ _ = _); refine ⟨?_, rfl, rfl⟩; try (first | rfl | (conv => lhs; whnf))) | ((with_reducible show LeqD _ _); try (first | exact okN | (first | rfl | (conv => lhs; whnf))); done) | ((with_reducible show _ = _ ∧ (_ → _)); refine ⟨?_, ?_⟩; try (first | rfl | (conv => lhs; whnf))) | exact fun h => h | exact fun _ => rfl | refine ⟨rfl, ?_⟩ | (refine ⟨Nat.le_of_ble_eq_true rfl, ?_⟩) | (refine ⟨?_, ?_, ?_⟩; exact okS; exact okS) | (refine ⟨?_, ?_⟩; exact okS) | rw [wrapId (by omega) (by omega)] | fail)
theorem c_removing_reads {d : ByteArray} : XPure Tryz.prog 194 [.agg [str d]] (eS []) false := by
  refine XPure.bodyN ⟨_, Tryz.func194, rfl, by kernel_rfl⟩ Tryz.func194 rfl (Nat.le_of_ble_eq_true (by rfl)) (pf_of1 rfl) fun env => ?_
  repeat' ((conv => whnf); (fail_if_success (with_reducible show ∃ _, _ ∧ _ ∧ Weak _ _ _)); first | ((with_reducible show guardA _ _ _ _ _ _ ∨ _); first | (refine .inr ?_; (conv => whnf); refine ⟨_, ?_, fun h => rfl, rfl, ?_⟩; ((conv => whnf); first | exact trivial | (refine ⟨?_, trivial⟩; exact okG))) | (refine .inr ?_; (conv => whnf); refine ⟨_, trivial, fun h => ⟨?_, ?_, ?_, rfl⟩, rfl, ?_⟩; (first | exact h | rfl); exact okG; exact okG) | refine .inl ?_) | refine cY ?_ | refine cN ?_ | refine gA ?_ | refine gB ?_ | refine gC ?_ | ((first | refine gsT (fun h => ?_) (fun h => ?_) | refine gsF (fun h => ?_) (fun h => ?_) | refine ⟨fun h => ?_, fun h => ?_⟩) <;> (have hs := h; try simp only [cs, reduceCtorEq, Int.reduceEq, Int.reduceNe, Int.reduceLT, Int.reduceLE, Int.reduceBEq, Int.reduceBNe] at hs)) | ((with_reducible show _ ∧ _ ∧ Weak _ _ _); refine ⟨?_, ?_, Weak.go⟩; (omega)) | ((with_reducible show (_ ∧ _ ∧ _) ∧ _); refine ⟨⟨by kernel_rfl, by kernel_rfl, by rfl⟩, ?_⟩) | ((with_reducible show AV.pf _ = true ∧ _); refine pfA ?_) | (refine ⟨rfl, ?_, ?_, ?_⟩; exact okG; exact okG) | ((with_reducible show (_ ∨ _) ∧ _ ∧ retA _ _ _ _ _); refine ⟨?_, rfl, ?_⟩; (first | exact .inr rfl | exact .inl rfl)) | ((with_reducible show _ = _ ∧ _ = false ∧ _ = _); refine ⟨?_, rfl, rfl⟩; try (first | rfl | (conv => lhs; whnf))) | ((with_reducible show LeqD _ _); try (first | exact okN | (first | rfl | (conv => lhs; whnf))); done) | ((with_reducible show _ = _ ∧ (_ → _)); refine ⟨?_, ?_⟩; try (first | rfl | (conv => lhs; whnf))) | exact fun h => h | exact fun _ => rfl | refine ⟨rfl, ?_⟩ | (refine ⟨Nat.le_of_ble_eq_true rfl, ?_⟩) | (refine ⟨?_, ?_, ?_⟩; exact okS; exact okS) | (refine ⟨?_, ?_⟩; exact okS) | rw [wrapId (by omega) (by omega)] | fail)
theorem c_removing_right {d : ByteArray} (hz : d.size ≤ 140737488355328) : XPure Tryz.prog 195 [.agg [str d]] (i64 (errIf ([d].all isName) 3)) false := by
  refine XPure.body ⟨_, Tryz.func195, rfl, by kernel_rfl⟩ Tryz.func195 rfl (Nat.le_of_ble_eq_true (by rfl)) (pf_of1 rfl) fun env => ?_
  repeat' ((conv => whnf); (fail_if_success (with_reducible show ∃ _, _ ∧ _ ∧ Weak _ _ _)); first | ((with_reducible show guardA _ _ _ _ _ _ ∨ _); first | (refine .inr ?_; (conv => whnf); refine ⟨_, ?_, fun h => rfl, rfl, ?_⟩; ((conv => whnf); first | exact trivial | (refine ⟨?_, trivial⟩; exact okG))) | (refine .inr ?_; (conv => whnf); refine ⟨_, trivial, fun h => ⟨?_, ?_, ?_, rfl⟩, rfl, ?_⟩; (first | exact h | rfl); exact okG; exact okG) | refine .inl ?_) | refine cY ?_ | refine cN ?_ | refine gA ?_ | refine gB ?_ | refine gC ?_ | ((first | refine gsT (fun h => ?_) (fun h => ?_) | refine gsF (fun h => ?_) (fun h => ?_) | refine ⟨fun h => ?_, fun h => ?_⟩) <;> (have hs := h; try simp only [cs, reduceCtorEq, Int.reduceEq, Int.reduceNe, Int.reduceLT, Int.reduceLE, Int.reduceBEq, Int.reduceBNe] at hs)) | (refine .inl ⟨_, _, c_cmd_files (l := [d]) (Nat.le_of_ble_eq_true rfl) (sz1 hz), ?_⟩) | ((with_reducible show _ ∧ _ ∧ Weak _ _ _); refine ⟨?_, ?_, Weak.go⟩; (omega)) | (refine .inl ?_) | ((with_reducible show (_ ∧ _ ∧ _) ∧ _); refine ⟨⟨by kernel_rfl, by kernel_rfl, by rfl⟩, ?_⟩) | ((with_reducible show AV.pf _ = true ∧ _); refine pfA ?_) | (refine ⟨rfl, ?_, ?_, ?_⟩; exact okG; exact okG) | ((with_reducible show (_ ∨ _) ∧ _ ∧ retA _ _ _ _ _); refine ⟨?_, rfl, ?_⟩; (first | exact .inr rfl | exact .inl rfl)) | ((with_reducible show _ = _ ∧ _ = false ∧ _ = _); refine ⟨?_, rfl, rfl⟩; try (first | rfl | (conv => lhs; whnf))) | ((with_reducible show LeqD _ _); try (first | exact okN | (first | rfl | (conv => lhs; whnf))); done) | ((with_reducible show _ = _ ∧ (_ → _)); refine ⟨?_, ?_⟩; try (first | rfl | (conv => lhs; whnf))) | exact fun h => h | exact fun _ => rfl | refine ⟨rfl, ?_⟩ | (refine ⟨Nat.le_of_ble_eq_true rfl, ?_⟩) | (refine ⟨?_, ?_, ?_⟩; exact okS; exact okS) | (refine ⟨?_, ?_⟩; exact okS) | rw [wrapId (by omega) (by omega)] | fail)
theorem c_testing_writes {d : ByteArray} : XPure Tryz.prog 203 [.agg [str d]] (.tup [str .empty, bln false]) false := by
  refine XPure.body ⟨_, Tryz.func203, rfl, by kernel_rfl⟩ Tryz.func203 rfl (Nat.le_of_ble_eq_true (by rfl)) (pf_of1 rfl) fun env => ?_
  repeat' ((conv => whnf); (fail_if_success (with_reducible show ∃ _, _ ∧ _ ∧ Weak _ _ _)); first | ((with_reducible show guardA _ _ _ _ _ _ ∨ _); first | (refine .inr ?_; (conv => whnf); refine ⟨_, ?_, fun h => rfl, rfl, ?_⟩; ((conv => whnf); first | exact trivial | (refine ⟨?_, trivial⟩; exact okG))) | (refine .inr ?_; (conv => whnf); refine ⟨_, trivial, fun h => ⟨?_, ?_, ?_, rfl⟩, rfl, ?_⟩; (first | exact h | rfl); exact okG; exact okG) | refine .inl ?_) | refine cY ?_ | refine cN ?_ | refine gA ?_ | refine gB ?_ | refine gC ?_ | ((first | refine gsT (fun h => ?_) (fun h => ?_) | refine gsF (fun h => ?_) (fun h => ?_) | refine ⟨fun h => ?_, fun h => ?_⟩) <;> (have hs := h; try simp only [cs, reduceCtorEq, Int.reduceEq, Int.reduceNe, Int.reduceLT, Int.reduceLE, Int.reduceBEq, Int.reduceBNe] at hs)) | ((with_reducible show _ ∧ _ ∧ Weak _ _ _); refine ⟨?_, ?_, Weak.go⟩; (omega)) | ((with_reducible show (_ ∧ _ ∧ _) ∧ _); refine ⟨⟨by kernel_rfl, by kernel_rfl, by rfl⟩, ?_⟩) | ((with_reducible show AV.pf _ = true ∧ _); refine pfA ?_) | (refine ⟨rfl, ?_, ?_, ?_⟩; exact okG; exact okG) | ((with_reducible show (_ ∨ _) ∧ _ ∧ retA _ _ _ _ _); refine ⟨?_, rfl, ?_⟩; (first | exact .inr rfl | exact .inl rfl)) | ((with_reducible show _ = _ ∧ _ = false ∧ _ = _); refine ⟨?_, rfl, rfl⟩; try (first | rfl | (conv => lhs; whnf))) | ((with_reducible show LeqD _ _); try (first | exact okN | (first | rfl | (conv => lhs; whnf))); done) | ((with_reducible show _ = _ ∧ (_ → _)); refine ⟨?_, ?_⟩; try (first | rfl | (conv => lhs; whnf))) | exact fun h => h | exact fun _ => rfl | refine ⟨rfl, ?_⟩ | (refine ⟨Nat.le_of_ble_eq_true rfl, ?_⟩) | (refine ⟨?_, ?_, ?_⟩; exact okS; exact okS) | (refine ⟨?_, ?_⟩; exact okS) | rw [wrapId (by omega) (by omega)] | fail)
theorem c_testing_right {d : ByteArray} (hz : d.size ≤ 140737488355328) : XPure Tryz.prog 200 [.agg [str d]] (i64 (errIf ([d].all isName) 3)) false := by
  refine XPure.body ⟨_, Tryz.func200, rfl, by kernel_rfl⟩ Tryz.func200 rfl (Nat.le_of_ble_eq_true (by rfl)) (pf_of1 rfl) fun env => ?_
  repeat' ((conv => whnf); (fail_if_success (with_reducible show ∃ _, _ ∧ _ ∧ Weak _ _ _)); first | ((with_reducible show guardA _ _ _ _ _ _ ∨ _); first | (refine .inr ?_; (conv => whnf); refine ⟨_, ?_, fun h => rfl, rfl, ?_⟩; ((conv => whnf); first | exact trivial | (refine ⟨?_, trivial⟩; exact okG))) | (refine .inr ?_; (conv => whnf); refine ⟨_, trivial, fun h => ⟨?_, ?_, ?_, rfl⟩, rfl, ?_⟩; (first | exact h | rfl); exact okG; exact okG) | refine .inl ?_) | refine cY ?_ | refine cN ?_ | refine gA ?_ | refine gB ?_ | refine gC ?_ | ((first | refine gsT (fun h => ?_) (fun h => ?_) | refine gsF (fun h => ?_) (fun h => ?_) | refine ⟨fun h => ?_, fun h => ?_⟩) <;> (have hs := h; try simp only [cs, reduceCtorEq, Int.reduceEq, Int.reduceNe, Int.reduceLT, Int.reduceLE, Int.reduceBEq, Int.reduceBNe] at hs)) | (refine .inl ⟨_, _, c_cmd_files (l := [d]) (Nat.le_of_ble_eq_true rfl) (sz1 hz), ?_⟩) | ((with_reducible show _ ∧ _ ∧ Weak _ _ _); refine ⟨?_, ?_, Weak.go⟩; (omega)) | (refine .inl ?_) | ((with_reducible show (_ ∧ _ ∧ _) ∧ _); refine ⟨⟨by kernel_rfl, by kernel_rfl, by rfl⟩, ?_⟩) | ((with_reducible show AV.pf _ = true ∧ _); refine pfA ?_) | (refine ⟨rfl, ?_, ?_, ?_⟩; exact okG; exact okG) | ((with_reducible show (_ ∨ _) ∧ _ ∧ retA _ _ _ _ _); refine ⟨?_, rfl, ?_⟩; (first | exact .inr rfl | exact .inl rfl)) | ((with_reducible show _ = _ ∧ _ = false ∧ _ = _); refine ⟨?_, rfl, rfl⟩; try (first | rfl | (conv => lhs; whnf))) | ((with_reducible show LeqD _ _); try (first | exact okN | (first | rfl | (conv => lhs; whnf))); done) | ((with_reducible show _ = _ ∧ (_ → _)); refine ⟨?_, ?_⟩; try (first | rfl | (conv => lhs; whnf))) | exact fun h => h | exact fun _ => rfl | refine ⟨rfl, ?_⟩ | (refine ⟨Nat.le_of_ble_eq_true rfl, ?_⟩) | (refine ⟨?_, ?_, ?_⟩; exact okS; exact okS) | (refine ⟨?_, ?_⟩; exact okS) | rw [wrapId (by omega) (by omega)] | fail)
theorem c_failing_writes {n : Int} : XPure Tryz.prog 208 [.agg [i64 n]] (.tup [str .empty, bln false]) false := by
  refine XPure.body ⟨_, Tryz.func208, rfl, by kernel_rfl⟩ Tryz.func208 rfl (Nat.le_of_ble_eq_true (by rfl)) (pf_of1 rfl) fun env => ?_
  repeat' ((conv => whnf); (fail_if_success (with_reducible show ∃ _, _ ∧ _ ∧ Weak _ _ _)); first | ((with_reducible show guardA _ _ _ _ _ _ ∨ _); first | (refine .inr ?_; (conv => whnf); refine ⟨_, ?_, fun h => rfl, rfl, ?_⟩; ((conv => whnf); first | exact trivial | (refine ⟨?_, trivial⟩; exact okG))) | (refine .inr ?_; (conv => whnf); refine ⟨_, trivial, fun h => ⟨?_, ?_, ?_, rfl⟩, rfl, ?_⟩; (first | exact h | rfl); exact okG; exact okG) | refine .inl ?_) | refine cY ?_ | refine cN ?_ | refine gA ?_ | refine gB ?_ | refine gC ?_ | ((first | refine gsT (fun h => ?_) (fun h => ?_) | refine gsF (fun h => ?_) (fun h => ?_) | refine ⟨fun h => ?_, fun h => ?_⟩) <;> (have hs := h; try simp only [cs, reduceCtorEq, Int.reduceEq, Int.reduceNe, Int.reduceLT, Int.reduceLE, Int.reduceBEq, Int.reduceBNe] at hs)) | ((with_reducible show _ ∧ _ ∧ Weak _ _ _); refine ⟨?_, ?_, Weak.go⟩; (omega)) | ((with_reducible show (_ ∧ _ ∧ _) ∧ _); refine ⟨⟨by kernel_rfl, by kernel_rfl, by rfl⟩, ?_⟩) | ((with_reducible show AV.pf _ = true ∧ _); refine pfA ?_) | (refine ⟨rfl, ?_, ?_, ?_⟩; exact okG; exact okG) | ((with_reducible show (_ ∨ _) ∧ _ ∧ retA _ _ _ _ _); refine ⟨?_, rfl, ?_⟩; (first | exact .inr rfl | exact .inl rfl)) | ((with_reducible show _ = _ ∧ _ = false ∧ _ = _); refine ⟨?_, rfl, rfl⟩; try (first | rfl | (conv => lhs; whnf))) | ((with_reducible show LeqD _ _); try (first | exact okN | (first | rfl | (conv => lhs; whnf))); done) | ((with_reducible show _ = _ ∧ (_ → _)); refine ⟨?_, ?_⟩; try (first | rfl | (conv => lhs; whnf))) | exact fun h => h | exact fun _ => rfl | refine ⟨rfl, ?_⟩ | (refine ⟨Nat.le_of_ble_eq_true rfl, ?_⟩) | (refine ⟨?_, ?_, ?_⟩; exact okS; exact okS) | (refine ⟨?_, ?_⟩; exact okS) | rw [wrapId (by omega) (by omega)] | fail)
theorem c_failing_reads {n : Int} : XPure Tryz.prog 204 [.agg [i64 n]] (eS []) false := by
  refine XPure.bodyN ⟨_, Tryz.func204, rfl, by kernel_rfl⟩ Tryz.func204 rfl (Nat.le_of_ble_eq_true (by rfl)) (pf_of1 rfl) fun env => ?_
  repeat' ((conv => whnf); (fail_if_success (with_reducible show ∃ _, _ ∧ _ ∧ Weak _ _ _)); first | ((with_reducible show guardA _ _ _ _ _ _ ∨ _); first | (refine .inr ?_; (conv => whnf); refine ⟨_, ?_, fun h => rfl, rfl, ?_⟩; ((conv => whnf); first | exact trivial | (refine ⟨?_, trivial⟩; exact okG))) | (refine .inr ?_; (conv => whnf); refine ⟨_, trivial, fun h => ⟨?_, ?_, ?_, rfl⟩, rfl, ?_⟩; (first | exact h | rfl); exact okG; exact okG) | refine .inl ?_) | refine cY ?_ | refine cN ?_ | refine gA ?_ | refine gB ?_ | refine gC ?_ | ((first | refine gsT (fun h => ?_) (fun h => ?_) | refine gsF (fun h => ?_) (fun h => ?_) | refine ⟨fun h => ?_, fun h => ?_⟩) <;> (have hs := h; try simp only [cs, reduceCtorEq, Int.reduceEq, Int.reduceNe, Int.reduceLT, Int.reduceLE, Int.reduceBEq, Int.reduceBNe] at hs)) | ((with_reducible show _ ∧ _ ∧ Weak _ _ _); refine ⟨?_, ?_, Weak.go⟩; (omega)) | ((with_reducible show (_ ∧ _ ∧ _) ∧ _); refine ⟨⟨by kernel_rfl, by kernel_rfl, by rfl⟩, ?_⟩) | ((with_reducible show AV.pf _ = true ∧ _); refine pfA ?_) | (refine ⟨rfl, ?_, ?_, ?_⟩; exact okG; exact okG) | ((with_reducible show (_ ∨ _) ∧ _ ∧ retA _ _ _ _ _); refine ⟨?_, rfl, ?_⟩; (first | exact .inr rfl | exact .inl rfl)) | ((with_reducible show _ = _ ∧ _ = false ∧ _ = _); refine ⟨?_, rfl, rfl⟩; try (first | rfl | (conv => lhs; whnf))) | ((with_reducible show LeqD _ _); try (first | exact okN | (first | rfl | (conv => lhs; whnf))); done) | ((with_reducible show _ = _ ∧ (_ → _)); refine ⟨?_, ?_⟩; try (first | rfl | (conv => lhs; whnf))) | exact fun h => h | exact fun _ => rfl | refine ⟨rfl, ?_⟩ | (refine ⟨Nat.le_of_ble_eq_true rfl, ?_⟩) | (refine ⟨?_, ?_, ?_⟩; exact okS; exact okS) | (refine ⟨?_, ?_⟩; exact okS) | rw [wrapId (by omega) (by omega)] | fail)
theorem c_saying_writes {l : List ByteArray} : XPure Tryz.prog 213 [.agg [eS l]] (.tup [str .empty, bln false]) false := by
  refine XPure.body ⟨_, Tryz.func213, rfl, by kernel_rfl⟩ Tryz.func213 rfl (Nat.le_of_ble_eq_true (by rfl)) (pf_of1 rfl) fun env => ?_
  repeat' ((conv => whnf); (fail_if_success (with_reducible show ∃ _, _ ∧ _ ∧ Weak _ _ _)); first | ((with_reducible show guardA _ _ _ _ _ _ ∨ _); first | (refine .inr ?_; (conv => whnf); refine ⟨_, ?_, fun h => rfl, rfl, ?_⟩; ((conv => whnf); first | exact trivial | (refine ⟨?_, trivial⟩; exact okG))) | (refine .inr ?_; (conv => whnf); refine ⟨_, trivial, fun h => ⟨?_, ?_, ?_, rfl⟩, rfl, ?_⟩; (first | exact h | rfl); exact okG; exact okG) | refine .inl ?_) | refine cY ?_ | refine cN ?_ | refine gA ?_ | refine gB ?_ | refine gC ?_ | ((first | refine gsT (fun h => ?_) (fun h => ?_) | refine gsF (fun h => ?_) (fun h => ?_) | refine ⟨fun h => ?_, fun h => ?_⟩) <;> (have hs := h; try simp only [cs, reduceCtorEq, Int.reduceEq, Int.reduceNe, Int.reduceLT, Int.reduceLE, Int.reduceBEq, Int.reduceBNe] at hs)) | ((with_reducible show _ ∧ _ ∧ Weak _ _ _); refine ⟨?_, ?_, Weak.go⟩; (omega)) | ((with_reducible show (_ ∧ _ ∧ _) ∧ _); refine ⟨⟨by kernel_rfl, by kernel_rfl, by rfl⟩, ?_⟩) | ((with_reducible show AV.pf _ = true ∧ _); refine pfA ?_) | (refine ⟨rfl, ?_, ?_, ?_⟩; exact okG; exact okG) | ((with_reducible show (_ ∨ _) ∧ _ ∧ retA _ _ _ _ _); refine ⟨?_, rfl, ?_⟩; (first | exact .inr rfl | exact .inl rfl)) | ((with_reducible show _ = _ ∧ _ = false ∧ _ = _); refine ⟨?_, rfl, rfl⟩; try (first | rfl | (conv => lhs; whnf))) | ((with_reducible show LeqD _ _); try (first | exact okN | (first | rfl | (conv => lhs; whnf))); done) | ((with_reducible show _ = _ ∧ (_ → _)); refine ⟨?_, ?_⟩; try (first | rfl | (conv => lhs; whnf))) | exact fun h => h | exact fun _ => rfl | refine ⟨rfl, ?_⟩ | (refine ⟨Nat.le_of_ble_eq_true rfl, ?_⟩) | (refine ⟨?_, ?_, ?_⟩; exact okS; exact okS) | (refine ⟨?_, ?_⟩; exact okS) | rw [wrapId (by omega) (by omega)] | fail)
theorem c_saying_reads {l : List ByteArray} : XPure Tryz.prog 209 [.agg [eS l]] (eS []) false := by
  refine XPure.bodyN ⟨_, Tryz.func209, rfl, by kernel_rfl⟩ Tryz.func209 rfl (Nat.le_of_ble_eq_true (by rfl)) (pf_of1 rfl) fun env => ?_
  repeat' ((conv => whnf); (fail_if_success (with_reducible show ∃ _, _ ∧ _ ∧ Weak _ _ _)); first | ((with_reducible show guardA _ _ _ _ _ _ ∨ _); first | (refine .inr ?_; (conv => whnf); refine ⟨_, ?_, fun h => rfl, rfl, ?_⟩; ((conv => whnf); first | exact trivial | (refine ⟨?_, trivial⟩; exact okG))) | (refine .inr ?_; (conv => whnf); refine ⟨_, trivial, fun h => ⟨?_, ?_, ?_, rfl⟩, rfl, ?_⟩; (first | exact h | rfl); exact okG; exact okG) | refine .inl ?_) | refine cY ?_ | refine cN ?_ | refine gA ?_ | refine gB ?_ | refine gC ?_ | ((first | refine gsT (fun h => ?_) (fun h => ?_) | refine gsF (fun h => ?_) (fun h => ?_) | refine ⟨fun h => ?_, fun h => ?_⟩) <;> (have hs := h; try simp only [cs, reduceCtorEq, Int.reduceEq, Int.reduceNe, Int.reduceLT, Int.reduceLE, Int.reduceBEq, Int.reduceBNe] at hs)) | ((with_reducible show _ ∧ _ ∧ Weak _ _ _); refine ⟨?_, ?_, Weak.go⟩; (omega)) | ((with_reducible show (_ ∧ _ ∧ _) ∧ _); refine ⟨⟨by kernel_rfl, by kernel_rfl, by rfl⟩, ?_⟩) | ((with_reducible show AV.pf _ = true ∧ _); refine pfA ?_) | (refine ⟨rfl, ?_, ?_, ?_⟩; exact okG; exact okG) | ((with_reducible show (_ ∨ _) ∧ _ ∧ retA _ _ _ _ _); refine ⟨?_, rfl, ?_⟩; (first | exact .inr rfl | exact .inl rfl)) | ((with_reducible show _ = _ ∧ _ = false ∧ _ = _); refine ⟨?_, rfl, rfl⟩; try (first | rfl | (conv => lhs; whnf))) | ((with_reducible show LeqD _ _); try (first | exact okN | (first | rfl | (conv => lhs; whnf))); done) | ((with_reducible show _ = _ ∧ (_ → _)); refine ⟨?_, ?_⟩; try (first | rfl | (conv => lhs; whnf))) | exact fun h => h | exact fun _ => rfl | refine ⟨rfl, ?_⟩ | (refine ⟨Nat.le_of_ble_eq_true rfl, ?_⟩) | (refine ⟨?_, ?_, ?_⟩; exact okS; exact okS) | (refine ⟨?_, ?_⟩; exact okS) | rw [wrapId (by omega) (by omega)] | fail)
theorem c_testing_reads {d : ByteArray} : XPure Tryz.prog 199 [.agg [str d]] (eS [d]) false := by
  refine XPure.body ⟨_, Tryz.func199, rfl, by kernel_rfl⟩ Tryz.func199 rfl (Nat.le_of_ble_eq_true (by rfl)) (pf_of1 rfl) fun env => ?_
  repeat' ((conv => whnf); (fail_if_success (with_reducible show ∃ _, _ ∧ _ ∧ Weak _ _ _)); first | ((with_reducible show guardA _ _ _ _ _ _ ∨ _); first | (refine .inr ?_; (conv => whnf); refine ⟨_, ?_, fun h => rfl, rfl, ?_⟩; ((conv => whnf); first | exact trivial | (refine ⟨?_, trivial⟩; exact okG))) | (refine .inr ?_; (conv => whnf); refine ⟨_, trivial, fun h => ⟨?_, ?_, ?_, rfl⟩, rfl, ?_⟩; (first | exact h | rfl); exact okG; exact okG) | refine .inl ?_) | refine cY ?_ | refine cN ?_ | refine gA ?_ | refine gB ?_ | refine gC ?_ | ((first | refine gsT (fun h => ?_) (fun h => ?_) | refine gsF (fun h => ?_) (fun h => ?_) | refine ⟨fun h => ?_, fun h => ?_⟩) <;> (have hs := h; try simp only [cs, reduceCtorEq, Int.reduceEq, Int.reduceNe, Int.reduceLT, Int.reduceLE, Int.reduceBEq, Int.reduceBNe] at hs)) | ((with_reducible show _ ∧ _ ∧ Weak _ _ _); refine ⟨?_, ?_, Weak.go⟩; (omega)) | (refine .inl ?_) | ((with_reducible show (_ ∧ _ ∧ _) ∧ _); refine ⟨⟨by kernel_rfl, by kernel_rfl, by rfl⟩, ?_⟩) | ((with_reducible show AV.pf _ = true ∧ _); refine pfA ?_) | (refine ⟨rfl, ?_, ?_, ?_⟩; exact okG; exact okG) | ((with_reducible show (_ ∨ _) ∧ _ ∧ retA _ _ _ _ _); refine ⟨?_, rfl, ?_⟩; (first | exact .inr rfl | exact .inl rfl)) | ((with_reducible show _ = _ ∧ _ = false ∧ _ = _); refine ⟨?_, rfl, rfl⟩; try (first | rfl | (conv => lhs; whnf))) | ((with_reducible show LeqD _ _); try (first | exact okN | (first | rfl | (conv => lhs; whnf))); done) | ((with_reducible show _ = _ ∧ (_ → _)); refine ⟨?_, ?_⟩; try (first | rfl | (conv => lhs; whnf))) | exact fun h => h | exact fun _ => rfl | refine ⟨rfl, ?_⟩ | (refine ⟨Nat.le_of_ble_eq_true rfl, ?_⟩) | (refine ⟨?_, ?_, ?_⟩; exact okS; exact okS) | (refine ⟨?_, ?_⟩; exact okS) | rw [wrapId (by omega) (by omega)] | fail)
theorem c_saying_right {l : List ByteArray} : XPure Tryz.prog 210 [.agg [eS l]] (i64 (if 512 < l.length then 160 else 0)) false := by
  refine XPure.body ⟨_, Tryz.func210, rfl, by kernel_rfl⟩ Tryz.func210 rfl (Nat.le_of_ble_eq_true (by rfl)) (pf_of1 rfl) fun env => ?_
  repeat' ((conv => whnf); (fail_if_success (with_reducible show ∃ _, _ ∧ _ ∧ Weak _ _ _)); first | ((with_reducible show guardA _ _ _ _ _ _ ∨ _); first | (refine .inr ?_; (conv => whnf); refine ⟨_, ?_, fun h => rfl, rfl, ?_⟩; ((conv => whnf); first | exact trivial | (refine ⟨?_, trivial⟩; exact okG))) | (refine .inr ?_; (conv => whnf); refine ⟨_, trivial, fun h => ⟨?_, ?_, ?_, rfl⟩, rfl, ?_⟩; (first | exact h | rfl); exact okG; exact okG) | refine .inl ?_) | refine cY ?_ | refine cN ?_ | refine gA ?_ | refine gB ?_ | refine gC ?_ | ((first | refine gsT (fun h => ?_) (fun h => ?_) | refine gsF (fun h => ?_) (fun h => ?_) | refine ⟨fun h => ?_, fun h => ?_⟩) <;> (have hs := h; try simp only [cs, reduceCtorEq, Int.reduceEq, Int.reduceNe, Int.reduceLT, Int.reduceLE, Int.reduceBEq, Int.reduceBNe] at hs)) | (refine .inl ⟨_, _, c_cmd_few, ?_⟩) | ((with_reducible show _ ∧ _ ∧ Weak _ _ _); refine ⟨?_, ?_, Weak.go⟩; (omega)) | ((with_reducible show (_ ∧ _ ∧ _) ∧ _); refine ⟨⟨by kernel_rfl, by kernel_rfl, by rfl⟩, ?_⟩) | ((with_reducible show AV.pf _ = true ∧ _); refine pfA ?_) | (refine ⟨rfl, ?_, ?_, ?_⟩; exact okG; exact okG) | ((with_reducible show (_ ∨ _) ∧ _ ∧ retA _ _ _ _ _); refine ⟨?_, rfl, ?_⟩; (first | exact .inr rfl | exact .inl rfl)) | ((with_reducible show _ = _ ∧ _ = false ∧ _ = _); refine ⟨?_, rfl, rfl⟩; try (first | rfl | (conv => lhs; whnf))) | ((with_reducible show LeqD _ _); try (first | exact okN | (first | rfl | (conv => lhs; whnf))); done) | ((with_reducible show _ = _ ∧ (_ → _)); refine ⟨?_, ?_⟩; try (first | rfl | (conv => lhs; whnf))) | exact fun h => h | exact fun _ => rfl | refine ⟨rfl, ?_⟩ | (refine ⟨Nat.le_of_ble_eq_true rfl, ?_⟩) | (refine ⟨?_, ?_, ?_⟩; exact okS; exact okS) | (refine ⟨?_, ?_⟩; exact okS) | rw [wrapId (by omega) (by omega)] | fail)
theorem c_failing_right {n : Int} : XPure Tryz.prog 205 [.agg [i64 n]] (i64 (if n < 1 ∨ 255 < n then 160 else 0)) false := by
  refine XPure.body ⟨_, Tryz.func205, rfl, by kernel_rfl⟩ Tryz.func205 rfl (Nat.le_of_ble_eq_true (by rfl)) (pf_of1 rfl) fun env => ?_
  repeat' ((conv => whnf); (fail_if_success (with_reducible show ∃ _, _ ∧ _ ∧ Weak _ _ _)); first | ((with_reducible show guardA _ _ _ _ _ _ ∨ _); first | (refine .inr ?_; (conv => whnf); refine ⟨_, ?_, fun h => rfl, rfl, ?_⟩; ((conv => whnf); first | exact trivial | (refine ⟨?_, trivial⟩; exact okG))) | (refine .inr ?_; (conv => whnf); refine ⟨_, trivial, fun h => ⟨?_, ?_, ?_, rfl⟩, rfl, ?_⟩; (first | exact h | rfl); exact okG; exact okG) | refine .inl ?_) | refine cY ?_ | refine cN ?_ | refine gA ?_ | refine gB ?_ | refine gC ?_ | ((first | refine gsT (fun h => ?_) (fun h => ?_) | refine gsF (fun h => ?_) (fun h => ?_) | refine ⟨fun h => ?_, fun h => ?_⟩) <;> (have hs := h; try simp only [cs, reduceCtorEq, Int.reduceEq, Int.reduceNe, Int.reduceLT, Int.reduceLE, Int.reduceBEq, Int.reduceBNe] at hs)) | ((with_reducible show _ ∧ _ ∧ Weak _ _ _); refine ⟨?_, ?_, Weak.go⟩; (omega)) | ((with_reducible show (_ ∧ _ ∧ _) ∧ _); refine ⟨⟨by kernel_rfl, by kernel_rfl, by rfl⟩, ?_⟩) | ((with_reducible show AV.pf _ = true ∧ _); refine pfA ?_) | (refine ⟨rfl, ?_, ?_, ?_⟩; exact okG; exact okG) | ((with_reducible show (_ ∨ _) ∧ _ ∧ retA _ _ _ _ _); refine ⟨?_, rfl, ?_⟩; (first | exact .inr rfl | exact .inl rfl)) | ((with_reducible show _ = _ ∧ _ = false ∧ _ = _); refine ⟨?_, rfl, rfl⟩; try (first | rfl | (conv => lhs; whnf))) | ((with_reducible show LeqD _ _); try (first | exact okN | (first | rfl | (conv => lhs; whnf))); done) | ((with_reducible show _ = _ ∧ (_ → _)); refine ⟨?_, ?_⟩; try (first | rfl | (conv => lhs; whnf))) | exact fun h => h | exact fun _ => rfl | refine ⟨rfl, ?_⟩ | (refine ⟨Nat.le_of_ble_eq_true rfl, ?_⟩) | (refine ⟨?_, ?_, ?_⟩; exact okS; exact okS) | (refine ⟨?_, ?_⟩; exact okS) | rw [wrapId (by omega) (by omega)] | fail)
  all_goals refine congrArg i64 ?_
  all_goals (simp only [cs, reduceCtorEq, Int.reduceEq, Int.reduceNe, Int.reduceLT, Int.reduceLE, Int.reduceBEq, Int.reduceBNe] at *; grind)
end Go.Proofs.YtepdiooaoegpfaaGreatDoor.Fx
end
