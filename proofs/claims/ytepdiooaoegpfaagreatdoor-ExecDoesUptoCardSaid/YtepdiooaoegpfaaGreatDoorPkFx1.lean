/- Written by programs of this session: laws and contracts that the law's proof stands on, merged into one text. Conditions: none beyond those in each statement. -/
import Derived.Test.YtepdiooaoegpfaaGreatDoorPkEv17
import Derived.WideShapes
import Derived.Laws.Strings
import Derived.Lib.Bytealg
import Derived.Test.YtepdiooaoegpfaaGreatDoorProg
import Derived.Test.YtepdiooaoegpfaaGreatDoorPkSh1
section
/- What the program speaks of, as structures and trees; texts in their order. Conditions: those in each statement. -/
namespace Go.Proofs.YtepdiooaoegpfaaGreatDoor.Fx
open Go Go.Proofs Go.Ev Go.RowKit
set_option linter.unusedSimpArgs false
set_option linter.unusedVariables false

theorem beqS_iff {a b : ByteArray} : beqS a b = true ↔ a = b := by
  unfold beqS
  rw [ByteArray.toList_eq, ByteArray.toList_eq, beq_iff_eq]
  exact ⟨fun h => Go.WideShapes.bytes_inj h, fun h => by rw [h]⟩
theorem beqS_no {a b : ByteArray} : beqS a b = false ↔ a ≠ b := by rw [← Bool.not_eq_true, beqS_iff]
theorem beqS_self {a : ByteArray} : beqS a a = true := beqS_iff.2 rfl
/-- What makes a condition readable, all in one. -/
theorem cs : ({ data := #[] } : ByteArray) = ByteArray.empty ∧ ({ data := [].toArray } : ByteArray) = ByteArray.empty ∧ (∀ p : Prop, (False ∧ p) = False) ∧ (∀ p : Prop, (p ∧ False) = False) ∧ (∀ p : Prop, (False ∨ p) = p) ∧ (∀ p : Prop, (p ∨ False) = p) ∧ (∀ p : Prop, (True ∧ p) = p) ∧ (∀ p : Prop, (p ∧ True) = p) ∧ (∀ p : Prop, (True ∨ p) = True) ∧ (∀ p : Prop, (p ∨ True) = True) ∧
    (¬True) = False ∧ (¬False) = True ∧ (∀ {α : Type} (a b : α), cond true a b = a) ∧ (∀ {α : Type} (a b : α), cond false a b = b) ∧ (∀ n : Nat, Int.toNat (n : Int) = n) ∧ (∀ {α β : Type} (f : α → β) (l : List α), (l.map f).length = l.length) ∧
    (∀ {a b : ByteArray}, beqS a b = true ↔ a = b) ∧ (∀ {a b : ByteArray}, beqS a b = false ↔ a ≠ b) ∧ (∀ a b : Bool, cond a true b = (a || b)) ∧ (∀ a b : Bool, cond a b false = (a && b)) ∧ (∀ a b : Bool, ((a || b) = true) = (a = true ∨ b = true)) ∧ (∀ a b : Bool, (a || b) = false ↔ a = false ∧ b = false) ∧ (∀ a b : Bool, ((a && b) = true) = (a = true ∧ b = true)) ∧ (∀ a b : Bool, (a && b) = false ↔ a = false ∨ b = false) ∧
    (∀ (p : Prop) [Decidable p], (decide p = true) = p) ∧ (∀ (p : Prop) [Decidable p], (decide p = false) = ¬ p) ∧ (∀ a : Bool, ((!a) = true) = (a = false)) ∧ (∀ a : Bool, ((!a) = false) = (a = true)) ∧ (∀ {α : Type} [BEq α] [LawfulBEq α] {a b : α}, (a == b) = true ↔ a = b) ∧ (∀ {α : Type} [BEq α] [LawfulBEq α] {a b : α}, (a != b) = true ↔ a ≠ b) ∧ (∀ {α : Type} [BEq α] [LawfulBEq α] {a b : α}, (a == b) = false ↔ a ≠ b) ∧ (∀ {α : Type} [BEq α] [LawfulBEq α] {a b : α}, (a != b) = false ↔ a = b) ∧
    (∀ {m n : Nat}, (m : Int) < (n : Int) ↔ m < n) ∧ (∀ {m n : Nat}, (m : Int) ≤ (n : Int) ↔ m ≤ n) ∧ (∀ {a b : Int}, ¬ a < b ↔ b ≤ a) ∧ (∀ {a b : Int}, ¬ a ≤ b ↔ b < a) ∧ (∀ {α : Type} [LE α] {a b : α}, a ≥ b ↔ b ≤ a) ∧ (∀ {α : Type} [LT α] {a b : α}, a > b ↔ b < a) ∧ (∀ {α : Type} (a b : α), (a ≠ b) = ¬ a = b) := by
  refine ⟨rfl, rfl, ?_, ?_, ?_, ?_, ?_, ?_, ?_, ?_, ?_, ?_, fun _ _ => rfl, fun _ _ => rfl, fun _ => rfl, fun _ _ => List.length_map _, beqS_iff, beqS_no, ?_, ?_, ?_, ?_, ?_, ?_, ?_, ?_, ?_, ?_, beq_iff_eq, bne_iff_ne, beq_eq_false_iff_ne, bne_eq_false_iff_eq, Int.ofNat_lt, Int.ofNat_le, Int.not_lt, Int.not_le, Iff.rfl, Iff.rfl, fun _ _ => rfl⟩ <;> intros <;> first | (simp; done) | (rename_i a b; cases a <;> cases b <;> simp)
theorem beqS_comm (a b : ByteArray) : beqS a b = beqS b a := by
  cases h : beqS b a with
  | true => exact beqS_iff.2 (beqS_iff.1 h).symm
  | false => exact beqS_no.2 fun e => beqS_no.1 h e.symm
theorem less_asymm : ∀ {x y : List UInt8}, Op.bytesLess x y = true → Op.bytesLess y x = false
  | [], [], h => by cases h
  | [], _ :: _, _ => rfl
  | _ :: _, [], h => by cases h
  | a :: x, b :: y, h => by
    simp only [Op.bytesLess, Bool.or_eq_true, decide_eq_true_eq, Bool.and_eq_true, beq_iff_eq, Bool.or_eq_false_iff, decide_eq_false_iff_not, Bool.and_eq_false_iff] at h ⊢
    rcases h with h | ⟨rfl, h⟩
    · exact ⟨fun k => absurd (UInt8.lt_trans h k) (UInt8.lt_irrefl a), .inl (by simp only [beq_eq_false_iff_ne]; intro e; subst e; exact UInt8.lt_irrefl _ h)⟩
    · exact ⟨UInt8.lt_irrefl _, .inr (less_asymm h)⟩
theorem less_trans : ∀ {x y z : List UInt8}, Op.bytesLess x y = true → Op.bytesLess y z = true → Op.bytesLess x z = true
  | _, [], _, h, _ => by simp [Op.bytesLess] at h
  | _, _ :: _, [], _, h => by simp [Op.bytesLess] at h
  | [], _ :: _, _ :: _, _, _ => rfl
  | a :: x, b :: y, c :: z, h, k => by
    simp only [Op.bytesLess, Bool.or_eq_true, decide_eq_true_eq, Bool.and_eq_true, beq_iff_eq] at h k ⊢
    rcases h with h | ⟨rfl, h⟩
    · rcases k with k | ⟨rfl, k⟩
      · exact .inl (UInt8.lt_trans h k)
      · exact .inl h
    · rcases k with k | ⟨rfl, k⟩
      · exact .inl k
      · exact .inr ⟨rfl, less_trans h k⟩
theorem less_total : ∀ {x y : List UInt8}, Op.bytesLess x y = false → Op.bytesLess y x = false → x = y
  | [], [], _, _ => rfl
  | [], _ :: _, h, _ => by cases h
  | _ :: _, [], _, h => by cases h
  | a :: x, b :: y, h, k => by
    simp only [Op.bytesLess, Bool.or_eq_false_iff, decide_eq_false_iff_not, Bool.and_eq_false_iff, beq_eq_false_iff_ne] at h k
    have e : a = b := by
      rcases Nat.lt_trichotomy a.toNat b.toNat with q | q | q
      · exact absurd (UInt8.lt_iff_toNat_lt.2 q) h.1
      · exact UInt8.toNat_inj.1 q
      · exact absurd (UInt8.lt_iff_toNat_lt.2 q) k.1
    subst e
    rcases h.2 with h | h
    · exact absurd rfl h
    · rcases k.2 with k | k
      · exact absurd rfl k
      · rw [less_total h k]
theorem ltS_asymm {a b : ByteArray} (h : ltS a b = true) : ltS b a = false := less_asymm h
theorem ltS_trans {a b c : ByteArray} (h : ltS a b = true) (k : ltS b c = true) : ltS a c = true := less_trans h k
theorem ltS_total {a b : ByteArray} (h : ltS a b = false) (k : ltS b a = false) : a = b := by
  have := less_total h k
  rw [ByteArray.toList_eq, ByteArray.toList_eq] at this
  exact Go.WideShapes.bytes_inj this
theorem ltS_irrefl (a : ByteArray) : ltS a a = false := by
  cases h : ltS a a with
  | false => rfl
  | true => rw [ltS_asymm h] at h; cases h
theorem cmp_less : ∀ (x y : List UInt8), Lib.compareBytes x y = if Op.bytesLess x y then -1 else if Op.bytesLess y x then 1 else 0
  | [], [] => rfl
  | [], _ :: _ => rfl
  | _ :: _, [] => rfl
  | a :: x, b :: y => by
    simp only [Lib.compareBytes, Op.bytesLess]
    by_cases h : a < b
    · have : ¬ b < a := fun k => UInt8.lt_irrefl _ (UInt8.lt_trans h k)
      simp [h]
    · by_cases k : b < a
      · have e : (a == b) = false := by rw [beq_eq_false_iff_ne]; intro e; subst e; exact UInt8.lt_irrefl _ k
        simp [h, k, e]
      · have e : a = b := by
          rcases Nat.lt_trichotomy a.toNat b.toNat with q | q | q
          · exact absurd (UInt8.lt_iff_toNat_lt.2 q) h
          · exact UInt8.toNat_inj.1 q
          · exact absurd (UInt8.lt_iff_toNat_lt.2 q) k
        subst e
        simp [h, cmp_less x y]
theorem cmp_ltS (a b : ByteArray) : Lib.compareBytes a.data.toList b.data.toList = if ltS a b then -1 else if ltS b a then 1 else 0 := by
  rw [cmp_less]; unfold ltS; rw [ByteArray.toList_eq, ByteArray.toList_eq]

/-- Texts. -/
abbrev eS (l : List ByteArray) : AV := .sl 1 (l.map fun x => .v (.string x))
abbrev i64 (n : Int) : AV := .v (.int .i64 n)
abbrev str (s : ByteArray) : AV := .v (.string s)
abbrev nilv : AV := .v (.slice none 0 0)
abbrev bln (b : Bool) : AV := .v (.bool b)
def hasS (l : List ByteArray) (s : ByteArray) : Bool := l.any fun x => beqS x s
/-- The place of a text; -1: none. -/
def findN (l : List ByteArray) (s : ByteArray) (i : Nat) : Int := match l with
  | [] => -1
  | x :: r => if beqS s x then i else findN r s (i + 1)

structure File where
  name : ByteArray
  text : ByteArray
  stamp : Int
  deriving DecidableEq, Inhabited
abbrev eF (f : File) : AV := .agg [str f.name, str f.text, i64 f.stamp]
abbrev eFs (l : List File) : AV := .sl 3 (l.map eF)
/-- A disk's leaves. -/
abbrev eD (clock : Int) (l : List File) : AV := .agg [i64 clock, eFs l]
def File.none : File := ⟨.empty, .empty, 0⟩
structure Fail where
  target : ByteArray
  line : Int
  status : Int
structure Node where
  target : ByteArray
  needs : List ByteArray
  recipe : List ByteArray
  has : Bool
  source : ByteArray
  stem : ByteArray
  phony : Bool
  precious : Bool
  ignore : Bool
  silent : Bool
  deriving Inhabited
abbrev eN (n : Node) : AV := .agg [str n.target, eS n.needs, eS n.recipe, bln n.has, str n.source, str n.stem, bln n.phony, bln n.precious, bln n.ignore, bln n.silent]
theorem any_no {α : Type} {l : List α} {i : Nat} {p : α → Bool} (d : α) (hi : i < l.length) (h : p (l.getD i d) = false) : (l.drop i).any p = (l.drop (i + 1)).any p := by
  rw [drop_getD d hi, List.any_cons, h, Bool.false_or]
theorem any_yes {α : Type} {l : List α} {i : Nat} {p : α → Bool} (d : α) (hi : i < l.length) (h : p (l.getD i d) = true) : (l.drop i).any p = true := by
  rw [drop_getD d hi, List.any_cons, h]; rfl
theorem any_end {α : Type} {l : List α} {i : Nat} {p : α → Bool} (hi : ¬ i < l.length) : (l.drop i).any p = false := by
  rw [List.drop_eq_nil_of_le (by omega)]; rfl
theorem allL_no {α : Type} {l : List α} {i : Nat} {p : α → Bool} (d : α) (hi : i < l.length) (h : p (l.getD i d) = false) : (l.drop i).all p = false := by
  rw [drop_getD d hi, List.all_cons, h]; rfl
theorem allL_yes {α : Type} {l : List α} {i : Nat} {p : α → Bool} (d : α) (hi : i < l.length) (h : p (l.getD i d) = true) : (l.drop i).all p = (l.drop (i + 1)).all p := by
  rw [drop_getD d hi, List.all_cons, h, Bool.true_and]
theorem allL_end {α : Type} {l : List α} {i : Nat} {p : α → Bool} (hi : ¬ i < l.length) : (l.drop i).all p = true := by
  rw [List.drop_eq_nil_of_le (by omega)]; rfl
/-- What is left to be shown, hidden from tactics that look at all that is assumed. -/
structure Kp (A : Prop) : Prop where
  k : A
theorem zB {G P Q A B S T : Prop} (k1 : P → S → A) (k2 : Q → T → B) (e : (P → A) → (Q → B) → G := by first | exact gsT | exact gsF | exact And.intro)
    (e1 : P = S := by (try conv => lhs; simp only [cs, reduceCtorEq, Int.reduceEq, Int.reduceNe, Int.reduceLT, Int.reduceLE, Int.reduceBEq, Int.reduceBNe]) <;> exact rfl) (e2 : Q = T := by (try conv => lhs; simp only [cs, reduceCtorEq, Int.reduceEq, Int.reduceNe, Int.reduceLT, Int.reduceLE, Int.reduceBEq, Int.reduceBNe]) <;> exact rfl) : G :=
  e (fun h => k1 h (e1 ▸ h)) fun h => k2 h (e2 ▸ h)
theorem zC {A B : Prop} (k : B) (h : Kp B → A := by intro k; (with_reducible show ∃ _, _ ∧ _ ∧ Weak _ _ _); exact k.1) : A := h ⟨k⟩
theorem zS {A B : Prop} (k : B) (h : Kp B → A := by intro k; first | ((with_reducible show guardA _ _ _ _ _ _ ∨ _); first | (refine .inr ?_; (conv => whnf); refine ⟨_, ?_, fun h => rfl, rfl, ?_⟩; ((conv => whnf); first | exact trivial | (refine ⟨?_, trivial⟩; exact okG)); exact k.1) | (refine .inr ?_; (conv => whnf); refine ⟨_, trivial, fun h => ⟨?_, ?_, ?_, rfl⟩, rfl, ?_⟩; (first | exact h | rfl); exact okG; exact okG; exact k.1) | exact .inl k.1) | exact cY k.1 | exact cN k.1 | exact gA k.1 | exact gB k.1 | exact gC k.1 | ((with_reducible show _ ∧ _ ∧ Weak _ _ _); refine ⟨?_, ?_, Weak.go⟩; omega; exact k.1)) : A := h ⟨k⟩
theorem zSd {A B : Prop} (k : B) (h : Kp B → A := by intro k; first | ((with_reducible show guardA _ _ _ _ _ _ ∨ _); first | (refine .inr ?_; (conv => whnf); refine ⟨_, ?_, fun h => rfl, rfl, ?_⟩; ((conv => whnf); first | exact trivial | (refine ⟨?_, trivial⟩; exact okG)); exact k.1) | (refine .inr ?_; (conv => whnf); refine ⟨_, trivial, fun h => ⟨?_, ?_, ?_, rfl⟩, rfl, ?_⟩; (first | exact h | rfl); exact okG; exact okG; exact k.1) | exact .inl k.1) | exact cY k.1 (by first | (with_reducible first | rfl | assumption) | decide) | exact cN k.1 (by first | (with_reducible first | rfl | assumption) | decide) | exact gA k.1 (by first | (with_reducible first | rfl | assumption) | decide) | exact gB k.1 (by first | (with_reducible first | rfl | assumption) | decide) | exact gC k.1 (by first | (with_reducible first | rfl | assumption) | decide) | ((with_reducible show _ ∧ _ ∧ Weak _ _ _); refine ⟨?_, ?_, Weak.go⟩; omega; exact k.1)) : A := h ⟨k⟩
theorem zSdi {A B : Prop} (k : B) (h : Kp B → A := by intro k; first | ((with_reducible show guardA _ _ _ _ _ _ ∨ _); first | exact .inl k.1) | exact cY k.1 (by first | (with_reducible first | rfl | assumption) | decide) | exact cN k.1 (by first | (with_reducible first | rfl | assumption) | decide) | exact gA k.1 (by first | (with_reducible first | rfl | assumption) | decide) | exact gB k.1 (by first | (with_reducible first | rfl | assumption) | decide) | exact gC k.1 (by first | (with_reducible first | rfl | assumption) | decide) | ((with_reducible show _ ∧ _ ∧ Weak _ _ _); refine ⟨?_, ?_, Weak.go⟩; omega; exact k.1)) : A := h ⟨k⟩
theorem zSm {A B : Prop} (k : B) (h : Kp B → A := by intro k; first | ((with_reducible show guardA _ _ _ _ _ _ ∨ _); first | (refine .inr ?_; (conv => whnf); refine ⟨_, ?_, fun h => rfl, rfl, ?_⟩; ((conv => whnf); first | exact trivial | (refine ⟨?_, trivial⟩; exact okG)); exact k.1) | (refine .inr ?_; (conv => whnf); refine ⟨_, trivial, fun h => ⟨?_, ?_, ?_, rfl⟩, rfl, ?_⟩; (first | exact h | rfl); exact okG; exact okG; exact k.1) | exact .inl k.1) | exact cY k.1 (by first | (with_reducible first | rfl | assumption) | (clear k; grind [beqS_self])) | exact cN k.1 (by first | (with_reducible first | rfl | assumption) | (clear k; grind [beqS_self])) | exact gA k.1 (by first | (with_reducible first | rfl | assumption) | (clear k; grind [beqS_self])) | exact gB k.1 (by first | (with_reducible first | rfl | assumption) | (clear k; grind [beqS_self])) | exact gC k.1 (by first | (with_reducible first | rfl | assumption) | (clear k; grind [beqS_self])) | ((with_reducible show _ ∧ _ ∧ Weak _ _ _); refine ⟨?_, ?_, Weak.go⟩; omega; exact k.1)) : A := h ⟨k⟩
theorem zSmi {A B : Prop} (k : B) (h : Kp B → A := by intro k; first | ((with_reducible show guardA _ _ _ _ _ _ ∨ _); first | exact .inl k.1) | exact cY k.1 (by first | (with_reducible first | rfl | assumption) | (clear k; grind [beqS_self])) | exact cN k.1 (by first | (with_reducible first | rfl | assumption) | (clear k; grind [beqS_self])) | exact gA k.1 (by first | (with_reducible first | rfl | assumption) | (clear k; grind [beqS_self])) | exact gB k.1 (by first | (with_reducible first | rfl | assumption) | (clear k; grind [beqS_self])) | exact gC k.1 (by first | (with_reducible first | rfl | assumption) | (clear k; grind [beqS_self])) | ((with_reducible show _ ∧ _ ∧ Weak _ _ _); refine ⟨?_, ?_, Weak.go⟩; omega; exact k.1)) : A := h ⟨k⟩
theorem zE {A : Prop} (h : A := by first | ((with_reducible show _ = _ ∧ _ = false ∧ _ = _); exact ⟨rfl, rfl, rfl⟩) | ((with_reducible show LeqD _ _); first | exact okN | rfl) | ((with_reducible show _ = _ ∧ (_ → _)); refine ⟨rfl, ?_⟩; first | exact fun h => h | exact fun _ => rfl) | exact fun h => h | exact fun _ => rfl) : A := h
theorem zZ {A B : Prop} (k : B) (h : Kp B → A := by intro k; first | ((with_reducible show (_ ∧ _ ∧ _) ∧ _); refine ⟨⟨by kernel_rfl, by kernel_rfl, by rfl⟩, ?_⟩; exact k.1) | ((with_reducible show AV.pf _ = true ∧ _); exact pfA k.1) | (refine ⟨rfl, ?_, ?_, ?_⟩; exact okG; exact okG; exact k.1) | ((with_reducible show (_ ∨ _) ∧ _ ∧ retA _ _ _ _ _); refine ⟨?_, rfl, ?_⟩; (first | exact .inr rfl | exact .inl rfl); exact k.1) | ((with_reducible show _ = _ ∧ _ = false ∧ _ = _); refine ⟨?_, rfl, rfl⟩; (try (conv => lhs; whnf)); exact k.1) | ((with_reducible show _ = _ ∧ (_ → _)); refine ⟨?_, by first | exact fun h => h | exact fun _ => rfl⟩; (try (conv => lhs; whnf)); exact k.1) | (refine ⟨rfl, ?_⟩; exact k.1) | (refine ⟨Nat.le_of_ble_eq_true rfl, ?_⟩; exact k.1) | (refine ⟨?_, ?_, ?_⟩; exact okS; exact okS; exact k.1) | (refine ⟨?_, ?_⟩; exact okS; exact k.1) | (rw [wrapId (by omega) (by omega)]; exact k.1)) : A := h ⟨k⟩
theorem zEf {A : Prop} (h : A := by first | ((with_reducible show LeqD _ _); first | exact okN) | exact fun h => h | exact fun _ => rfl) : A := h
theorem zZf {A B : Prop} (k : B) (h : Kp B → A := by intro k; first | ((with_reducible show (_ ∧ _ ∧ _) ∧ _); refine ⟨⟨by kernel_rfl, by kernel_rfl, by rfl⟩, ?_⟩; exact k.1) | ((with_reducible show AV.pf _ = true ∧ _); exact pfA k.1) | (refine ⟨rfl, ?_, ?_, ?_⟩; exact okG; exact okG; exact k.1) | ((with_reducible show (_ ∨ _) ∧ _ ∧ retA _ _ _ _ _); refine ⟨?_, rfl, ?_⟩; (first | exact .inr rfl | exact .inl rfl); exact k.1) | ((with_reducible show _ = _ ∧ _ = false ∧ _ = _); refine ⟨?_, rfl, rfl⟩; exact k.1) | ((with_reducible show _ = _ ∧ (_ → _)); refine ⟨?_, by first | exact fun h => h | exact fun _ => rfl⟩; exact k.1) | (refine ⟨rfl, ?_⟩; exact k.1) | (refine ⟨Nat.le_of_ble_eq_true rfl, ?_⟩; exact k.1) | (refine ⟨?_, ?_, ?_⟩; exact okS; exact okS; exact k.1) | (refine ⟨?_, ?_⟩; exact okS; exact k.1) | (rw [wrapId (by omega) (by omega)]; exact k.1)) : A := h ⟨k⟩
theorem zEl {A : Prop} (h : A := by (fail_if_success (with_reducible show LeqD _ _)); first | ((with_reducible show _ = _ ∧ _ = false ∧ _ = _); exact ⟨rfl, rfl, rfl⟩) | ((with_reducible show _ = _ ∧ (_ → _)); refine ⟨rfl, ?_⟩; first | exact fun h => h | exact fun _ => rfl) | exact fun h => h | exact fun _ => rfl) : A := h
theorem zZl {A B : Prop} (k : B) (h : Kp B → A := by intro k; (fail_if_success (with_reducible show LeqD _ _)); first | ((with_reducible show (_ ∧ _ ∧ _) ∧ _); refine ⟨⟨by kernel_rfl, by kernel_rfl, by rfl⟩, ?_⟩; exact k.1) | ((with_reducible show AV.pf _ = true ∧ _); exact pfA k.1) | (refine ⟨rfl, ?_, ?_, ?_⟩; exact okG; exact okG; exact k.1) | ((with_reducible show (_ ∨ _) ∧ _ ∧ retA _ _ _ _ _); refine ⟨?_, rfl, ?_⟩; (first | exact .inr rfl | exact .inl rfl); exact k.1) | ((with_reducible show _ = _ ∧ _ = false ∧ _ = _); refine ⟨?_, rfl, rfl⟩; (try (conv => lhs; whnf)); exact k.1) | ((with_reducible show _ = _ ∧ (_ → _)); refine ⟨?_, by first | exact fun h => h | exact fun _ => rfl⟩; (try (conv => lhs; whnf)); exact k.1) | (refine ⟨rfl, ?_⟩; exact k.1) | (refine ⟨Nat.le_of_ble_eq_true rfl, ?_⟩; exact k.1) | (refine ⟨?_, ?_, ?_⟩; exact okS; exact okS; exact k.1) | (refine ⟨?_, ?_⟩; exact okS; exact k.1) | (rw [wrapId (by omega) (by omega)]; exact k.1)) : A := h ⟨k⟩
theorem zElw {A : Prop} (h : A := by (fail_if_success (with_reducible show LeqD _ _)); first | ((with_reducible show _ = _ ∧ _ = false ∧ _ = _); exact ⟨rfl, rfl, rfl⟩) | ((with_reducible show _ = _ ∧ (_ → _)); refine ⟨rfl, ?_⟩; first | exact fun h => h | exact fun _ => rfl) | exact fun h => h | exact fun _ => rfl) : A := h
theorem zZlw {A B : Prop} (k : B) (h : Kp B → A := by intro k; (fail_if_success (with_reducible show LeqD _ _)); first | ((with_reducible show (_ ∧ _ ∧ _) ∧ _); refine ⟨⟨by kernel_rfl, by kernel_rfl, by rfl⟩, ?_⟩; exact k.1) | ((with_reducible show AV.pf _ = true ∧ _); exact pfA k.1) | (refine ⟨rfl, ?_, ?_, ?_⟩; exact okG; exact okG; exact k.1) | ((with_reducible show (_ ∨ _) ∧ _ ∧ retA _ _ _ _ _); refine ⟨?_, rfl, ?_⟩; (first | exact .inr rfl | exact .inl rfl); exact k.1) | ((with_reducible show _ = _ ∧ _ = false ∧ _ = _); refine ⟨?_, rfl, rfl⟩; (try (conv => lhs; whnf)); exact k.1) | ((with_reducible show _ = _ ∧ (_ → _)); refine ⟨?_, by first | exact fun h => h | exact fun _ => rfl⟩; (try (conv => lhs; whnf)); exact k.1) | (refine ⟨rfl, ?_⟩; exact k.1) | (refine ⟨Nat.le_of_ble_eq_true rfl, ?_⟩; exact k.1) | (refine ⟨?_, ?_, ?_⟩; exact okS; exact okS; exact k.1) | (refine ⟨?_, ?_⟩; exact okS; exact k.1)) : A := h ⟨k⟩
theorem zElws {A : Prop} (h : A := by (fail_if_success (with_reducible show LeqD _ _)); first | ((with_reducible show _ = _ ∧ _ = false ∧ _ = _); exact ⟨rfl, rfl, rfl⟩) | ((with_reducible show _ = _ ∧ (_ → _)); refine ⟨rfl, ?_⟩; first | exact fun h => h | exact fun _ => rfl) | exact fun h => h | exact fun _ => rfl) : A := h
theorem zZlws {A B : Prop} (k : B) (h : Kp B → A := by intro k; (fail_if_success (with_reducible show LeqD _ _)); first | ((with_reducible show (_ ∧ _ ∧ _) ∧ _); refine ⟨⟨by kernel_rfl, by kernel_rfl, by rfl⟩, ?_⟩; exact k.1) | ((with_reducible show AV.pf _ = true ∧ _); exact pfA k.1) | (refine ⟨rfl, ?_, ?_, ?_⟩; exact okG; exact okG; exact k.1) | ((with_reducible show (_ ∨ _) ∧ _ ∧ retA _ _ _ _ _); refine ⟨?_, rfl, ?_⟩; (first | exact .inr rfl | exact .inl rfl); exact k.1) | ((with_reducible show _ = _ ∧ _ = false ∧ _ = _); refine ⟨?_, rfl, rfl⟩; (try (conv => lhs; whnf)); exact k.1) | ((with_reducible show _ = _ ∧ (_ → _)); refine ⟨?_, by first | exact fun h => h | exact fun _ => rfl⟩; (try (conv => lhs; whnf)); exact k.1) | (refine ⟨rfl, ?_⟩; exact k.1) | (refine ⟨Nat.le_of_ble_eq_true rfl, ?_⟩; exact k.1)) : A := h ⟨k⟩
theorem zEs {A : Prop} (h : A := by first | ((with_reducible show _ = _ ∧ _ = false ∧ _ = _); exact ⟨rfl, rfl, rfl⟩) | ((with_reducible show LeqD _ _); first | exact okN | rfl) | ((with_reducible show _ = _ ∧ (_ → _)); refine ⟨rfl, ?_⟩; first | exact fun h => h | exact fun _ => rfl) | exact fun h => h | exact fun _ => rfl) : A := h
theorem zZs {A B : Prop} (k : B) (h : Kp B → A := by intro k; first | ((with_reducible show (_ ∧ _ ∧ _) ∧ _); refine ⟨⟨by kernel_rfl, by kernel_rfl, by rfl⟩, ?_⟩; exact k.1) | ((with_reducible show AV.pf _ = true ∧ _); exact pfA k.1) | (refine ⟨rfl, ?_, ?_, ?_⟩; exact okG; exact okG; exact k.1) | ((with_reducible show (_ ∨ _) ∧ _ ∧ retA _ _ _ _ _); refine ⟨?_, rfl, ?_⟩; (first | exact .inr rfl | exact .inl rfl); exact k.1) | ((with_reducible show _ = _ ∧ _ = false ∧ _ = _); refine ⟨?_, rfl, rfl⟩; (try (conv => lhs; whnf)); exact k.1) | ((with_reducible show _ = _ ∧ (_ → _)); refine ⟨?_, by first | exact fun h => h | exact fun _ => rfl⟩; (try (conv => lhs; whnf)); exact k.1) | (refine ⟨rfl, ?_⟩; exact k.1) | (refine ⟨Nat.le_of_ble_eq_true rfl, ?_⟩; exact k.1) | (rw [wrapId (by omega) (by omega)]; exact k.1)) : A := h ⟨k⟩
theorem zEw {A : Prop} (h : A := by first | ((with_reducible show _ = _ ∧ _ = false ∧ _ = _); exact ⟨rfl, rfl, rfl⟩) | ((with_reducible show LeqD _ _); first | exact okN | rfl) | ((with_reducible show _ = _ ∧ (_ → _)); refine ⟨rfl, ?_⟩; first | exact fun h => h | exact fun _ => rfl) | exact fun h => h | exact fun _ => rfl) : A := h
theorem zZw {A B : Prop} (k : B) (h : Kp B → A := by intro k; first | ((with_reducible show (_ ∧ _ ∧ _) ∧ _); refine ⟨⟨by kernel_rfl, by kernel_rfl, by rfl⟩, ?_⟩; exact k.1) | ((with_reducible show AV.pf _ = true ∧ _); exact pfA k.1) | (refine ⟨rfl, ?_, ?_, ?_⟩; exact okG; exact okG; exact k.1) | ((with_reducible show (_ ∨ _) ∧ _ ∧ retA _ _ _ _ _); refine ⟨?_, rfl, ?_⟩; (first | exact .inr rfl | exact .inl rfl); exact k.1) | ((with_reducible show _ = _ ∧ _ = false ∧ _ = _); refine ⟨?_, rfl, rfl⟩; (try (conv => lhs; whnf)); exact k.1) | ((with_reducible show _ = _ ∧ (_ → _)); refine ⟨?_, by first | exact fun h => h | exact fun _ => rfl⟩; (try (conv => lhs; whnf)); exact k.1) | (refine ⟨rfl, ?_⟩; exact k.1) | (refine ⟨Nat.le_of_ble_eq_true rfl, ?_⟩; exact k.1) | (refine ⟨?_, ?_, ?_⟩; exact okS; exact okS; exact k.1) | (refine ⟨?_, ?_⟩; exact okS; exact k.1)) : A := h ⟨k⟩
theorem zEwf {A : Prop} (h : A := by first | ((with_reducible show LeqD _ _); first | exact okN) | exact fun h => h | exact fun _ => rfl) : A := h
theorem zZwf {A B : Prop} (k : B) (h : Kp B → A := by intro k; first | ((with_reducible show (_ ∧ _ ∧ _) ∧ _); refine ⟨⟨by kernel_rfl, by kernel_rfl, by rfl⟩, ?_⟩; exact k.1) | ((with_reducible show AV.pf _ = true ∧ _); exact pfA k.1) | (refine ⟨rfl, ?_, ?_, ?_⟩; exact okG; exact okG; exact k.1) | ((with_reducible show (_ ∨ _) ∧ _ ∧ retA _ _ _ _ _); refine ⟨?_, rfl, ?_⟩; (first | exact .inr rfl | exact .inl rfl); exact k.1) | ((with_reducible show _ = _ ∧ _ = false ∧ _ = _); refine ⟨?_, rfl, rfl⟩; exact k.1) | ((with_reducible show _ = _ ∧ (_ → _)); refine ⟨?_, by first | exact fun h => h | exact fun _ => rfl⟩; exact k.1) | (refine ⟨rfl, ?_⟩; exact k.1) | (refine ⟨Nat.le_of_ble_eq_true rfl, ?_⟩; exact k.1) | (refine ⟨?_, ?_, ?_⟩; exact okS; exact okS; exact k.1) | (refine ⟨?_, ?_⟩; exact okS; exact k.1)) : A := h ⟨k⟩
theorem zEws {A : Prop} (h : A := by first | ((with_reducible show _ = _ ∧ _ = false ∧ _ = _); exact ⟨rfl, rfl, rfl⟩) | ((with_reducible show LeqD _ _); first | exact okN | rfl) | ((with_reducible show _ = _ ∧ (_ → _)); refine ⟨rfl, ?_⟩; first | exact fun h => h | exact fun _ => rfl) | exact fun h => h | exact fun _ => rfl) : A := h
theorem zZws {A B : Prop} (k : B) (h : Kp B → A := by intro k; first | ((with_reducible show (_ ∧ _ ∧ _) ∧ _); refine ⟨⟨by kernel_rfl, by kernel_rfl, by rfl⟩, ?_⟩; exact k.1) | ((with_reducible show AV.pf _ = true ∧ _); exact pfA k.1) | (refine ⟨rfl, ?_, ?_, ?_⟩; exact okG; exact okG; exact k.1) | ((with_reducible show (_ ∨ _) ∧ _ ∧ retA _ _ _ _ _); refine ⟨?_, rfl, ?_⟩; (first | exact .inr rfl | exact .inl rfl); exact k.1) | ((with_reducible show _ = _ ∧ _ = false ∧ _ = _); refine ⟨?_, rfl, rfl⟩; (try (conv => lhs; whnf)); exact k.1) | ((with_reducible show _ = _ ∧ (_ → _)); refine ⟨?_, by first | exact fun h => h | exact fun _ => rfl⟩; (try (conv => lhs; whnf)); exact k.1) | (refine ⟨rfl, ?_⟩; exact k.1) | (refine ⟨Nat.le_of_ble_eq_true rfl, ?_⟩; exact k.1)) : A := h ⟨k⟩
end Go.Proofs.YtepdiooaoegpfaaGreatDoor.Fx
end
section
/- Names and texts, over trees. Conditions: those in each statement. -/
namespace Go.Proofs.YtepdiooaoegpfaaGreatDoor.Fx
open Go Go.Proofs Go.Ev Go.RowKit
set_option maxRecDepth 100000
set_option maxHeartbeats 1600000
set_option linter.unusedSimpArgs false
set_option linter.unusedVariables false
def isLetter (k : Int) : Bool := (decide (k ≥ 65) && decide (k ≤ 90)) || (decide (k ≥ 97) && decide (k ≤ 122)) || (decide (k ≥ 48) && decide (k ≤ 57)) || k == 95 || k == 45 || k == 46 || k == 47 || k == 43
def isName (s : ByteArray) : Bool := decide (0 < s.size) && decide (s.size ≤ 64) && s.data.toList.all fun c => isLetter c.toNat

theorem c_IndexByte {s : ByteArray} {c : Int} : XPure Tryz.prog 65 [.v (.string s), .v (.int .u8 c)] (.v (.int .i64 (Lib.indexByte s.data.toList c.toNat.toUInt8))) false :=
  XPure.ofCalls (l := [.string s, .int .u8 c]) ⟨_, Tryz.func65, rfl, by kernel_rfl⟩ rfl (fun w => (Tryz.strings_IndexByte s c w).mono fun e w' ⟨h1, h2⟩ => ⟨h1, h2 ▸ Below.refl _ _⟩) fun _ _ _ _ => rep_v_mk rfl
theorem x_IndexByte : ∃ f : ByteArray → Int → Int, (∀ s c, f s c = Lib.indexByte s.data.toList c.toNat.toUInt8) ∧ ∀ s c, XPure Tryz.prog 65 [.v (.string s), .v (.int .u8 c)] (.v (.int .i64 (f s c))) false := ⟨_, fun _ _ => rfl, fun _ _ => c_IndexByte⟩
theorem c_Compare {a b : ByteArray} : XPure Tryz.prog 98 [.v (.string a), .v (.string b)] (.v (.int .i64 (Lib.compareBytes a.data.toList b.data.toList))) false :=
  XPure.ofCalls (l := [.string a, .string b]) ⟨_, Tryz.func98, rfl, by kernel_rfl⟩ rfl (fun w => (Tryz.strings_Compare a b w).mono fun e w' ⟨h1, h2⟩ => ⟨h1, h2 ▸ Below.refl _ _⟩) fun _ _ _ _ => rep_v_mk rfl

theorem isName_bad {s : ByteArray} (h : s.size < 1 ∨ 64 < s.size) : isName s = false := by
  simp only [isName, Bool.and_eq_false_iff, decide_eq_false_iff_not]; omega
theorem isName_good {s : ByteArray} (h : 1 ≤ s.size ∧ s.size ≤ 64) : isName s = s.data.toList.all fun c => isLetter c.toNat := by
  have : decide (0 < s.size) = true ∧ decide (s.size ≤ 64) = true := ⟨decide_eq_true (by omega), decide_eq_true (by omega)⟩
  simp [isName, this]
theorem all_no {s : ByteArray} {i : Nat} {p : UInt8 → Bool} (hi : i < s.size) (h : p (byteAt s i) = false) : (s.data.toList.drop i).all p = false := by
  rw [drop_byte hi, List.all_cons, h]; rfl
theorem all_yes {s : ByteArray} {i : Nat} {p : UInt8 → Bool} (hi : i < s.size) (h : p (byteAt s i) = true) : (s.data.toList.drop i).all p = (s.data.toList.drop (i + 1)).all p := by
  rw [drop_byte hi, List.all_cons, h, Bool.true_and]
theorem all_end {s : ByteArray} {i : Nat} {p : UInt8 → Bool} (hi : ¬ i < s.size) : (s.data.toList.drop i).all p = true := by
  rw [drop_end hi]; rfl

theorem letterIB : ∀ n : Nat, n < 256 → (isLetter n = (decide (n ≥ 65) && decide (n ≤ 90) || decide (n ≥ 97) && decide (n ≤ 122) || decide (n ≥ 48) && decide (n ≤ 57) || decide (Lib.indexByte [95, 45, 46, 47, 43] n.toUInt8 ≥ 0))) := by decide +kernel
theorem c_disk_named {s : ByteArray} : XPure Tryz.prog 43 [.v (.string s)] (.v (.bool (isName s))) false := by
  obtain ⟨f, hf, cI⟩ := x_IndexByte
  refine XPure.body ⟨_, Tryz.func43, rfl, by kernel_rfl⟩ Tryz.func43 rfl (Nat.le_of_ble_eq_true (by rfl)) (pf_of1 rfl) fun env => ?_
  repeat' ((conv => whnf); (fail_if_success refine zC ?_); first | refine zS ?_ | refine zB (fun h hs => ?_) (fun h hs => ?_) <;> try exact hs.elim | exact zE | refine zZ ?_ | fail)
  · rw [isName_bad (by omega)]
  · refine XW.count s.size (fun i => [(15, .v (.int .i64 i))]) (fun i => isName s = (s.data.toList.drop i).all fun c => isLetter c.toNat) Weak.go (isName_good (by omega)) ?_
    intro i hi hA
    have key : isLetter (byteAt s i).toNat = (decide ((byteAt s i).toNat ≥ 65) && decide ((byteAt s i).toNat ≤ 90) || decide ((byteAt s i).toNat ≥ 97) && decide ((byteAt s i).toNat ≤ 122) || decide ((byteAt s i).toNat ≥ 48) && decide ((byteAt s i).toNat ≤ 57) || decide (f ⟨#[95, 45, 46, 47, 43]⟩ (byteAt s i).toNat ≥ 0)) := by
      rw [hf]; exact letterIB _ (UInt8.toNat_lt _)
    refine codeA_sound _ _ _ ?_
    repeat' ((conv => whnf); (fail_if_success refine zC ?_); first | refine zS ?_ | refine zB (fun h hs => ?_) (fun h hs => ?_) <;> try exact hs.elim | refine .inl ⟨_, _, cI _ _, ?_⟩ | exact zE | refine zZ ?_ | fail)
    · rw [hA, all_no ‹_› (by rw [key]; simp only [cs, reduceCtorEq, Int.reduceEq, Int.reduceNe, Int.reduceLT, Int.reduceLE, Int.reduceBEq, Int.reduceBNe]; omega)]
    · exact hA.trans (all_yes ‹_› (by rw [key]; simp only [cs, reduceCtorEq, Int.reduceEq, Int.reduceNe, Int.reduceLT, Int.reduceLE, Int.reduceBEq, Int.reduceBNe]; omega))
    · exact hA.trans (all_yes ‹_› (by rw [key]; simp only [cs, reduceCtorEq, Int.reduceEq, Int.reduceNe, Int.reduceLT, Int.reduceLE, Int.reduceBEq, Int.reduceBNe] at *; omega))
    · rw [hA, all_end hs]
end Go.Proofs.YtepdiooaoegpfaaGreatDoor.Fx
end
