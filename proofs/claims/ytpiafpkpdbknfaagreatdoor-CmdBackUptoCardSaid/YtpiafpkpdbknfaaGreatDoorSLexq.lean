/- How a quoted word of a command line is read, as a function on lists of bytes, and small facts about it. Conditions: those in each statement. -/
import Derived.Lib.Bytealg
namespace Go.Proofs.YtpiafpkpdbknfaaGreatDoor.Sup
set_option linter.unusedVariables false
set_option linter.unusedSimpArgs false

def lexq : List UInt8 → List UInt8 → Nat → Option (List UInt8 × Nat)
  | [], _, _ => none
  | c :: t, acc, p =>
    if c = 34 then some (acc, p + 1)
    else if c = 10 then none
    else if c = 92 then
      match t with
      | [] => none
      | d :: t' => if d = 34 then lexq t' (acc ++ [34]) (p + 2) else if d = 92 then lexq t' (acc ++ [92]) (p + 2) else if d = 110 then lexq t' (acc ++ [10]) (p + 2) else none
    else lexq t (acc ++ [c]) (p + 1)

def qW (r : Option (List UInt8 × Nat)) : ByteArray := match r with | some (l, _) => ⟨l.toArray⟩ | none => ⟨#[]⟩
def qP (r : Option (List UInt8 × Nat)) : Int := match r with | some (_, p) => p | none => 0
def qB (r : Option (List UInt8 × Nat)) : Bool := r.isSome

theorem lexq_cons (c : UInt8) (t acc : List UInt8) (p : Nat) : lexq (c :: t) acc p =
    if c = 34 then some (acc, p + 1)
    else if c = 10 then none
    else if c = 92 then
      match t with
      | [] => none
      | d :: t' => if d = 34 then lexq t' (acc ++ [34]) (p + 2) else if d = 92 then lexq t' (acc ++ [92]) (p + 2) else if d = 110 then lexq t' (acc ++ [10]) (p + 2) else none
    else lexq t (acc ++ [c]) (p + 1) := by
  rw [lexq.eq_def]
theorem drop_at (l : List UInt8) (p : Nat) (h : p < l.length) : l.drop p = l[p] :: l.drop (p + 1) := (List.drop_eq_getElem_cons h)

theorem qbyte (s : ByteArray) (p : Nat) (h : p < s.size) : s.data.toList.drop p = s[p]'h :: s.data.toList.drop (p + 1) := by
  have h' : p < s.data.toList.length := by simpa using h
  rw [drop_at _ p h']
  rfl
theorem lexq_quote (s : ByteArray) (p : Nat) (acc) (h : p < s.size) (hc : (((s[p]'h).toNat : Int) == 34) = true) : lexq (s.data.toList.drop p) acc p = some (acc, p + 1) := by
  rw [qbyte s p h, lexq_cons, if_pos]
  have := beq_iff_eq.1 hc
  exact UInt8.toNat_inj.1 (by simpa using (by omega : (s[p]'h).toNat = 34))
theorem u8n {c v : UInt8} (h : ((c.toNat : Int) == (v.toNat : Int)) = false) : ¬ c = v := by
  rintro rfl
  simp at h
theorem u8y {c v : UInt8} (h : ((c.toNat : Int) == (v.toNat : Int)) = true) : c = v := by
  have := beq_iff_eq.1 h
  exact UInt8.toNat_inj.1 (by omega)
theorem lexq_nl (s : ByteArray) (p : Nat) (acc) (h : p < s.size) (h34 : (((s[p]'h).toNat : Int) == 34) = false) (hc : (((s[p]'h).toNat : Int) == 10) = true) : lexq (s.data.toList.drop p) acc p = none := by
  rw [qbyte s p h, lexq_cons, if_neg (u8n (v := 34) h34), if_pos (u8y (v := 10) hc)]
theorem lexq_plain (s : ByteArray) (p : Nat) (acc) (h : p < s.size) (h34 : (((s[p]'h).toNat : Int) == 34) = false) (h10 : (((s[p]'h).toNat : Int) == 10) = false) (h92 : (((s[p]'h).toNat : Int) == 92) = false) : lexq (s.data.toList.drop p) acc p = lexq (s.data.toList.drop (p + 1)) (acc ++ [s[p]'h]) (p + 1) := by
  rw [qbyte s p h, lexq_cons, if_neg (u8n (v := 34) h34), if_neg (u8n (v := 10) h10), if_neg (u8n (v := 92) h92)]
theorem lexq_end (s : ByteArray) (p : Nat) (acc) (h : ¬ p < s.size) : lexq (s.data.toList.drop p) acc p = none := by
  rw [List.drop_eq_nil_of_le (by simpa using h), lexq]
theorem lexq_cut (s : ByteArray) (p : Nat) (acc) (h : p < s.size) (h34 : (((s[p]'h).toNat : Int) == 34) = false) (h10 : (((s[p]'h).toNat : Int) == 10) = false) (h92 : (((s[p]'h).toNat : Int) == 92) = true) (hn : ¬ p + 1 < s.size) : lexq (s.data.toList.drop p) acc p = none := by
  rw [qbyte s p h, lexq_cons, if_neg (u8n (v := 34) h34), if_neg (u8n (v := 10) h10), if_pos (u8y (v := 92) h92), List.drop_eq_nil_of_le (by simpa using hn)]
/-- What an escaped byte stands for. -/
def escOf (d : UInt8) : Option UInt8 := if d = 34 then some 34 else if d = 92 then some 92 else if d = 110 then some 10 else none
theorem lexq_esc (s : ByteArray) (p : Nat) (acc) (h : p < s.size) (h34 : (((s[p]'h).toNat : Int) == 34) = false) (h10 : (((s[p]'h).toNat : Int) == 10) = false) (h92 : (((s[p]'h).toNat : Int) == 92) = true) (hn : p + 1 < s.size) :
    lexq (s.data.toList.drop p) acc p = match escOf (s[p + 1]'hn) with | some x => lexq (s.data.toList.drop (p + 2)) (acc ++ [x]) (p + 2) | none => none := by
  rw [qbyte s p h, lexq_cons, if_neg (u8n (v := 34) h34), if_neg (u8n (v := 10) h10), if_pos (u8y (v := 92) h92), qbyte s (p + 1) hn]
  unfold escOf
  simp only
  split
  · rfl
  · split
    · rfl
    · split <;> rfl
/-- Where an escaped byte stands among the three. -/
theorem esc_index (d : UInt8) : (Lib.indexByte [34, 92, 110] d = -1 ∧ escOf d = none) ∨ (Lib.indexByte [34, 92, 110] d = 0 ∧ escOf d = some 34) ∨ (Lib.indexByte [34, 92, 110] d = 1 ∧ escOf d = some 92) ∨ (Lib.indexByte [34, 92, 110] d = 2 ∧ escOf d = some 10) := by
  by_cases h1 : d = 34
  · subst h1; exact .inr (.inl (by decide))
  by_cases h2 : d = 92
  · subst h2; exact .inr (.inr (.inl (by decide)))
  by_cases h3 : d = 110
  · subst h3; exact .inr (.inr (.inr (by decide)))
  refine .inl ⟨?_, by simp [escOf, h1, h2, h3]⟩
  have e1 : ((34 : UInt8) == d) = false := by simpa using fun e => h1 e.symm
  have e2 : ((92 : UInt8) == d) = false := by simpa using fun e => h2 e.symm
  have e3 : ((110 : UInt8) == d) = false := by simpa using fun e => h3 e.symm
  simp [Lib.indexByte, e1, e2, e3]

end Go.Proofs.YtpiafpkpdbknfaaGreatDoor.Sup
