/- Written by programs of this session: laws and contracts that the law's proof stands on, merged into one text. Conditions: none beyond those in each statement. -/
import Derived.Test.YtepdiooaoegpfaaGreatDoorPkSh1
import Derived.Test.YtepdiooaoegpfaaGreatDoorPkWd2
import Derived.WalkMore
import Derived.WalkSpells
import Derived.WalkLawsBesides
import Derived.Lib.Hide
import Derived.Deep.LoopGhost
import Derived.Deep.QuietTactic
import Derived.BigQuiet
import Derived.Laws.RangeAny
import Derived.IntWalk
import Derived.Lib.RuneCount
import Derived.Lib.OthersKept
import Derived.Deep.WholeRow
import Derived.Lib.Bytealg
section
/- strings.IndexAny at ASCII chars and whatever text, walked. Conditions: those in each statement. -/
namespace Go.Proofs.YtepdiooaoegpfaaGreatDoor.Sup
open Go.RowKit Go.Proofs.YtepdiooaoegpfaaGreatDoorW.PrintWords
set_option linter.unusedVariables false
set_option linter.unusedSimpArgs false

theorem u8of (n : Nat) (h : n < 256) : (UInt8.ofNat n).toNat = n := by simp; omega
theorem encode_high (r : Int) (h : 128 ≤ r) : 2 ≤ (Utf8.encode r).size ∧ (Utf8.encode r).size ≤ 4 ∧ ∀ (j : Nat) (hj : j < (Utf8.encode r).size), 128 ≤ ((Utf8.encode r)[j]'hj).toNat := by
  obtain ⟨c, hc, hc2, hr⟩ : ∃ c : Nat, 128 ≤ c ∧ c ≤ 1114111 ∧ c = (if Utf8.valid r then r.toNat else Utf8.runeError) := by
    refine ⟨_, ?_, ?_, rfl⟩
    · split
      · omega
      · simp [Utf8.runeError]
    · split
      · rename_i hv
        simp [Utf8.valid] at hv
        omega
      · simp [Utf8.runeError]
  have e : Utf8.encode r = (if c < 0x80 then ⟨#[UInt8.ofNat c]⟩
  else if c < 0x800 then ⟨#[UInt8.ofNat (0xC0 + c / 64), UInt8.ofNat (0x80 + c % 64)]⟩
  else if c < 0x10000 then ⟨#[UInt8.ofNat (0xE0 + c / 4096), UInt8.ofNat (0x80 + c / 64 % 64), UInt8.ofNat (0x80 + c % 64)]⟩
  else ⟨#[UInt8.ofNat (0xF0 + c / 262144), UInt8.ofNat (0x80 + c / 4096 % 64), UInt8.ofNat (0x80 + c / 64 % 64), UInt8.ofNat (0x80 + c % 64)]⟩) := by
    rw [hr]; rfl
  clear hr
  rw [if_neg (by omega)] at e
  split at e
  · rw [e]
    refine ⟨by simp [ByteArray.size], by simp [ByteArray.size], fun j hj => ?_⟩
    have hj' : j < 2 := hj
    rcases (by omega : j = 0 ∨ j = 1) with rfl | rfl
    · show 128 ≤ (UInt8.ofNat (0xC0 + c / 64)).toNat
      rw [u8of _ (by omega)]; omega
    · show 128 ≤ (UInt8.ofNat (0x80 + c % 64)).toNat
      rw [u8of _ (by omega)]; omega
  · split at e
    · rw [e]
      refine ⟨by simp [ByteArray.size], by simp [ByteArray.size], fun j hj => ?_⟩
      have hj' : j < 3 := hj
      rcases (by omega : j = 0 ∨ j = 1 ∨ j = 2) with rfl | rfl | rfl
      · show 128 ≤ (UInt8.ofNat (0xE0 + c / 4096)).toNat
        rw [u8of _ (by omega)]; omega
      · show 128 ≤ (UInt8.ofNat (0x80 + c / 64 % 64)).toNat
        rw [u8of _ (by omega)]; omega
      · show 128 ≤ (UInt8.ofNat (0x80 + c % 64)).toNat
        rw [u8of _ (by omega)]; omega
    · rw [e]
      refine ⟨by simp [ByteArray.size], by simp [ByteArray.size], fun j hj => ?_⟩
      have hj' : j < 4 := hj
      rcases (by omega : j = 0 ∨ j = 1 ∨ j = 2 ∨ j = 3) with rfl | rfl | rfl | rfl
      · show 128 ≤ (UInt8.ofNat (0xF0 + c / 262144)).toNat
        rw [u8of _ (by omega)]; omega
      · show 128 ≤ (UInt8.ofNat (0x80 + c / 4096 % 64)).toNat
        rw [u8of _ (by omega)]; omega
      · show 128 ≤ (UInt8.ofNat (0x80 + c / 64 % 64)).toNat
        rw [u8of _ (by omega)]; omega
      · show 128 ≤ (UInt8.ofNat (0x80 + c % 64)).toNat
        rw [u8of _ (by omega)]; omega
theorem ia_quiet_add_left {P : Program} {f : FuncId} {args : Array Value} {w : World} {a n : Nat} {v : Value}
    (h : Calls P f args (w.drewN (a + n)) fun e w' => e = .returned v ∧ w.drewN (a + n) = w') :
    Calls P f args (w.drewN (a + n)) fun e w'' => e = .returned v ∧ ∃ m, w'' = w.drewN (a + m) :=
  h.mono fun _ _ ⟨he, hm⟩ => ⟨he, n, hm.symm⟩
theorem indexByte_miss (c : UInt8) : ∀ l : List UInt8, (∀ b ∈ l, b ≠ c) → Lib.indexByte l c = -1
  | [], _ => rfl
  | b :: l, h => by
    have hb : (b == c) = false := by simpa using h b (by simp)
    have ih := indexByte_miss c l (fun x hx => h x (by simp [hx]))
    simp [Lib.indexByte, hb, ih]
theorem IndexByte_miss (s : ByteArray) (c : UInt8) (w : World) (h : ∀ b ∈ s.data.toList, b ≠ c) :
    Calls Tryz.prog 65 #[.string s, .int .u8 c.toNat] w fun e w' => e = .returned (.int .i64 (-1)) ∧ w = w' :=
  (Tryz.strings_IndexByte s c.toNat w).mono fun e w' ⟨h1, h2⟩ => ⟨by rw [h1, show ((c.toNat : Int)).toNat.toUInt8 = c by simp, indexByte_miss c _ h], h2.symm⟩
set_option maxHeartbeats 4000000 in
set_option maxRecDepth 100000 in
theorem IndexRune_high (s : ByteArray) (r : Int) (w : World) (h0 : 128 ≤ r) (h1 : r ≤ 2147483647) (hs : s.size ≤ 140737488351232) (hasc : ∀ (j : Nat) (h : j < s.size), (s[j]'h).toNat < 128) :
    Calls Tryz.prog 110 #[.string s, .int .i32 r] w fun e w' => e = .returned (.int .i64 (-1)) ∧ Below w.heap.size w w' := by
  have HA := Aside0.mk hasc
  clear hasc
  have HE := Aside0.mk (encode_high r h0)
  have hlt : ¬ r < 128 := by omega
  have hle : (0 : Int) ≤ r := by omega
  cases he : (r == 65533)
  · cases hv : Lib.validRune r
    · go_enter Tryz.func110, Tryz.ntmps110
      go_wp2_with (go_at_call 123; refine (Tryz.utf8_ValidRune _ _).mono ?_; rintro e w1 ⟨rfl, rfl⟩; rw [hv])
      go_ret
      exact ⟨rfl, Below.refl _ _⟩
    · obtain ⟨rs, hrs⟩ : ∃ rs, Utf8.encode r = rs := ⟨_, rfl⟩
      have hsz : 2 ≤ rs.size ∧ rs.size ≤ 4 := by rw [← hrs]; exact ⟨HE.out.1, HE.out.2.1⟩
      have HL : Aside0 (∀ (j : Nat) (hj : j < rs.size), 128 ≤ (rs[j]'hj).toNat) := by subst hrs; exact ⟨HE.out.2.2⟩
      clear HE
      obtain ⟨hsz1, hsz2⟩ := hsz
      obtain ⟨n, hn⟩ : ∃ n, rs.size = n + 1 := ⟨rs.size - 1, by omega⟩
      have hw1 : (rs.size : Int) - 1 = n := by omega
      have HN := Aside0.mk hn
      clear hn
      go_enter Tryz.func110, Tryz.ntmps110
      go_wp2_with (go_at_call 123; refine (Tryz.utf8_ValidRune _ _).mono ?_; rintro e w1 ⟨rfl, hw⟩; rw [hv, hw])
      go_step3
      go_wp2
      go_loopw [9] (fun i wr => i = .int .i64 n ∧ wr = w) (fun _ _ => 0)
      case atStart => exact ⟨rfl, rfl⟩
      case round =>
        obtain ⟨rfl, rfl⟩ := hrel
        by_cases hns : n < s.size
        · have hnr : n < rs.size := by have := HN.out; omega
          have h1 := HA.out n hns
          have h2 := HL.out n hnr
          have hne : (((s[n]'hns).toNat : Int) != ((rs[n]'hnr).toNat : Int)) = true := by rw [bne_iff_ne]; omega
          have hm : ∀ b ∈ (s.extract (n + 1) s.size).data.toList, b ≠ rs[n]'hnr := by
            intro b hb e
            have : b ∈ s.data.toList := by
              have hb' := hb
              simp only [ByteArray.data_extract, Array.toList_extract] at hb'
              exact List.mem_of_mem_drop (List.mem_of_mem_take hb')
            obtain ⟨j, hj, hjb⟩ := List.getElem_of_mem this
            have h3 := HA.out j (by simpa using hj)
            have h4 : s[j]'(by simpa using hj) = b := hjb
            rw [h4, e] at h3
            omega
          have hc := IndexByte_miss (s.extract (n + 1) s.size) (rs[n]'hnr)
          have HC := Aside0.mk (fun w => hc w hm)
          clear hc hm
          go_wp2
          go_step3
          go_wp2
          go_quiet (fail)
          go_wp2
          have hb1 : (0 : Int) ≤ (n : Int) + 1 := by omega
          have hb2 : (n : Int) + 1 ≤ (s.size : Int) := by omega
          have hb3 : IntKind.i64.wrap ((n : Int) + 1) = (n : Int) + 1 := IntWalk.i64_in _ (by omega)
          have hb4 : ((n : Int) + 1).toNat = n + 1 := by omega
          go_quiet ((go_at_call 65; exact ia_quiet_add_left (HC.out _)))
          clear hb1 hb2 hb3 hb4
          go_wp2
          simp only [Exit.noGoto_ret, Exit.inBlock]
          show Exit.then _ _ Exit.ret _ _
          simp only [Exit.then, Exit.inBlock, Exit.noGoto_ret]
          go_ret
          exact ⟨rfl, by repeat (first | exact Below.refl _ _ | apply pw_below_drewN | apply below_drew1)⟩
        · go_wp2
          rw [Exit.noGoto_ret]
          go_ret
          exact ⟨rfl, Below.refl _ _⟩
  · go_enter Tryz.func110, Tryz.ntmps110
    go_wp2
    go_loopw [5, 6] (fun _ _ wr => ∃ i : Nat, i ≤ s.size ∧ wr = w.iter s i) (fun _ _ wr => s.size - wr.iterPos w.heap.size)
    case atStart => exact ⟨0, by omega, rfl⟩
    case round =>
      obtain ⟨i, hi, rfl⟩ := hrel
      by_cases hlt : i < s.size
      · have hx := HA.out i hlt
        have hnx := fun ty => run_next_ascii (P := Tryz.prog) w s i ty hlt hx
        have hne : (((s[i]'hlt).toNat : Int) == 65533) = false := beq_eq_false_iff_ne.2 (by omega)
        go_wp2
        go_roundw
        case rel => exact ⟨i + 1, by omega, rfl⟩
        case measure => simp; omega
      · have hnx := fun ty => run_next_end (P := Tryz.prog) w s i ty hlt
        go_wp2
        go_ret
        exact ⟨rfl, (Below.refl _ _).alloc (Nat.le_refl _) _⟩

/-! IndexAny, s of at most 8 bytes, whatever they are -/
theorem decode_cont (s : ByteArray) (i : Nat) (h : i < s.size) (hi : 128 ≤ (s[i]'h).toNat) : ∀ j, i ≤ j → j < i + (Utf8.decode s i).2 → ∃ hj : j < s.size, 128 ≤ (s[j]'hj).toNat := by
  have hget : ∀ k (hk : i + k < s.size), s.get! (i + k) = s[i + k]'hk := fun k hk => by
    simp [ByteArray.get!, getElem!_pos, hk]
    rfl
  have hcont : ∀ k, (decide (i + k < s.size) && (s.get! (i + k)).toNat / 64 == 2) = true → ∃ hk : i + k < s.size, 128 ≤ (s[i + k]'hk).toNat := fun k hc => by
    simp only [Bool.and_eq_true, decide_eq_true_eq, beq_iff_eq] at hc
    refine ⟨hc.1, ?_⟩
    have := hc.2
    rw [hget k hc.1] at this
    omega
  intro j h1 h2
  obtain ⟨k, rfl⟩ : ∃ k, j = i + k := ⟨j - i, by omega⟩
  have hk0 : k = 0 → ∃ hj : i + k < s.size, 128 ≤ (s[i + k]'hj).toNat := fun e => by subst e; exact ⟨by omega, hi⟩
  have hn : ¬ (s.get! (i + 0)).toNat < 128 := by rw [hget 0 (by omega)]; simpa using hi
  unfold Utf8.decode at h2
  simp only [hn, if_false] at h2
  split at h2
  · rename_i hc
    simp only [Bool.and_eq_true] at hc
    split at h2
    · rcases (by simp at h2; omega : k = 0 ∨ k = 1) with rfl | rfl
      · exact hk0 rfl
      · exact hcont 1 (by simpa using hc.2)
    · exact hk0 (by simp at h2; omega)
  · split at h2
    · rename_i hc
      simp only [Bool.and_eq_true] at hc
      split at h2
      · rcases (by simp at h2; omega : k = 0 ∨ k = 1 ∨ k = 2) with rfl | rfl | rfl
        · exact hk0 rfl
        · exact hcont 1 (by simpa using hc.1.2)
        · exact hcont 2 (by simpa using hc.2)
      · exact hk0 (by simp at h2; omega)
    · split at h2
      · rename_i hc
        simp only [Bool.and_eq_true] at hc
        split at h2
        · rcases (by simp at h2; omega : k = 0 ∨ k = 1 ∨ k = 2 ∨ k = 3) with rfl | rfl | rfl | rfl
          · exact hk0 rfl
          · exact hcont 1 (by simpa using hc.1.1.2)
          · exact hcont 2 (by simpa using hc.1.2)
          · exact hcont 3 (by simpa using hc.2)
        · exact hk0 (by simp at h2; omega)
      · exact hk0 (by simp at h2; omega)
/-- Bytes beyond ASCII are among no ASCII chars. -/
theorem noAny_high {s : ByteArray} {chars : List UInt8} (hac : ∀ b ∈ chars, b.toNat < 128) {i m : Nat} (hno : Lib.NoAny s.data.toList chars i) (h : ∀ j, i ≤ j → j < i + m → ∃ hj : j < s.size, 128 ≤ (s[j]'hj).toNat) : Lib.NoAny s.data.toList chars (i + m) := by
  intro j b hj hb
  by_cases hlt : j < i
  · exact hno j b hlt hb
  · obtain ⟨hjs, h1⟩ := h j (by omega) hj
    have : s[j]'hjs = b := by
      have h2 := Lib.data_getElem? s j hjs
      rw [h2] at hb
      exact Option.some.inj hb
    cases hc : chars.contains b
    · rfl
    · have := hac b (by simpa using hc)
      subst b
      omega
set_option maxHeartbeats 8000000 in
set_option maxRecDepth 1000000 in
theorem IndexAny_short (s chars : ByteArray) (w : World) (h2 : 2 ≤ chars.size) (hcs : chars.size ≤ 140737488351232) (h8 : s.size ≤ 8) (hac : ∀ (j : Nat) (h : j < chars.size), (chars[j]'h).toNat < 128) :
    Calls Tryz.prog 86 #[.string s, .string chars] w fun e w' => e = .returned (.int .i64 (Lib.indexAny s.data.toList chars.data.toList)) ∧ Below w.heap.size w w' := by
  have HA := Aside0.mk hac
  have hac' : ∀ b ∈ chars.data.toList, b.toNat < 128 := fun b hb => by
    obtain ⟨j, hj, rfl⟩ := List.getElem_of_mem hb
    exact hac j (by simpa using hj)
  have HC := Aside0.mk hac'
  clear hac hac'
  have hemp : chars.toList.isEmpty = false := by
    rw [Lib.toList_data]
    cases h : chars.data.toList with
    | nil => have := Lib.size_eq chars; rw [h, List.length_nil] at this; omega
    | cons _ _ => rfl
  have hn1 : ((chars.size : Int) == 1) = false := beq_eq_false_iff_ne.2 (by omega)
  have h8z : decide ((8 : Int) < (s.size : Int)) = false := decide_eq_false (by omega)
  go_enter Tryz.func86, Tryz.ntmps86
  go_wp2_with (go_at_call 111; refine (Tryz.strings_shouldUseASCIISet _ _).mono ?_; rintro e w1 ⟨rfl, hw⟩; rw [hw, h8z])
  go_loopw [9, 10] (fun _ _ wr => ∃ i : Nat, i ≤ s.size ∧ Aside0 (wr.heap[w.heap.size]? = some (.stringIter s i)) ∧ Aside0 (Below w.heap.size w wr) ∧ Aside0 (Lib.NoAny s.data.toList chars.data.toList i)) (fun _ _ wr => s.size - wr.iterPos w.heap.size)
  case atStart =>
    refine ⟨0, by omega, ⟨?_⟩, ⟨(Below.refl _ _).alloc (Nat.le_refl _) _⟩, ⟨Lib.NoAny.zero _ _⟩⟩
    simpa using World.iter_heap w s 0
  case round =>
    obtain ⟨i, hi, HIT, HB, HN⟩ := hrel
    by_cases hlt : i < s.size
    · have hB2 := Lib.below_iterAt HB.out (k := w.heap.size) (Nat.le_refl _) s (i + (Utf8.decode s i).2)
      have hit2 := Lib.iterAt_heap wr w.heap.size s i (i + (Utf8.decode s i).2) HIT.out
      have hsz : w.heap.size < wr.heap.size := (Array.getElem?_eq_some_iff.1 HIT.out).1
      have hsz2 : w.heap.size < (wr.iterAt w.heap.size s (i + (Utf8.decode s i).2)).heap.size := by rw [Lib.iterAt_size]; exact hsz
      have HB2 := Aside0.mk hB2
      have HIT2 := Aside0.mk hit2
      have hwp := Lib.decode_width_pos s i hlt
      clear hB2 hit2
      by_cases hx : (s[i]'hlt).toNat < 128
      · have hd : Utf8.decode s i = ((s[i]'hlt).toNat, 1) := decode_ascii s i hlt hx
        have hnx : ∀ ty, (Instr.next (.pointer (some ⟨w.heap.size, 0, none⟩)) true ty).run Tryz.prog wr = _ := fun ty => Lib.run_next_ascii_at wr w.heap.size s i ty HIT.out hlt hx
        rw [hd] at HB2 HIT2 hsz2
        clear hd hwp
        obtain ⟨x, hxx⟩ : ∃ x : UInt8, s[i]'hlt = x := ⟨_, rfl⟩
        have hxl : s.data.toList[i]? = some x := by rw [← hxx]; exact Lib.data_getElem? s i hlt
        rw [hxx] at hnx hx
        have HX : Aside0 (s.data.toList[i]? = some x) := ⟨hxl⟩
        clear hxl hxx
        have hcon := Lib.contains_iff_indexByte chars.data.toList x
        have hback : ((x.toNat : Int)).toNat.toUInt8 = x := by simp
        cases hin : chars.data.toList.contains x
        · rw [hin] at hcon
          have hneg : ¬ ((0 : Int) ≤ Lib.indexByte chars.data.toList x) := of_decide_eq_false hcon.symm
          have HS := Aside0.mk (HN.out.succ HX.out hin)
          clear hcon hin
          have HK := Aside0.mk hback
          clear hback
          go_wp2_with (go_at_call 110; refine (Tryz.strings_IndexRune_ascii _ _ _ (by omega) (by omega)).mono ?_; rintro e w1 ⟨rfl, hw⟩; rw [hw, HK.out])
          go_roundw
          case rel => exact ⟨i + 1, by omega, HIT2, HB2, HS⟩
          case measure =>
            simp only [World.iterPos, HIT2.out, HIT.out]
            omega
        · rw [hin] at hcon
          have hge : (0 : Int) ≤ Lib.indexByte chars.data.toList x := of_decide_eq_true hcon.symm
          have HH := Aside0.mk (Lib.indexAny_hit HN.out HX.out hin)
          clear hcon hin
          have HK := Aside0.mk hback
          clear hback
          go_wp2_with (go_at_call 110; refine (Tryz.strings_IndexRune_ascii _ _ _ (by omega) (by omega)).mono ?_; rintro e w1 ⟨rfl, hw⟩; rw [hw, HK.out])
          go_ret
          exact ⟨by rw [HH.out]; rfl, HB2.out⟩
      · have hnx : ∀ ty, (Instr.next (.pointer (some ⟨w.heap.size, 0, none⟩)) true ty).run Tryz.prog wr = _ := fun ty => Lib.run_next_any_at wr w.heap.size s i ty HIT.out hlt
        have hr := decode_high s i hlt (by omega)
        have hr2 := decode_le s i
        have HS := Aside0.mk (noAny_high HC.out HN.out (decode_cont s i hlt (by omega)))
        have hle : i + (Utf8.decode s i).2 ≤ s.size := by
          obtain ⟨hj, _⟩ := decode_cont s i hlt (by omega) (i + (Utf8.decode s i).2 - 1) (by omega) (by omega)
          omega
        obtain ⟨hr1, _⟩ := hr
        generalize (Utf8.decode s i).2 = wd at *
        generalize (Utf8.decode s i).1 = rn at *
        go_wp2_with (go_at_call 110; refine (IndexRune_high chars rn _ (by omega) (by omega) hcs HA.out).mono ?_; rintro e w1 ⟨rfl, hB3⟩)
        have hit3 : w1.heap[w.heap.size]? = some (.stringIter s (i + wd)) := by rw [hB3.block _ hsz2]; exact HIT2.out
        have HIT3 := Aside0.mk hit3
        have HB3 := Aside0.mk (HB2.out.trans (hB3.mono (Nat.le_of_lt hsz2)))
        clear hit3 hB3
        go_roundw
        case rel => exact ⟨i + wd, by omega, HIT3, HB3, HS⟩
        case measure =>
          simp only [World.iterPos, HIT3.out, HIT.out]
          omega
    · have hnx : ∀ ty, (Instr.next (.pointer (some ⟨w.heap.size, 0, none⟩)) true ty).run Tryz.prog wr = _ := fun ty => Lib.run_next_end_at wr w.heap.size s i ty HIT.out hlt
      obtain rfl : i = s.size := by omega
      have HH := Aside0.mk (Lib.indexAny_none (by rw [← Lib.size_eq]; exact HN.out))
      go_wp2
      go_ret
      exact ⟨by rw [HH.out]; rfl, HB.out⟩

theorem zeroSet (w : World) : (zeroValue 177).run Tryz.prog w = .ok (.agg (Array.replicate 256 (.bool false))) w :=
  (zero_of_info (t := 177) (v := .agg (Array.replicate 256 (.bool false))) (n := 256) (by kernel_rfl)).1 w
set_option maxHeartbeats 8000000 in
set_option maxRecDepth 1000000 in
theorem IndexAny_long (s chars : ByteArray) (w : World) (h2 : 2 ≤ chars.size) (h8 : 8 < s.size) (hs : s.size ≤ 140737488351232) (hcs : chars.size < 4294967281)
    (hascii : ∀ (j : Nat) b, chars.data.toList[j]? = some b → b.toNat < 128) :
    Calls Tryz.prog 86 #[.string s, .string chars] w fun e w' => e = .returned (.int .i64 (Lib.indexAny s.data.toList chars.data.toList)) ∧ Below w.heap.size w w' := by
  have hM := Tryz.strings_makeASCIISet zeroSet chars w hcs hascii
  clear hascii
  have hemp : chars.toList.isEmpty = false := by
    rw [Lib.toList_data]
    cases h : chars.data.toList with
    | nil => have := Lib.size_eq chars; rw [h, List.length_nil] at this; omega
    | cons _ _ => rfl
  have hn1 : ((chars.size : Int) == 1) = false := beq_eq_false_iff_ne.2 (by omega)
  have h8z : decide ((8 : Int) < (s.size : Int)) = true := decide_eq_true (by omega)
  have hsc : (storeCells ⟨w.heap.size + 1, 0, none⟩ (Lib.setCells chars.data.toList).toList 0).run Tryz.prog ((w.alloc (.cells (Lib.setCells chars.data.toList) 177)).alloc (.cells Tryz.zeroCells177 177)) = .ok () ((w.alloc (.cells (Lib.setCells chars.data.toList) 177)).alloc (.cells (Lib.setCells chars.data.toList) 177)) := by
    have := run_storeCells_new (P := Tryz.prog) (w.alloc (.cells (Lib.setCells chars.data.toList) 177)) 177 Tryz.zeroCells177 (Lib.setCells chars.data.toList) (by rw [Lib.setCells_size]; kernel_rfl) (by rw [Lib.setCells_size]; kernel_rfl) (Lib.setCells_one _)
    simpa using this
  have hsz := Lib.setCells_size chars.data.toList
  have hcellAt : ∀ x : UInt8, ((w.alloc (.cells (Lib.setCells chars.data.toList) 177)).alloc (.cells (Lib.setCells chars.data.toList) 177)).cell? ⟨w.heap.size + 1, x.toNat, none⟩ = some (.bool (chars.data.toList.contains x)) := fun x => by
    rw [World.cell?_alloc_at _ _ _ _ (by simp), Lib.setCells_at]
  have HC := Aside0.mk hcellAt
  clear hcellAt
  go_enter Tryz.func86, Tryz.ntmps86
  go_wp2_with (first
    | (go_at_call 111; refine (Tryz.strings_shouldUseASCIISet _ _).mono ?_; rintro e w' ⟨rfl, hw⟩; rw [hw, h8z])
    | (go_at_call 112; refine hM.mono ?_; rintro e w' ⟨rfl, hw⟩; rw [hw]))
  clear hM hsc
  go_loopg [8] s.size (fun g s8 wx => ∃ i : Nat, i + g = s.size ∧ s8 = .int .i64 i ∧ wx = ((w.alloc (.cells (Lib.setCells chars.data.toList) 177)).alloc (.cells (Lib.setCells chars.data.toList) 177)) ∧ Aside0 (Lib.NoAny s.data.toList chars.data.toList i))
  case atStart => exact ⟨0, by omega, rfl, rfl, ⟨Lib.NoAny.zero _ _⟩⟩
  case round =>
    obtain ⟨i, hig, rfl, rfl, HN⟩ := hrel
    cases gk with
    | zero =>
      obtain rfl : i = s.size := by omega
      have hiz : ¬ ((s.size : Int) < (s.size : Int)) := by omega
      go_wp2
      go_ret
      exact ⟨by rw [Lib.indexAny_none (by rw [← Lib.size_eq]; exact HN.out)]; rfl, ((Below.refl _ _).alloc (Nat.le_refl _) _).alloc (by simp) _⟩
    | succ g =>
      have hi : i < s.size := by omega
      have hiz : (i : Int) < (s.size : Int) := by omega
      obtain ⟨x, hx⟩ : ∃ x : UInt8, s[i]'hi = x := ⟨_, rfl⟩
      have hxl : s.data.toList[i]? = some x := by rw [← hx]; exact Lib.data_getElem? s i hi
      have Hx := Aside0.mk hxl
      clear hxl
      have hcx := HC.out x
      cases hin : chars.data.toList.contains x <;> rw [hin] at hcx
      · go_wp2_with (go_at_call 113; refine (Tryz.asciiSet_contains _ x _ _ hcx).mono ?_; rintro e w' ⟨rfl, hw⟩; rw [hw])
        go_roundg g
        case measure => omega
        case rel => exact ⟨i + 1, by omega, by first | rfl | simp, rfl, ⟨HN.out.succ Hx.out hin⟩⟩
      · go_wp2_with (go_at_call 113; refine (Tryz.asciiSet_contains _ x _ _ hcx).mono ?_; rintro e w' ⟨rfl, hw⟩; rw [hw])
        go_ret
        exact ⟨by rw [Lib.indexAny_hit HN.out Hx.out hin]; rfl, ((Below.refl _ _).alloc (Nat.le_refl _) _).alloc (by simp) _⟩

end Go.Proofs.YtepdiooaoegpfaaGreatDoor.Sup
end
section
/- How a quoted word of a command line is read, as a function on lists of bytes, and small facts about it. Conditions: those in each statement. -/
namespace Go.Proofs.YtepdiooaoegpfaaGreatDoor.Sup
set_option linter.unusedVariables false
set_option linter.unusedSimpArgs false

def lexq : List UInt8 → List UInt8 → Nat → Option (List UInt8 × Nat)
  | [], _, _ => none
  | c :: t, acc, p =>
    if c = 34 then some (acc, p + 1)
    else if c = 10 then none
    else if c = 92 then
      match t with
      | [] => none
      | d :: t' => if d = 34 then lexq t' (acc ++ [34]) (p + 2) else if d = 92 then lexq t' (acc ++ [92]) (p + 2) else if d = 110 then lexq t' (acc ++ [10]) (p + 2) else none
    else lexq t (acc ++ [c]) (p + 1)

def qW (r : Option (List UInt8 × Nat)) : ByteArray := match r with | some (l, _) => ⟨l.toArray⟩ | none => ⟨#[]⟩
def qP (r : Option (List UInt8 × Nat)) : Int := match r with | some (_, p) => p | none => 0
def qB (r : Option (List UInt8 × Nat)) : Bool := r.isSome

theorem lexq_cons (c : UInt8) (t acc : List UInt8) (p : Nat) : lexq (c :: t) acc p =
    if c = 34 then some (acc, p + 1)
    else if c = 10 then none
    else if c = 92 then
      match t with
      | [] => none
      | d :: t' => if d = 34 then lexq t' (acc ++ [34]) (p + 2) else if d = 92 then lexq t' (acc ++ [92]) (p + 2) else if d = 110 then lexq t' (acc ++ [10]) (p + 2) else none
    else lexq t (acc ++ [c]) (p + 1) := by
  rw [lexq.eq_def]
theorem drop_at (l : List UInt8) (p : Nat) (h : p < l.length) : l.drop p = l[p] :: l.drop (p + 1) := (List.drop_eq_getElem_cons h)

theorem qbyte (s : ByteArray) (p : Nat) (h : p < s.size) : s.data.toList.drop p = s[p]'h :: s.data.toList.drop (p + 1) := by
  have h' : p < s.data.toList.length := by simpa using h
  rw [drop_at _ p h']
  rfl
theorem lexq_quote (s : ByteArray) (p : Nat) (acc) (h : p < s.size) (hc : (((s[p]'h).toNat : Int) == 34) = true) : lexq (s.data.toList.drop p) acc p = some (acc, p + 1) := by
  rw [qbyte s p h, lexq_cons, if_pos]
  have := beq_iff_eq.1 hc
  exact UInt8.toNat_inj.1 (by simpa using (by omega : (s[p]'h).toNat = 34))
theorem u8n {c v : UInt8} (h : ((c.toNat : Int) == (v.toNat : Int)) = false) : ¬ c = v := by
  rintro rfl
  simp at h
theorem u8y {c v : UInt8} (h : ((c.toNat : Int) == (v.toNat : Int)) = true) : c = v := by
  have := beq_iff_eq.1 h
  exact UInt8.toNat_inj.1 (by omega)
theorem lexq_nl (s : ByteArray) (p : Nat) (acc) (h : p < s.size) (h34 : (((s[p]'h).toNat : Int) == 34) = false) (hc : (((s[p]'h).toNat : Int) == 10) = true) : lexq (s.data.toList.drop p) acc p = none := by
  rw [qbyte s p h, lexq_cons, if_neg (u8n (v := 34) h34), if_pos (u8y (v := 10) hc)]
theorem lexq_plain (s : ByteArray) (p : Nat) (acc) (h : p < s.size) (h34 : (((s[p]'h).toNat : Int) == 34) = false) (h10 : (((s[p]'h).toNat : Int) == 10) = false) (h92 : (((s[p]'h).toNat : Int) == 92) = false) : lexq (s.data.toList.drop p) acc p = lexq (s.data.toList.drop (p + 1)) (acc ++ [s[p]'h]) (p + 1) := by
  rw [qbyte s p h, lexq_cons, if_neg (u8n (v := 34) h34), if_neg (u8n (v := 10) h10), if_neg (u8n (v := 92) h92)]
theorem lexq_end (s : ByteArray) (p : Nat) (acc) (h : ¬ p < s.size) : lexq (s.data.toList.drop p) acc p = none := by
  rw [List.drop_eq_nil_of_le (by simpa using h), lexq]
theorem lexq_cut (s : ByteArray) (p : Nat) (acc) (h : p < s.size) (h34 : (((s[p]'h).toNat : Int) == 34) = false) (h10 : (((s[p]'h).toNat : Int) == 10) = false) (h92 : (((s[p]'h).toNat : Int) == 92) = true) (hn : ¬ p + 1 < s.size) : lexq (s.data.toList.drop p) acc p = none := by
  rw [qbyte s p h, lexq_cons, if_neg (u8n (v := 34) h34), if_neg (u8n (v := 10) h10), if_pos (u8y (v := 92) h92), List.drop_eq_nil_of_le (by simpa using hn)]
/-- What an escaped byte stands for. -/
def escOf (d : UInt8) : Option UInt8 := if d = 34 then some 34 else if d = 92 then some 92 else if d = 110 then some 10 else none
theorem lexq_esc (s : ByteArray) (p : Nat) (acc) (h : p < s.size) (h34 : (((s[p]'h).toNat : Int) == 34) = false) (h10 : (((s[p]'h).toNat : Int) == 10) = false) (h92 : (((s[p]'h).toNat : Int) == 92) = true) (hn : p + 1 < s.size) :
    lexq (s.data.toList.drop p) acc p = match escOf (s[p + 1]'hn) with | some x => lexq (s.data.toList.drop (p + 2)) (acc ++ [x]) (p + 2) | none => none := by
  rw [qbyte s p h, lexq_cons, if_neg (u8n (v := 34) h34), if_neg (u8n (v := 10) h10), if_pos (u8y (v := 92) h92), qbyte s (p + 1) hn]
  unfold escOf
  simp only
  split
  · rfl
  · split
    · rfl
    · split <;> rfl
/-- Where an escaped byte stands among the three. -/
theorem esc_index (d : UInt8) : (Lib.indexByte [34, 92, 110] d = -1 ∧ escOf d = none) ∨ (Lib.indexByte [34, 92, 110] d = 0 ∧ escOf d = some 34) ∨ (Lib.indexByte [34, 92, 110] d = 1 ∧ escOf d = some 92) ∨ (Lib.indexByte [34, 92, 110] d = 2 ∧ escOf d = some 10) := by
  by_cases h1 : d = 34
  · subst h1; exact .inr (.inl (by decide))
  by_cases h2 : d = 92
  · subst h2; exact .inr (.inr (.inl (by decide)))
  by_cases h3 : d = 110
  · subst h3; exact .inr (.inr (.inr (by decide)))
  refine .inl ⟨?_, by simp [escOf, h1, h2, h3]⟩
  have e1 : ((34 : UInt8) == d) = false := by simpa using fun e => h1 e.symm
  have e2 : ((92 : UInt8) == d) = false := by simpa using fun e => h2 e.symm
  have e3 : ((110 : UInt8) == d) = false := by simpa using fun e => h3 e.symm
  simp [Lib.indexByte, e1, e2, e3]

end Go.Proofs.YtepdiooaoegpfaaGreatDoor.Sup
end
