/- Written by programs of this session: laws and contracts that the law's proof stands on, merged into one text. Conditions: none beyond those in each statement. -/
import Derived.Test.YtepdiooaoegpfaaGreatDoorPkFx6
import Derived.Test.YtepdiooaoegpfaaGreatDoorPkEv20
section
/- Files are touched, and taken away. Conditions: those in each statement. -/
namespace Go.Proofs.YtepdiooaoegpfaaGreatDoor.Fx
open Go Go.Proofs Go.Ev Go.RowKit
set_option maxRecDepth 100000
set_option maxHeartbeats 1600000
set_option linter.unusedSimpArgs false
set_option linter.unusedVariables false
/-- What a file says that is touched. -/
def textF (l : List File) (s : ByteArray) : ByteArray := if thereF l s = true then (l.getD (posF l s) File.none).text else .empty
/-- What is wrong with a touch. -/
@[irreducible] def tcE (clock : Int) (l : List File) (name : ByteArray) : Int := if okD clock l = true then if isName name = true then writE clock l ⟨name, textF l name, clock + 1⟩ else 3 else 4
@[irreducible] def tcC (clock : Int) (l : List File) (name : ByteArray) : Int := if tcE clock l name = 0 then clock + 1 else 0
@[irreducible] def tcL (clock : Int) (l : List File) (name : ByteArray) : List File := if tcE clock l name = 0 then laidL l ⟨name, textF l name, clock + 1⟩ else []
def cutL (l : List File) (s : ByteArray) : List File := l.take (posF l s) ++ l.drop (posF l s + 1)
/-- What is wrong with taking a file away. -/
@[irreducible] def rmE (clock : Int) (l : List File) (name : ByteArray) : Int := if okD clock l = true then if isName name = true then if thereF l name = true then 0 else 21 else 3 else 4
@[irreducible] def rmC (clock : Int) (l : List File) (name : ByteArray) : Int := if rmE clock l name = 0 then clock else 0
@[irreducible] def rmL (clock : Int) (l : List File) (name : ByteArray) : List File := if rmE clock l name = 0 then cutL l name else []
theorem flat_cut (l : List File) (i : Nat) (zs : List AV) (hi : i < l.length) : ((l.map eF).flatMap AV.leaves ++ zs).take (i * 3) ++ (((l.map eF).flatMap AV.leaves ++ zs).take ((l.map eF).length * 3)).drop ((i + 1) * 3) = ((l.take i ++ l.drop (i + 1)).map eF).flatMap AV.leaves := by
  have h1 : ((l.map eF).flatMap AV.leaves ++ zs).take (i * 3) = ((l.take i).map eF).flatMap AV.leaves := by
    rw [List.take_append_of_le_length (by rw [flat_len]; omega), flat_take]
  have h2 : ((l.map eF).flatMap AV.leaves ++ zs).take ((l.map eF).length * 3) = (l.map eF).flatMap AV.leaves := by
    rw [List.length_map, ← flat_len l, List.take_left]
  rw [h1, h2, flat_drop]
  simp
theorem call_Delete : Callable Tryz.prog 74 := ⟨_, Tryz.func74, rfl, by kernel_rfl⟩
/-- Taking a file out of a row of its own, in a region that draws its order. -/
theorem wildA_del {c : Cfg} {K : AV → List Bx → Prop} {p j n cp i : Nat} {e : Int} {B : List AV} (he : e = ((i + 1 : Nat) : Int)) (h1 : c.own[j]? = some (.cells B [])) (hp : p ≤ j) (hB : B.length = cp * 3) (pB : pfL B = true) (hn : n ≤ cp) (hn9 : n ≤ 1000000000) (hc : cp ≤ 9223372036854775807) (hi : i < n)
    (k : ∀ B', pfL B' = true → B'.length = B.length → B'.take ((n - 1) * 3) = B.take (i * 3) ++ (B.take (n * 3)).drop ((i + 1) * 3) → K (.bs j 0 3 (n - 1) cp) (c.own.set j (.cells B' []))) :
    Callable Tryz.prog 74 ∧ ∃ R, XCalls Tryz.prog 74 ([AV.bs j 0 3 n cp, i64 i, i64 e].map (AV.up c.env.length)) ((c.env ++ c.own).map (Bx.up c.env.length)) R ∧
      ((∀ x ∈ c.env, Bx.cl c.env.length 0 x) → (∀ x ∈ c.env ++ c.own, Bx.cl c.env.length c.own.length x) → ∀ r ow env', R r ow env' → ∃ v own', r = AV.up c.env.length v ∧ env' = (c.env ++ own').map (Bx.up c.env.length) ∧ v.cl c.env.length own'.length ∧ (∀ x ∈ c.env ++ own', Bx.cl c.env.length own'.length x) ∧ ((∃ new, own' = c.own ++ new) ∨ ∃ i x, p ≤ i ∧ own' = c.own.set i x) ∧ K v own') := by
  subst he
  have hbox : ((c.env ++ c.own).map (Bx.up c.env.length))[c.env.length + j]? = some (.cells B []) := by
    rw [List.getElem?_map, List.getElem?_append_right (by omega), show c.env.length + j - c.env.length = j from by omega, h1]
    simp only [Option.map_some, Bx.up, upL_pf _ _ pB]
  refine ⟨call_Delete, _, c_DeleteB (q := c.env.length + j) hbox hB pB hn hn9 hc hi, fun hE hA r ow env' hR => ?_⟩
  unfold DelR at hR
  obtain ⟨rfl, B', q1, q2, q3, rfl, rfl⟩ := hR
  refine ⟨.bs j 0 3 (n - 1) cp, c.own.set j (.cells B' []), rfl, ?_, ?_, own_cl hA q1, .inr ⟨j, _, hp, rfl⟩, k B' q1 q2 q3⟩
  · rw [List.map_append, List.map_append, List.set_append_right _ _ (by simp), List.length_map, show c.env.length + j - c.env.length = j from by omega, List.map_set]
    simp only [Bx.up, upL_pf _ _ q1]
  · simp only [AV.cl, List.length_set]; exact (List.getElem?_eq_some_iff.1 h1).1
theorem call_Remove : Callable Tryz.prog 51 := ⟨_, Tryz.func51, rfl, by kernel_rfl⟩
end Go.Proofs.YtepdiooaoegpfaaGreatDoor.Fx
end
section
/- Disks that are written lie in new memory. Conditions: those in each statement. -/
namespace Go.Proofs.YtepdiooaoegpfaaGreatDoor.Fx
open Go Go.Proofs Go.Ev Go.RowKit
set_option maxRecDepth 100000
set_option maxHeartbeats 12800000
set_option linter.unusedSimpArgs false
set_option linter.unusedVariables false
theorem vL_F : ∀ l : List File, vL ((l.map eF).flatMap AV.leaves) = true
  | [] => rfl
  | _ :: r => vL_F r
abbrev VI (z : Int) : Value := .int .i64 z
/-- A disk and an error, the disk's files in new memory. -/
abbrev NewDisk (f : FuncId) (args : List AV) (c : Int) (L : List File) (e : Int) : Prop := XDisk Tryz.prog f args (VI c) [] [VI e] 3 (L.map eF)
theorem freshI_disk {own : List Bx} {j n off c1 : Nat} {c c' e e' : Int} {B : List AV} {os : List Nat} {L l' : List File} (hc : c = c') (he : e = e') (hL : L = l') (h : own[j]? = some (.cells B os)) (hn : n = l'.length) (hB : off + l'.length * 3 ≤ B.length) (ht : (B.drop off).take (n * 3) = (l'.map eF).flatMap AV.leaves) :
    FreshI own (VI c) [] [VI e] 3 (L.map eF) (.tup [.agg [i64 c', .bs j off 3 n c1], i64 e']) := by
  subst hc he hL hn
  unfold FreshI
  exact .inr ⟨j, off, c1, B, os, by rw [List.length_map]; rfl, h, by rw [List.length_map]; exact hB, by rw [List.length_map]; exact ht⟩
theorem freshI_none {own : List Bx} {c c' e e' : Int} {L : List File} {c0 : Nat} (hc : c = c') (he : e = e') (hL : L = []) : FreshI own (VI c) [] [VI e] 3 (L.map eF) (.tup [.agg [i64 c', .v (.slice none 0 c0)], i64 e']) := by
  subst hc he hL
  unfold FreshI
  exact .inl ⟨c0, rfl, rfl⟩
theorem callG_new {c : Cfg} {args : List AV} {f : FuncId} {dst : Option Tmp} {K : Cfg → Prop} {z e : Int} {L : List File} (h : NewDisk f args z L e) (ha : args.map (AV.up c.base) = args) (hp : pfL args = true)
    (h0 : L = [] → ∀ c0, K (c.after dst (.tup [.agg [i64 z, .v (.slice none 0 c0)], i64 e]) false))
    (h1 : ∀ B off cp, pfL B = true → off + L.length * 3 ≤ B.length → (B.drop off).take (L.length * 3) = (L.map eF).flatMap AV.leaves → K (({ c with own := c.own ++ [.cells B []] } : Cfg).after dst (.tup [.agg [i64 z, .bs c.own.length off 3 L.length cp], i64 e]) false)) : callG Tryz.prog c args f dst K := by
  refine callG_disk h (vL_F L) (by rw [ha]; exact shutL_pf _ _ _ hp) (fun h => h0 (by simpa using h)) ?_
  rw [List.length_map]
  exact h1
end Go.Proofs.YtepdiooaoegpfaaGreatDoor.Fx
end
section
/- A file laid on a disk, in new memory. Conditions: those in each statement. -/
namespace Go.Proofs.YtepdiooaoegpfaaGreatDoor.Fx
open Go Go.Proofs Go.Ev Go.RowKit
set_option maxRecDepth 100000
set_option maxHeartbeats 12800000
set_option linter.unusedSimpArgs false
set_option linter.unusedVariables false
theorem c_disk_laidD {clock : Int} {l : List File} {f : File} (hl : l.length ≤ 256) (hp : l.Pairwise fun a b => ltS a.name b.name = true) : NewDisk 95 [eD clock l, eF f] (if laidE l f = 0 then clock else 0) (laidL l f) (laidE l f) := by
  refine XDisk.body call_laid Tryz.func95 rfl (Nat.le_of_ble_eq_true (by rfl)) (els_F _).pf ?_
  repeat' ((conv => whnf); (fail_if_success refine zC ?_); first | refine zS ?_ | refine zB (fun h hs => ?_) (fun h hs => ?_) <;> try exact hs.elim | refine .inl ⟨_, _, c_disk_place hl hp, ?_⟩ | (first | (refine XW.drawW (M := 7) (p := 3) (W := [4, 5, 6]) (by kernel_rfl) (by kernel_rfl) ?_) | ((with_reducible show _ ∧ allW _ _); refine ⟨?_, ?_⟩) | exact trivial | (refine wildA_box call_CloneF rfl (els_F _) (fun env => c_CloneFB (by simp; omega) (els_F _) env) (fun h0 => ?_) (fun cp zs k1 k2 k3 k4 => ?_)) | ((with_reducible show (_ ∨ _) ∧ _ ∧ retB _ _ _ _ _); refine ⟨by first | exact .inr rfl | exact .inl rfl, rfl, ?_⟩) | (refine .inr ?_)) | exact zEws | refine zZws ?_ | (refine ⟨?_, ?_, ?_⟩; (first | omega | (have := posF_lt (by assumption); simp only [List.length_map]; omega) | (have := posF_lt (by assumption); simp only [List.length_map, List.length_append, flat_len, k3]; omega)); (first | omega | (have := posF_lt (by assumption); simp only [List.length_map]; omega) | (have := posF_lt (by assumption); simp only [List.length_map, List.length_append, flat_len, k3]; omega))) | (refine ⟨?_, ?_⟩; (first | omega | (have := posF_lt (by assumption); simp only [List.length_map]; omega) | (have := posF_lt (by assumption); simp only [List.length_map, List.length_append, flat_len, k3]; omega))) | fail)
  iterate 6
    first
    | · exact (nilThere h0 (by assumption)).elim
      · obtain ⟨e1, e2⟩ := laidE_full (l := l) (f := f) (by assumption) (by omega)
        conv => whnf
        refine freshI_none ?_ e1 e2
        rw [e1]; rfl
      · obtain ⟨e1, e2⟩ := laidE_no (l := l) (f := f) (by assumption) (by omega)
        obtain rfl : l = [] := by simpa using h0
        conv => whnf
        refine callG_insN (F := (eF f).leaves) rfl rfl rfl (fun B2 c2 q1 q2 q3 q4 => ?_)
        repeat' ((conv => whnf); (fail_if_success refine zC ?_); first | refine zS ?_ | refine zB (fun h hs => ?_) (fun h hs => ?_) <;> try exact hs.elim | ((with_reducible show (_ ∨ _) ∧ _ ∧ retB _ _ _ _ _); refine ⟨by first | exact .inr rfl | exact .inl rfl, rfl, ?_⟩) | exact zEw | refine zZw ?_ | fail)
        conv => whnf
        refine freshI_disk (by rw [e1]; rfl) e1 e2 rfl rfl ?_ ?_
        · show 0 + 1 * 3 ≤ _; omega
        · exact q4
    | · conv => whnf
        refine condT (Nat.ble_eq_true_of_le (show 0 + posF l f.name * 3 + 3 ≤ ((l.map eF).flatMap AV.leaves ++ zs).length from ?_)) ?_
        · have := posF_lt (l := l) (s := f.name) (by assumption)
          rw [k3]; simp only [List.length_map] at k1; omega
        · obtain ⟨e1, e2⟩ := laidE_yes (l := l) (f := f) (by assumption)
          repeat' ((conv => whnf); (fail_if_success refine zC ?_); first | refine zS ?_ | refine zB (fun h hs => ?_) (fun h hs => ?_) <;> try exact hs.elim | ((with_reducible show (_ ∨ _) ∧ _ ∧ retB _ _ _ _ _); refine ⟨by first | exact .inr rfl | exact .inl rfl, rfl, ?_⟩) | exact zEw | refine zZw ?_ | fail)
          conv => whnf
          refine freshI_disk (by rw [e1]; rfl) e1 e2 rfl (by simp) ?_ ?_
          · show 0 + (l.set (posF l f.name) f).length * 3 ≤ (wrL ((l.map eF).flatMap AV.leaves ++ zs) (0 + posF l f.name * 3) (eF f).leaves).length
            rw [wrL_len (by have := posF_lt (l := l) (s := f.name) (by assumption); rw [k3]; simp only [List.length_map] at k1; show _ + 3 ≤ _; omega), k3, List.length_set]
            simp only [List.length_map] at k1; omega
          · show (wrL ((l.map eF).flatMap AV.leaves ++ zs) (0 + posF l f.name * 3) (eF f).leaves).take ((l.map eF).length * 3) = _
            rw [Nat.zero_add, List.length_map]
            exact flat_set l f _ zs (posF_lt (by assumption))
      · obtain ⟨e1, e2⟩ := laidE_full (l := l) (f := f) (by assumption) (by omega)
        conv => whnf
        refine freshI_none ?_ e1 e2
        rw [e1]; rfl
      · obtain ⟨e1, e2⟩ := laidE_no (l := l) (f := f) (by assumption) (by omega)
        conv => whnf
        refine callG_ins (B := (l.map eF).flatMap AV.leaves ++ zs) (F := (eF f).leaves) rfl rfl rfl (Nat.ne_of_beq_eq_false rfl) k3 (pfL_append (els_F l).pf k4) rfl k1 (by simp; omega) k2 (by rw [List.length_map]; exact posF_le) (fun B2 c2 q1 q2 q3 q4 => ?_) (fun B2 c2 q1 q2 q3 q4 => ?_)
        all_goals replace q4 := q4.trans (flat_ins l f _ zs posF_le)
        · repeat' ((conv => whnf); (fail_if_success refine zC ?_); first | refine zS ?_ | refine zB (fun h hs => ?_) (fun h hs => ?_) <;> try exact hs.elim | ((with_reducible show (_ ∨ _) ∧ _ ∧ retB _ _ _ _ _); refine ⟨by first | exact .inr rfl | exact .inl rfl, rfl, ?_⟩) | exact zEw | refine zZw ?_ | fail)
          conv => whnf
          refine freshI_disk (by rw [e1]; rfl) e1 e2 rfl ?_ ?_ q4
          all_goals (simp only [List.length_append, List.length_take, List.length_cons, List.length_drop, List.length_map] at q2 ⊢; have := @posF_le l f.name; omega)
        · repeat' ((conv => whnf); (fail_if_success refine zC ?_); first | refine zS ?_ | refine zB (fun h hs => ?_) (fun h hs => ?_) <;> try exact hs.elim | ((with_reducible show (_ ∨ _) ∧ _ ∧ retB _ _ _ _ _); refine ⟨by first | exact .inr rfl | exact .inl rfl, rfl, ?_⟩) | exact zEw | refine zZw ?_ | fail)
          conv => whnf
          refine freshI_disk (by rw [e1]; rfl) e1 e2 rfl ?_ ?_ q4
          all_goals (simp only [List.length_append, List.length_take, List.length_cons, List.length_drop, List.length_map] at q2 ⊢; have := @posF_le l f.name; omega)
end Go.Proofs.YtepdiooaoegpfaaGreatDoor.Fx
end
section
/- Disks that are written, touched, or have a file less, lie in new memory. Conditions: those in each statement. -/
namespace Go.Proofs.YtepdiooaoegpfaaGreatDoor.Fx
open Go Go.Proofs Go.Ev Go.RowKit
set_option maxRecDepth 100000
set_option maxHeartbeats 1600000
set_option linter.unusedSimpArgs false
set_option linter.unusedVariables false
theorem c_disk_writtenD {clock : Int} {l : List File} {name text : ByteArray} (hc : 0 ≤ clock ∧ clock ≤ 1099511627776) (hl : l.length ≤ 256) (hp : l.Pairwise fun a b => ltS a.name b.name = true) :
    NewDisk 72 [eD clock l, str name, str text] (writC clock l ⟨name, text, clock + 1⟩) (writL clock l ⟨name, text, clock + 1⟩) (writE clock l ⟨name, text, clock + 1⟩) := by
  have hw : IntKind.i64.wrap (clock + 1) = clock + 1 := wrapId (by omega) (by omega)
  have a1 (h : ¬ laidE l ⟨name, text, clock + 1⟩ = 0) : writE clock l ⟨name, text, clock + 1⟩ = laidE l ⟨name, text, clock + 1⟩ := by unfold writE; rw [if_neg h]
  have a2 (h : laidE l ⟨name, text, clock + 1⟩ = 0) (k : clock = 1099511627776) : writE clock l ⟨name, text, clock + 1⟩ = 23 := by unfold writE; rw [if_pos h, if_pos k]
  have a3 (h : laidE l ⟨name, text, clock + 1⟩ = 0) (k : ¬ clock = 1099511627776) : writE clock l ⟨name, text, clock + 1⟩ = 0 := by unfold writE; rw [if_pos h, if_neg k]
  refine XDisk.body ⟨_, Tryz.func72, rfl, by kernel_rfl⟩ Tryz.func72 rfl (Nat.le_of_ble_eq_true (by rfl)) (els_F _).pf ?_
  repeat' ((conv => whnf); (fail_if_success refine zC ?_); first | refine zS ?_ | refine zB (fun h hs => ?_) (fun h hs => ?_) <;> try exact hs.elim | (first | (refine .inr (callG_new (c_disk_laidD (f := ⟨name, text, IntKind.i64.wrap (clock + 1)⟩) hl hp) rfl rfl (fun h0 c0 => ?_) (fun B off cp k1 k2 k3 => ?_))) | ((with_reducible show (_ ∨ _) ∧ _ ∧ retB _ _ _ _ _); refine ⟨by first | exact .inr rfl | exact .inl rfl, rfl, ?_⟩)) | exact zElw | refine zZlw ?_ | fail)
  all_goals rw [hw] at *
  all_goals conv => whnf
  · exact freshI_none (by unfold writC; rw [a1 hs, if_neg hs]) (a1 hs) (by unfold writL; rw [a1 hs, if_neg hs])
  · exact freshI_none (by unfold writC; rw [a2 (by assumption) hs]; rfl) (a2 (by assumption) hs) (by unfold writL; rw [a2 (by assumption) hs]; rfl)
  · exact freshI_none (by unfold writC; rw [a3 (by assumption) hs, if_pos rfl, if_pos (by assumption), wrapId (by omega) (by omega)]) (a3 (by assumption) hs) (by unfold writL; rw [a3 (by assumption) hs]; exact h0)
  · exact freshI_none (by unfold writC; rw [a1 hs, if_neg hs]) (a1 hs) (by unfold writL; rw [a1 hs, if_neg hs])
  · exact freshI_none (by unfold writC; rw [a2 (by assumption) hs]; rfl) (a2 (by assumption) hs) (by unfold writL; rw [a2 (by assumption) hs]; rfl)
  · exact freshI_disk (by unfold writC; rw [a3 (by assumption) hs, if_pos rfl, if_pos (by assumption), wrapId (by omega) (by omega)]) (a3 (by assumption) hs) (by unfold writL; rw [a3 (by assumption) hs]; rfl) rfl rfl k2 k3
theorem c_disk_WriteD {clock : Int} {l : List File} {name text : ByteArray} : NewDisk 48 [eD clock l, str name, str text] (wrC clock l name text) (wrL' clock l name text) (wrE clock l name text) := by
  refine XDisk.body ⟨_, Tryz.func48, rfl, by kernel_rfl⟩ Tryz.func48 rfl (Nat.le_of_ble_eq_true (by rfl)) (els_F _).pf ?_
  repeat' ((conv => whnf); (fail_if_success refine zC ?_); first | refine zS ?_ | refine zB (fun h hs => ?_) (fun h hs => ?_) <;> try exact hs.elim | refine .inl ⟨_, _, c_disk_asked, ?_⟩ | (first | (refine .inr (callG_new (c_disk_writtenD (okD_clock (asked0 (by assumption)).1) (okD_sorted (asked0 (by assumption)).1).1 (okD_sorted (asked0 (by assumption)).1).2) rfl rfl (fun h0 c0 => ?_) (fun B off cp k1 k2 k3 => ?_))) | ((with_reducible show (_ ∨ _) ∧ _ ∧ retB _ _ _ _ _); refine ⟨by first | exact .inr rfl | exact .inl rfl, rfl, ?_⟩)) | exact zElw | refine zZlw ?_ | fail)
  all_goals conv => whnf
  · have e : wrE clock l name text = bif okD clock l then errIf (isName name) 3 else 4 := by
      unfold wrE
      cases h1 : okD clock l <;> cases h2 : isName name <;> simp_all [errIf]
    have e0 : ¬ wrE clock l name text = 0 := by rw [e]; exact hs
    exact freshI_none (by unfold wrC; rw [if_neg e0]) e (by unfold wrL'; rw [if_neg e0])
  all_goals obtain ⟨q1, q2⟩ := asked0 (by assumption)
  · have e : wrE clock l name text = 20 := by unfold wrE; rw [if_pos q1, if_pos q2, if_pos (by omega)]
    exact freshI_none (by unfold wrC; rw [e]; rfl) e (by unfold wrL'; rw [e]; rfl)
  all_goals have e : wrE clock l name text = writE clock l ⟨name, text, clock + 1⟩ := by unfold wrE; rw [if_pos q1, if_pos q2, if_neg (by omega)]
  · exact freshI_none (by unfold wrC writC; rw [e]) e (Eq.trans (by unfold wrL' writL; rw [e]) h0)
  · exact freshI_disk (by unfold wrC writC; rw [e]) e (by unfold wrL' writL; rw [e]) rfl rfl k2 k3
theorem c_disk_TouchD {clock : Int} {l : List File} {name : ByteArray} : NewDisk 50 [eD clock l, str name] (tcC clock l name) (tcL clock l name) (tcE clock l name) := by
  have yes : ∀ t, okD clock l = true → isName name = true → textF l name = t → tcE clock l name = writE clock l ⟨name, t, clock + 1⟩ := fun t h1 h2 h3 => by unfold tcE; rw [if_pos h1, if_pos h2, h3]
  refine XDisk.body ⟨_, Tryz.func50, rfl, by kernel_rfl⟩ Tryz.func50 rfl (Nat.le_of_ble_eq_true (by rfl)) (els_F _).pf ?_
  repeat' ((conv => whnf); (fail_if_success refine zC ?_); first | refine zS ?_ | refine zB (fun h hs => ?_) (fun h hs => ?_) <;> try exact hs.elim | refine .inl ⟨_, _, c_disk_asked, ?_⟩ | refine .inl ⟨_, _, c_disk_place (okD_sorted (asked0 (by assumption)).1).1 (okD_sorted (asked0 (by assumption)).1).2, ?_⟩ | (first | (refine .inr (callG_new (c_disk_writtenD (okD_clock (asked0 (by assumption)).1) (okD_sorted (asked0 (by assumption)).1).1 (okD_sorted (asked0 (by assumption)).1).2) rfl rfl (fun h0 c0 => ?_) (fun B off cp k1 k2 k3 => ?_))) | ((with_reducible show (_ ∨ _) ∧ _ ∧ retB _ _ _ _ _); refine ⟨by first | exact .inr rfl | exact .inl rfl, rfl, ?_⟩) | rw [getD_mapI File.none (posF_lt (by assumption))]) | exact zElws | refine zZlws ?_ | (refine ⟨?_, ?_, ?_⟩; (first | omega | (have := posF_lt (by assumption); simp only [List.length_map]; omega)); (first | omega | (have := posF_lt (by assumption); simp only [List.length_map]; omega))) | (refine ⟨?_, ?_⟩; (first | omega | (have := posF_lt (by assumption); simp only [List.length_map]; omega))) | fail)
  all_goals conv => whnf
  · have e : tcE clock l name = bif okD clock l then errIf (isName name) 3 else 4 := by
      unfold tcE
      cases h1 : okD clock l <;> cases h2 : isName name <;> simp_all [errIf]
    have e0 : ¬ tcE clock l name = 0 := by rw [e]; exact hs
    exact freshI_none (by unfold tcC; rw [if_neg e0]) e (by unfold tcL; rw [if_neg e0])
  all_goals obtain ⟨q1, q2⟩ := asked0 (by assumption)
  iterate 2
    have e3 : textF l name = (l.getD (posF l name) File.none).text := by unfold textF; rw [if_pos hs]
    have e := yes _ q1 q2 e3
    first
    | exact freshI_none (by unfold tcC writC; rw [e]) e (Eq.trans (by unfold tcL writL; rw [e, e3]) h0)
    | exact freshI_disk (by unfold tcC writC; rw [e]) e (by unfold tcL writL; rw [e, e3]) rfl rfl k2 k3
  iterate 2
    have e3 : textF l name = .empty := by unfold textF; rw [if_neg (by rw [hs]; simp)]
    have e := yes _ q1 q2 e3
    first
    | exact freshI_none (by unfold tcC writC; rw [e]; rfl) e (Eq.trans (by unfold tcL writL; rw [e, e3]; rfl) h0)
    | exact freshI_disk (by unfold tcC writC; rw [e]; rfl) e (by unfold tcL writL; rw [e, e3]; rfl) rfl rfl k2 k3
theorem c_disk_RemoveD {clock : Int} {l : List File} {name : ByteArray} : NewDisk 51 [eD clock l, str name] (rmC clock l name) (rmL clock l name) (rmE clock l name) := by
  refine XDisk.body call_Remove Tryz.func51 rfl (Nat.le_of_ble_eq_true (by rfl)) (els_F _).pf ?_
  have hwp : l.length ≤ 256 → thereF l name = true → IntKind.i64.wrap ((posF l name : Int) + 1) = ((posF l name + 1 : Nat) : Int) := fun hl h => by have := posF_lt h; rw [wrapId (by omega) (by omega)]; omega
  repeat' ((conv => whnf); (fail_if_success refine zC ?_); first | refine zS ?_ | refine zB (fun h hs => ?_) (fun h hs => ?_) <;> try exact hs.elim | refine .inl ⟨_, _, c_disk_asked, ?_⟩ | refine .inl ⟨_, _, c_disk_place (okD_sorted (asked0 (by assumption)).1).1 (okD_sorted (asked0 (by assumption)).1).2, ?_⟩ | refine ⟨_, _, c_disk_asked, ?_⟩ | refine ⟨_, _, c_disk_place (okD_sorted (asked0 (by assumption)).1).1 (okD_sorted (asked0 (by assumption)).1).2, ?_⟩ | (first | (refine XW.drawW (id := 7) (M := 9) (p := 2) (W := [4, 8]) (by kernel_rfl) (by kernel_rfl) ?_) | ((with_reducible show _ ∧ allW _ _); refine ⟨?_, ?_⟩) | exact trivial | (refine wildA_box call_CloneF rfl (els_F _) (fun env => c_CloneFB (by have := (okD_sorted (asked0 (by assumption)).1).1; simp; omega) (els_F _) env) (fun h0 => ?_) (fun cp zs k1 k2 k3 k4 => ?_)) | ((with_reducible show (_ ∨ _) ∧ _ ∧ retB _ _ _ _ _); refine ⟨by first | exact .inr rfl | exact .inl rfl, rfl, ?_⟩)) | exact zElw | refine zZlw ?_ | fail)
  · have e : rmE clock l name = bif okD clock l then errIf (isName name) 3 else 4 := by
      unfold rmE
      cases h1 : okD clock l <;> cases h2 : isName name <;> simp_all [errIf]
    have e0 : ¬ rmE clock l name = 0 := by rw [e]; exact hs
    conv => whnf
    exact freshI_none (by unfold rmC; rw [if_neg e0]) e (by unfold rmL; rw [if_neg e0])
  · obtain ⟨q1, q2⟩ := asked0 (by assumption)
    have e : rmE clock l name = 21 := by unfold rmE; rw [if_pos q1, if_pos q2, if_neg (by rw [hs]; simp)]
    conv => whnf
    exact freshI_none (by unfold rmC; rw [e]; rfl) e (by unfold rmL; rw [e]; rfl)
  · exact (nilThere h0 hs).elim
  · obtain ⟨q1, q2⟩ := asked0 (by assumption)
    have e : rmE clock l name = 0 := by unfold rmE; rw [if_pos q1, if_pos q2, if_pos hs]
    have hl := (okD_sorted q1).1
    have hlt := posF_lt hs
    conv => whnf
    refine wildA_del (B := (l.map eF).flatMap AV.leaves ++ zs) (hwp hl hs) rfl (Nat.le_of_ble_eq_true rfl) k3 (pfL_append (els_F l).pf k4) k1 (by simp; omega) k2 (by rw [List.length_map]; exact hlt) (fun B2 p1 p2 p3 => ?_)
    repeat' ((conv => whnf); (fail_if_success refine zC ?_); first | refine zS ?_ | refine zB (fun h hs => ?_) (fun h hs => ?_) <;> try exact hs.elim | ((with_reducible show (_ ∨ _) ∧ _ ∧ retB _ _ _ _ _); refine ⟨by first | exact .inr rfl | exact .inl rfl, rfl, ?_⟩) | exact zEw | refine zZw ?_ | fail)
    conv => whnf
    have hc : (cutL l name).length = l.length - 1 := by unfold cutL; simp only [List.length_append, List.length_take, List.length_drop]; omega
    refine freshI_disk (l' := cutL l name) (by unfold rmC; rw [e]; rfl) e (by unfold rmL; rw [e]; rfl) rfl (by rw [hc, List.length_map]) ?_ ?_
    · rw [p2, k3, hc]; rw [List.length_map] at k1; omega
    · exact p3.trans (flat_cut l _ zs hlt)
end Go.Proofs.YtepdiooaoegpfaaGreatDoor.Fx
end
