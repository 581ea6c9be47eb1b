/- A part of the proof: contracts of functions, over the abstract machine. -/
import Derived.Test.YtjaammiblfndaaaGreatDoorGzK
import Derived.Test.YtjaammiblfndaaaGreatDoorFxb
import Derived.Test.YtjaammiblfndaaaGreatDoorRb0
set_option linter.unusedVariables false
set_option linter.unusedSimpArgs false
set_option linter.all false
/- The library's functions that the sheet calls, taken over; as runs. -/
namespace Go.Proofs.YtjaammiblfndaaaGreatDoor
open Ram Go Go.Shelf
variable {W0 : World} {H : AH}

/-- internal/stringslite.Index, of one byte. -/
theorem f331 {l : List UInt8} {c : UInt8} : ACalls Tryz.prog W0 331 [.s l, .s [c]] H fun e H' => e = .ret (.i .i64 (Lib.indexByte l c)) ∧ H = H' := by
  refine grown_of ⟨_, Tryz.func331, by kernel_rfl, by kernel_rfl⟩ fun ι D w cs hv hR => ?_
  generalize hl2 : [c] = l2 at hv
  cases hv with
  | cons _ c1 _ _ r hn =>
    cases hn with
    | cons _ c2 _ _ r2 hn =>
      cases hn
      cases r with
      | s s =>
        cases r2 with
        | s s2 =>
          have e2 : s2 = ⟨#[c]⟩ := by
            cases s2 with
            | mk d => congr 1; exact Array.toList_inj.1 hl2.symm
          subst e2
          exact (Tryz.stringslite_Index_one s c w).mono fun e w' ⟨he, hw⟩ => ⟨_, he, .i _ _, hw ▸ Go.RowKit.Below.refl _ _⟩
/-- strings.Count, of one byte. -/
theorem f279 {l : List UInt8} {c : UInt8} : ACalls Tryz.prog W0 279 [.s l, .s [c]] H fun e H' => e = .ret (.i .i64 (Lib.countByte l c)) ∧ H = H' := by
  refine grown_of ⟨_, Tryz.func279, by kernel_rfl, by kernel_rfl⟩ fun ι D w cs hv hR => ?_
  generalize hl2 : [c] = l2 at hv
  cases hv with
  | cons _ c1 _ _ r hn =>
    cases hn with
    | cons _ c2 _ _ r2 hn =>
      cases hn
      cases r with
      | s s =>
        cases r2 with
        | s s2 =>
          have e2 : s2 = ⟨#[c]⟩ := by
            cases s2 with
            | mk d => congr 1; exact Array.toList_inj.1 hl2.symm
          subst e2
          exact (Tryz.strings_Count_one s c w).mono fun e w' ⟨he, hw⟩ => ⟨_, he, .i _ _, hw ▸ Go.RowKit.Below.refl _ _⟩
/-- strings.IndexRune, of a plain letter. -/
theorem f333 {l : List UInt8} {r : Int} (h0 : 0 ≤ r) (h1 : r < 128) : ACalls Tryz.prog W0 333 [.s l, .i .i32 r] H fun e H' => e = .ret (.i .i64 (Lib.indexByte l r.toNat.toUInt8)) ∧ H = H' := by
  refine grown_of ⟨_, Tryz.func333, by kernel_rfl, by kernel_rfl⟩ fun ι D w cs hv hR => ?_
  cases hv with
  | cons _ c _ _ r hn =>
    cases hn with
    | cons _ c2 _ _ r2 hn =>
      cases hn
      cases r2
      cases r with
      | s s => exact (Tryz.strings_IndexRune_ascii s _ w h0 h1).mono fun e w' ⟨he, hw⟩ => ⟨_, he, .i _ _, hw ▸ Go.RowKit.Below.refl _ _⟩
/-- strings.Join. -/
theorem f337 {v : V} {ls : List (List UInt8)} {sep : List UInt8} {md : Md} {F : Nat → Prop} (hs : SlV H md 1 v (ls.map sRow) F) (hl : (Lib.join ls sep).length ≤ 140737488355328) (hn : ls.length ≤ 140737488355328) :
    ACalls Tryz.prog W0 337 [v, .s sep] H fun e H' => e = .ret (.s (Lib.join ls sep)) ∧ H = H' :=
  join_of ⟨_, Tryz.func337, by kernel_rfl, by kernel_rfl⟩ Tryz.strings_Join_none Tryz.strings_Join hs hl hn

noncomputable section
def rIdx (vs : List V) (H : AH) (k : KT) : Bool := match vs with
  | [.s l, .s [c]] => fZ (Lib.indexByte l c) fun n => k (.i .i64 n) H
  | _ => false
def C331 : RunF Tryz.prog 331 :=
  ⟨rIdx, fun W0 vs H k hr => by
    unfold rIdx at hr
    split at hr
    · next l c =>
      rw [fZ_eq] at hr
      refine f331.mono fun e H' hh => ?_
      obtain ⟨rfl, rfl⟩ := hh
      exact ⟨_, rfl, hr⟩
    · cases hr⟩
def rCnt (vs : List V) (H : AH) (k : KT) : Bool := match vs with
  | [.s l, .s [c]] => fN (Lib.countByte l c) fun n => k (.i .i64 (Int.ofNat n)) H
  | _ => false
def C279 : RunF Tryz.prog 279 :=
  ⟨rCnt, fun W0 vs H k hr => by
    unfold rCnt at hr
    split at hr
    · next l c =>
      rw [fN_eq] at hr
      refine f279.mono fun e H' hh => ?_
      obtain ⟨rfl, rfl⟩ := hh
      exact ⟨_, rfl, hr⟩
    · cases hr⟩
def rIxr (vs : List V) (H : AH) (k : KT) : Bool := match vs with
  | [.s l, .i .i32 r] => match decide (0 ≤ r ∧ r < 128) with
    | true => fZ (Lib.indexByte l r.toNat.toUInt8) fun n => k (.i .i64 n) H
    | false => false
  | _ => false
def C333 : RunF Tryz.prog 333 :=
  ⟨rIxr, fun W0 vs H k hr => by
    unfold rIxr at hr
    split at hr
    · next l r =>
      split at hr
      · next h1 =>
        have h1 := of_decide_eq_true h1
        rw [fZ_eq] at hr
        refine (f333 h1.1 h1.2).mono fun e H' hh => ?_
        obtain ⟨rfl, rfl⟩ := hh
        exact ⟨_, rfl, hr⟩
      · cases hr
    · cases hr⟩
def strs : List V → Option (List (List UInt8))
  | [] => some []
  | .s l :: r => match strs r with
    | some x => some (l :: x)
    | none => none
  | _ :: _ => none
theorem strs_eq : ∀ {l : List V} {x : List (List UInt8)}, strs l = some x → l = x.map V.s
  | [], x, h => by cases h; rfl
  | v :: r, x, h => by
    unfold strs at h
    split at h
    · next hq => cases hq
    · next l r' hq =>
      obtain ⟨rfl, rfl⟩ := List.cons.inj hq
      split at h
      · next y hy => cases h; rw [List.map_cons, strs_eq hy]
      · cases h
    · cases h
theorem flat_s : ∀ ls : List (List UInt8), ls.map V.s = (ls.map sRow).flatten
  | [] => rfl
  | a :: l => by rw [List.map_cons, List.map_cons, List.flatten_cons, ← flat_s l]; rfl
def rJoin (vs : List V) (H : AH) (k : KT) : Bool := match vs with
  | [.sl 1 (some (id, o)) n c, .s sep] => getH H id fun ob => match ob with
    | .cells _ cs => match strs ((cs.drop o).take n) with
      | some ls => match decide (id < H.next ∧ ls.length = n ∧ n ≤ c ∧ o + c = cs.length ∧ n ≤ 1000 ∧ (Lib.join ls sep).length ≤ 1000000) with
        | true => catL (Lib.join ls sep) [] fun m => k (.s m) H
        | false => false
      | none => false
    | _ => false
  | _ => false
def C337 : RunF Tryz.prog 337 :=
  ⟨rJoin, fun W0 vs H k hr => by
    unfold rJoin at hr
    split at hr
    · next id o n c sep =>
      replace hr := getH_true hr; obtain ⟨ob, h1, hr⟩ := hr
      split at hr
      · next md cs =>
        split at hr
        · next ls hls =>
          split at hr
          · next hd =>
            have hd := of_decide_eq_true hd
            obtain ⟨d1, d2, d3, d4, d5, d6⟩ := hd
            rw [catL_eq, List.append_nil] at hr
            have he := strs_eq hls
            have hs : SlV H md 1 (.sl 1 (some (id, o)) n c) (ls.map sRow) (fun _ => True) := by
              refine .inr ⟨id, o, c, cs, by rw [List.length_map, d2], trivial, ⟨h1, d1, by rw [List.length_map, d2]; exact d3, by rw [Nat.mul_one]; exact d4, ?_, ?_⟩⟩
              · rw [List.length_map, d2, Nat.mul_one, he]
                exact flat_s ls
              · intro r hr
                obtain ⟨a, _, rfl⟩ := List.mem_map.1 hr
                rfl
            refine (f337 hs (Nat.le_trans d6 (by decide)) (by rw [d2]; exact Nat.le_trans d5 (by decide))).mono fun e H' hh => ?_
            obtain ⟨rfl, rfl⟩ := hh
            exact ⟨_, rfl, hr⟩
          · cases hr
        · cases hr
      · cases hr
    · cases hr⟩
/-- strings.Builder. -/
theorem lb166 : Lays.n166 Tryz.prog Tryz.lays159_ren := { Tryz.lays159 with }
theorem lb169 : Lays.n169 Tryz.prog Tryz.lays159_ren := { Tryz.lays159 with }
def C79 : RunF Tryz.prog 79 := runWS (ρ := Tryz.lays159_ren) lb166 Tryz.Builder_Extra_159 ⟨_, Tryz.func79, by kernel_rfl, by kernel_rfl⟩
def C80 : RunF Tryz.prog 80 := runBS (ρ := Tryz.lays159_ren) lb169 Tryz.Builder_Extra_159 ⟨_, Tryz.func80, by kernel_rfl, by kernel_rfl⟩
def C78 : RunF Tryz.prog 78 := runBL (ρ := Tryz.lays170_ren) 5 Tryz.lays170 ⟨_, Tryz.func78, by kernel_rfl, by kernel_rfl⟩
/-- What is drawn, in short. -/
def dP (i d : Nat) (p : PureOp) (h : Nat) : DItem := ⟨i, ⟨some d, .pure p, none⟩, h⟩
def dR (i d : Nat) (p : ReadOp) (h : Nat) : DItem := ⟨i, ⟨some d, .read p, none⟩, h⟩
end
end Go.Proofs.YtjaammiblfndaaaGreatDoor
