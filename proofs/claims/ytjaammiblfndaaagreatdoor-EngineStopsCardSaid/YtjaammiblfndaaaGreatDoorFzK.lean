/- A part of the proof: contracts of functions, over the abstract machine. -/
import Derived.Test.YtjaammiblfndaaaGreatDoorFzI
set_option linter.unusedVariables false
set_option linter.unusedSimpArgs false
set_option linter.all false
/- A trie's child, as a run of its own: a search that the kernel reckons fast. -/
namespace Go.Proofs.YtjaammiblfndaaaGreatDoor
open Ram Go
noncomputable section
theorem kk161 : compFn Tryz.prog 161 = some ⟨23, .seq (.reg [⟨some 6, .pure (.mv (.c (.i .i64 0))), none⟩, ⟨some 7, .pure (.mv (.c (.b false))), none⟩]) (.seq (.reg [⟨some 11, .pure (.mv (.t 0)), none⟩, ⟨some 12, .pure (.nilCheck (.t 11)), none⟩, ⟨some 13, .pure (.fieldAddr 0 (.t 12)), none⟩, ⟨some 14, .read (.ld1 (.t 13)), none⟩, ⟨some 15, .pure (.mv (.t 1)), none⟩, ⟨some 16, .pure (.mv (.t 2)), none⟩, ⟨some 17, .pure (.build [.i .i64 0, .i .u8 0] [(0, (1, .t 15)), (1, (1, .t 16))]), none⟩, ⟨some 18, .read (.lookup (.flat [(0, .i), (1, .i)]) (.i .i64 0) true (.t 14) (.t 17)), none⟩, ⟨some 10, .pure (.mv (.t 18)), none⟩, ⟨some 19, .pure (.extract 0 (.t 10)), none⟩, ⟨some 20, .pure (.extract 1 (.t 10)), none⟩, ⟨some 8, .pure (.mv (.t 19)), none⟩, ⟨some 9, .pure (.mv (.t 20)), none⟩]) (.seq (.reg [⟨some 21, .pure (.mv (.t 8)), none⟩, ⟨some 22, .pure (.mv (.t 9)), none⟩, ⟨some 6, .pure (.mv (.t 21)), none⟩, ⟨some 7, .pure (.mv (.t 22)), none⟩]) .ret)), [.t 6, .t 7]⟩ := by kernel_rfl
variable {W0 : World} {H : AH}
abbrev edgeK : KS := .flat [(0, .i), (1, .i)]
theorem f161 {id o j : Nat} {md : Md} {cs : List V} {es : List (V × V)} {s b : Int} {r : Option (Nat × V)} (h1 : H.get id = some (.cells md cs)) (h2 : cs[o]? = some (.m (some j))) (h3 : H.get j = some (.map es)) (h4 : findV edgeK (.agg [.i .i64 s, .i .u8 b]) es = some r) :
    ACalls Tryz.prog W0 161 [.p (some (id, o)), .i .i64 s, .i .u8 b] H fun e H' => e = .ret (match r with | some (_, v) => .tup [v, .b true] | none => .tup [.i .i64 0, .b false]) ∧ H' = H := by
  have hk : (keyOk (.flat [(0, .i), (1, .i)]) (.agg [.i .i64 s, .i .u8 b]) = true) = True := eq_true rfl
  have h4 : findV (.flat [(0, .i), (1, .i)]) (.agg [.i .i64 s, .i .u8 b]) es = some r := h4
  refine acalls_in kk161 (by simp) ?_
  rcases r with _ | ⟨i, v⟩ <;> simp -dsimp [h1, h2, h3, h4, hk] <;> exact fin_mk ⟨rfl, rfl⟩

/-- A key's number. -/
def keyN (v : V) : Nat := match v with
  | .agg [.i .i64 (.ofNat s), .i .u8 (.ofNat b)] => Bool.rec (motive := fun _ => Nat) (nat_lit 0) (Nat.succ (Nat.add (Nat.mul s 256) b)) (Nat.blt b 256)
  | _ => nat_lit 0
theorem keyN_succ {v : V} {m : Nat} (h : keyN v = m + 1) : ∃ s b : Nat, v = .agg [.i .i64 (.ofNat s), .i .u8 (.ofNat b)] ∧ b < 256 ∧ m = s * 256 + b := by
  unfold keyN at h
  split at h
  · next s b =>
    cases hb : Nat.blt b 256 with
    | false => rw [hb] at h; cases h
    | true =>
      rw [hb] at h
      rw [Nat.blt_eq] at hb
      exact ⟨s, b, rfl, hb, (Nat.succ.inj h).symm⟩
  · cases h
def fnd1 (ih : Bool) (t : Nat) (y : Bool) (n : Nat) : Bool := Nat.rec (motive := fun _ => Bool) false (fun m _ => Bool.rec (motive := fun _ => Bool) ih y (Nat.beq m t)) n
def fnd (es : List (V × V)) (t : Nat) (n : Bool) (g : V → Bool) : Bool := List.rec (motive := fun _ => Bool) n (fun p _ ih => fnd1 ih t (g p.2) (keyN p.1)) es
theorem fnd_true {s b : Nat} (hb : b < 256) {n : Bool} {g : V → Bool} : ∀ {es : List (V × V)}, fnd es (s * 256 + b) n g = true → (findV edgeK (.agg [.i .i64 (.ofNat s), .i .u8 (.ofNat b)]) es = some none ∧ n = true) ∨ ∃ i v, findV edgeK (.agg [.i .i64 (.ofNat s), .i .u8 (.ofNat b)]) es = some (some (i, v)) ∧ g v = true
  | [], h => .inl ⟨rfl, h⟩
  | (k', v) :: es, h => by
    replace h : fnd1 (fnd es (s * 256 + b) n g) (s * 256 + b) (g v) (keyN k') = true := h
    cases hk : keyN k' with
    | zero => rw [hk] at h; cases h
    | succ m =>
      rw [hk] at h
      obtain ⟨s', b', rfl, hb', rfl⟩ := keyN_succ hk
      replace h : Bool.rec (motive := fun _ => Bool) (fnd es (s * 256 + b) n g) (g v) (Nat.beq (s' * 256 + b') (s * 256 + b)) = true := h
      by_cases e : s = s' ∧ b = b'
      · obtain ⟨rfl, rfl⟩ := e
        rw [Nat.beq_refl] at h
        have hs : sameKey edgeK (.agg [.i .i64 (.ofNat s), .i .u8 (.ofNat b)]) (.agg [.i .i64 (.ofNat s), .i .u8 (.ofNat b)]) = some true := by simp [sameKey, sameAt, sameCell]
        refine .inr ⟨0, v, ?_, h⟩
        simp only [findV, hs]
      · have hne : Nat.beq (s' * 256 + b') (s * 256 + b) = false := by
          cases hq : Nat.beq (s' * 256 + b') (s * 256 + b) with
          | false => rfl
          | true =>
            have := Nat.eq_of_beq_eq_true hq
            exact absurd ⟨by omega, by omega⟩ e
        rw [hne] at h
        have hs : sameKey edgeK (.agg [.i .i64 (.ofNat s), .i .u8 (.ofNat b)]) (.agg [.i .i64 (.ofNat s'), .i .u8 (.ofNat b')]) = some false := by
          by_cases e1 : s = s'
          · have e2 : (Int.ofNat b == Int.ofNat b') = false := by
              rw [beq_eq_false_iff_ne]; intro e2; exact e ⟨e1, Int.ofNat.inj e2⟩
            subst e1
            simp only [sameKey, sameAt, sameCell, e2, List.length_cons, List.length_nil, and_self, if_true, List.getElem?_cons_zero, List.getElem?_cons_succ, beq_self_eq_true]
          · have e2 : (Int.ofNat s == Int.ofNat s') = false := by
              rw [beq_eq_false_iff_ne]; intro e2; exact e1 (Int.ofNat.inj e2)
            simp only [sameKey, sameAt, sameCell, e2, List.length_cons, List.length_nil, and_self, if_true, List.getElem?_cons_zero, List.getElem?_cons_succ, beq_self_eq_true]
        simp only [findV, hs]
        rcases fnd_true hb h with ⟨h2, h⟩ | ⟨i, u, h2, h⟩
        · rw [h2]; exact .inl ⟨rfl, h⟩
        · rw [h2]; exact .inr ⟨i + 1, u, rfl, h⟩
def asZ (n : Int) (g : Nat → Bool) : Bool := Int.rec (motive := fun _ => Bool) g (fun _ => false) n
theorem asZ_true {n : Int} {g : Nat → Bool} (h : asZ n g = true) : ∃ m, n = .ofNat m ∧ g m = true := by
  cases n with
  | ofNat m => exact ⟨m, rfl, h⟩
  | negSucc m => cases h
def l3 (l : List V) (g : V → V → V → Bool) : Bool := List.rec (motive := fun _ => Bool) false (fun x r _ => List.rec (motive := fun _ => Bool) false (fun y r _ => List.rec (motive := fun _ => Bool) false (fun z r _ => List.rec (motive := fun _ => Bool) (g x y z) (fun _ _ _ => false) r) r) r) l
theorem l3_true {l : List V} {g : V → V → V → Bool} (h : l3 l g = true) : ∃ x y z, l = [x, y, z] ∧ g x y z = true := by
  rcases l with _ | ⟨x, _ | ⟨y, _ | ⟨z, _ | ⟨u, r⟩⟩⟩⟩
  · cases h
  · cases h
  · cases h
  · exact ⟨x, y, z, rfl, h⟩
  · cases h
def rCh2 (s b : Nat) (es : List (V × V)) (H : AH) (k : KT) : Bool := iteB (Nat.blt b 256) false (fN (Nat.add (Nat.mul s 256) b) fun t => fnd es t (k (.tup [.i .i64 (Int.ofNat (nat_lit 0)), .b false]) H) fun v => k (.tup [v, .b true]) H)
def rCh1 (x y z : V) (H : AH) (k : KT) (g : Nat → Nat → Nat → Nat → Bool) : Bool := asP x fun id o => asI y fun ky s => eqK .i64 ky (asI z fun kz b => eqK .u8 kz (asZ s fun s => asZ b fun b => g id o s b))
def rChild (vs : List V) (H : AH) (k : KT) : Bool := l3 vs fun x y z => rCh1 x y z H k fun id o s b => getH H id fun ob => asCells ob fun _ cs => nthL cs o fun m => asM m fun j => getH H j fun ob => asMap ob fun es => rCh2 s b es H k
def runChild : RunF Tryz.prog 161 :=
  ⟨rChild, fun W0 vs H k hr => by
    replace hr := l3_true hr; obtain ⟨x, y, z, rfl, hr⟩ := hr
    replace hr := asP_true hr; obtain ⟨id, o, rfl, hr⟩ := hr
    replace hr := asI_true hr; obtain ⟨ky, s, rfl, hr⟩ := hr
    replace hr := eqK_true hr; obtain ⟨rfl, hr⟩ := hr
    replace hr := asI_true hr; obtain ⟨kz, b, rfl, hr⟩ := hr
    replace hr := eqK_true hr; obtain ⟨rfl, hr⟩ := hr
    replace hr := asZ_true hr; obtain ⟨s, rfl, hr⟩ := hr
    replace hr := asZ_true hr; obtain ⟨b, rfl, hr⟩ := hr
    replace hr := getH_true hr; obtain ⟨ob, h1, hr⟩ := hr
    replace hr := asCells_true hr; obtain ⟨md, cs, rfl, hr⟩ := hr
    replace hr := nthL_true hr; obtain ⟨m, h2, hr⟩ := hr
    replace hr := asM_true hr; obtain ⟨j, rfl, hr⟩ := hr
    replace hr := getH_true hr; obtain ⟨ob, h3, hr⟩ := hr
    replace hr := asMap_true hr; obtain ⟨es, rfl, hr⟩ := hr
    replace hr := iteB_f hr; obtain ⟨hb, hr⟩ := hr
    rw [Nat.blt_eq] at hb
    rw [fN_eq] at hr
    rcases fnd_true hb hr with ⟨h4, hr⟩ | ⟨i, v, h4, hr⟩
    · refine (f161 h1 h2 h3 h4).mono fun e H' hh => ?_
      obtain ⟨rfl, rfl⟩ := hh
      exact ⟨_, rfl, hr⟩
    · refine (f161 h1 h2 h3 h4).mono fun e H' hh => ?_
      obtain ⟨rfl, rfl⟩ := hh
      exact ⟨_, rfl, hr⟩⟩
end
end Go.Proofs.YtjaammiblfndaaaGreatDoor
