/- A part of the proof: contracts of functions, over the abstract machine. -/
import Derived.Test.YtjaammiblfndaaaGreatDoorFzL
import Derived.Test.YtjaammiblfndaaaGreatDoorProg
import Derived.WalkKit
import Derived.Tactics
import Derived.Tactics2
import Derived.Defers
import Derived.Recover
import Derived.Laws.Pointers
import Derived.KernelRfl
set_option linter.unusedVariables false
set_option linter.unusedSimpArgs false
set_option linter.all false
/- The parser's items: a call whose panic is caught. -/
namespace Go.Proofs.YtjaammiblfndaaaGreatDoor
open Ram Go
open Go.RowKit (Below)

set_option maxRecDepth 100000 in
theorem cat_idle (p : Addr) (w : World) :
    CallsD Tryz.prog 150 #[.pointer (some p)] .returning w fun e u' w' => e = .returned (.tuple #[]) ∧ u' = .returning ∧ w' = w.alloc (.cells #[.int .i64 0] 261) := by
  refine callsD_of_wpS Tryz.func150 rfl fun c₀ cs hu => ?_
  apply wpS_seq
  apply wpS_region
  simp [wpOpsS, go_sem, recoverD, hu, Tryz.ntmps150, Exit.thenS]
  refine wpS_of_wp ?_
  rw [show (#[Value.pointer (some p)] ++ ((Array.replicate 15 undef).setIfInBounds 3 Value.nilIface).setIfInBounds 0 Value.nilIface : Array Value) = #[.pointer (some p), .nilIface, undef, undef, .nilIface, undef, undef, undef, undef, undef, undef, undef, undef, undef, undef, undef] from rfl]
  have hta : ∀ w, (Instr.typeAssert .nilIface 20 261 true).run Tryz.prog w = .ok (.tuple #[.agg #[.int .i64 0], .bool false]) w := fun w => by kernel_rfl
  have hnq : ∀ w, (binOp BinOp.neq 20 .nilIface .nilIface).run Tryz.prog w = .ok (.bool false) w := fun w => by kernel_rfl
  have hal : ∀ w, (Instr.alloc 261 false (.tuple #[])).run Tryz.prog w = .ok (.pointer (some ⟨w.heap.size, 0, none⟩)) (w.alloc (.cells #[.int .i64 0] 261)) := fun w => by kernel_rfl
  go_wp2
  cases c₀
  simp_all [bodyPostS, results, Tryz.results150]

set_option maxRecDepth 100000 in
theorem cat_pan (p : Addr) (n x : Int) (w : World) (hc : (w.alloc (.cells #[.int .i64 n] 261)).cell? p = some (.int .i64 x)) (hz : (w.alloc (.cells #[.int .i64 n] 261)).frozen? p = false) :
    CallsD Tryz.prog 150 #[.pointer (some p)] (.panicking [{ v := .iface 261 (.agg #[.int .i64 n]), recovered := false }]) w fun e u' w' => e = .returned (.tuple #[]) ∧ u' = .panicking [{ v := .iface 261 (.agg #[.int .i64 n]), recovered := true }] ∧
      w' = (w.alloc (.cells #[.int .i64 n] 261)).setCell p (.int .i64 n) := by
  refine callsD_of_wpS Tryz.func150 rfl fun c₀ cs hu => ?_
  apply wpS_seq
  apply wpS_region
  simp [wpOpsS, go_sem, recoverD, hu, Tryz.ntmps150, Exit.thenS]
  refine wpS_of_wp ?_
  rw [show (#[Value.pointer (some p)] ++ ((Array.replicate 15 undef).setIfInBounds 3 (.iface 261 (.agg #[.int .i64 n]))).setIfInBounds 0 (.iface 261 (.agg #[.int .i64 n])) : Array Value) = #[.pointer (some p), .iface 261 (.agg #[.int .i64 n]), undef, undef, .iface 261 (.agg #[.int .i64 n]), undef, undef, undef, undef, undef, undef, undef, undef, undef, undef, undef] from rfl]
  have hta : ∀ w, (Instr.typeAssert (.iface 261 (.agg #[.int .i64 n])) 20 261 true).run Tryz.prog w = .ok (.tuple #[.agg #[.int .i64 n], .bool true]) w := fun w => by kernel_rfl
  have hal : ∀ w, (Instr.alloc 261 false (.tuple #[])).run Tryz.prog w = .ok (.pointer (some ⟨w.heap.size, 0, none⟩)) (w.alloc (.cells #[.int .i64 0] 261)) := fun w => by kernel_rfl
  go_wp2
  cases c₀
  simp_all [bodyPostS, results, Tryz.results150]

variable {W0 : World} {H : AH} {ι : Inj} {D : Nat → Prop} {w : World}

/-- A new cell. -/
theorem new1 (hR : Rel Tryz.prog W0 ι D H w) (n : Int) (T : TypeId) : Rel Tryz.prog W0 (updI ι H.next ⟨w.heap.size, 0, 1⟩) (addD D H.next) (H.alloc (.cells .rw [.i .i64 n])) (w.alloc (.cells #[.int .i64 n] T)) ∧
    Stp ι D H w (updI ι H.next ⟨w.heap.size, 0, 1⟩) (addD D H.next) (H.alloc (.cells .rw [.i .i64 n])) (w.alloc (.cells #[.int .i64 n] T)) :=
  rel_alloc (o := .cells .rw [.i .i64 n]) (O := .cells #[.int .i64 n] T (0, 0)) (n := 1) (w' := w.alloc (.cells #[.int .i64 n] T)) hR
    ⟨rfl, rfl, rfl, by show w.heap.size ≤ (w.heap.push _).size; simp⟩ rfl (by
      refine ⟨#[.int .i64 n], T, (0, 0), ?_, rfl, by simp, by simp [V.one], ?_, fun _ => rfl, fun h => by cases h⟩
      · show (w.heap.push _)[w.heap.size]? = _
        rw [Array.getElem?_push, if_pos rfl]
      · simp only [List.length_cons, List.length_nil]
        exact .cons _ _ _ _ (.i _ _) .nil)
/-- A cell written. -/
theorem set1 {i b : Nat} {x : V} (hR : Rel Tryz.prog W0 ι D H w) (hg : H.get i = some (.cells .rw [x])) (hι : ι i = ⟨b, 0, 1⟩) (n : Int) : ∃ c e, w.heap[b]? = some (.cells #[c] e (0, 0)) ∧ RV ι D x c ∧
    Rel Tryz.prog W0 ι D (H.set i (.cells .rw [.i .i64 n])) (w.setCell ⟨b, 0, none⟩ (.int .i64 n)) ∧ Stp ι D H w ι D (H.set i (.cells .rw [.i .i64 n])) (w.setCell ⟨b, 0, none⟩ (.int .i64 n)) := by
  obtain ⟨cs, e, fr, g1, g2, g3, g4, g5, g6, g7⟩ := hR.objs _ _ hg
  have hf := g6 rfl
  subst hf
  rw [hι] at g1 g2 g3 g5
  simp only at g1 g2 g3 g5
  obtain ⟨c, rfl⟩ : ∃ c, cs = #[c] := by
    obtain ⟨l⟩ := cs
    match l, g2 with
    | [c], _ => exact ⟨c, rfl⟩
  have hx : RV ι D x c := by
    simp at g5
    cases g5 with
    | cons _ _ _ _ h1 _ => exact h1
  rw [setCell_blk _ g1]
  have ho := setBlk_out w b (.cells ((#[c] : Array Value).setIfInBounds 0 (.int .i64 n)) e (0, 0))
  refine ⟨c, e, g1, hx, rel_set hR hg rfl (fun _ => rfl) ho (fun k hk => setBlk_other (by rw [hι] at hk; exact hk)) ?_, stp_set hg rfl ho fun k hk => setBlk_other (by rw [hι] at hk; exact hk)⟩
  rw [hι]
  refine ⟨#[.int .i64 n], e, (0, 0), by rw [setBlk_same g1]; rfl, rfl, by simp, by simp [V.one], ?_, fun _ => rfl, fun h => by cases h⟩
  exact .cons _ _ _ _ (.i _ _) .nil

set_option maxRecDepth 100000 in
/-- rule.(*parser).items. -/
theorem f91 {q : Nat × Nat} {R : AEnd → AH → Prop} (hrest : ACalls Tryz.prog W0 151 [.p (some q)] (H.alloc (.cells .rw [.i .i64 0])) fun e H' =>
      (e = .ret (.tup []) ∧ (∃ x, H'.get H.next = some (.cells .rw [x])) ∧ R (.ret (.i .i64 0)) ((H'.set H.next (.cells .rw [.i .i64 0])).alloc (.cells .rw [.i .i64 0]))) ∨
      (∃ n, e = .pan (.ifc 261 (.agg [.i .i64 n])) ∧ (∃ x, H'.get H.next = some (.cells .rw [.i .i64 x])) ∧ R (.ret (.i .i64 n)) ((H'.alloc (.cells .rw [.i .i64 n])).set H.next (.cells .rw [.i .i64 n])))) :
    ACalls Tryz.prog W0 91 [.p (some q)] H R := by
  refine ⟨⟨_, Tryz.func91, by kernel_rfl, by kernel_rfl⟩, fun ι D w cs hv hR => ?_⟩
  cases hv with
  | cons _ c _ _ rc hn =>
  cases hn
  cases rc with
  | p id o h1 =>
  have hmf : ∀ (fn : Fn) (first cap : Array Value) (w : World), (Instr.makeFunc fn first cap).run Tryz.prog w = .ok (.func fn first cap) w := fun _ _ _ _ => rfl
  have e151 : ∀ args w, (callFunc 151 args).run Tryz.prog w = .ok (.enter 151 args) w := enters_of Tryz.func151 (by kernel_rfl) rfl
  obtain ⟨hA, hB⟩ := new1 hR 0 3
  have hcall := hrest.2 _ _ _ _ (.cons _ _ _ _ ((RV.p id o h1).ext hB.ext) .nil) hA
  go_enter_defers Tryz.func91, Tryz.ntmps91
  go_wp2_with (go_at_fn 151; refine hcall.mono ?_)
  rintro e w1 ae ι1 D1 H1 hcase hend hR1 hS1
  have hι : ι1 H.next = ⟨w.heap.size, 0, 1⟩ := by
    have := (hS1.ext H.next (.inr rfl)).2
    rw [this]; unfold updI; rw [if_pos rfl]
  rcases hcase with ⟨rfl, ⟨x, hx⟩, hQ⟩ | ⟨n, rfl, ⟨x, hx⟩, hQ⟩
  · obtain ⟨c, rfl, rc⟩ := hend
    obtain ⟨c1, T1, hb1, _, hR2, hS2⟩ := set1 hR1 hx hι 0
    have k0 : w1.cell? ⟨w.heap.size, 0, none⟩ = some c1 := by simp [World.cell?, hb1]
    have k1 : w1.frozen? ⟨w.heap.size, 0, none⟩ = false := by simp [World.frozen?, hb1]
    have hb2 : (w1.setCell ⟨w.heap.size, 0, none⟩ (.int .i64 0)).heap[w.heap.size]? = some (.cells #[.int .i64 0] T1 (0, 0)) := by rw [setCell_blk _ hb1, setBlk_same hb1]; rfl
    go_wp2
    refine leaves_cons (f := 150) (args := #[.pointer (some ⟨w.heap.size, 0, none⟩)]) (by simp) (by simp [go_sem]) ?_
    obtain ⟨hR3, hS3⟩ := new1 hR2 0 261
    obtain ⟨w2, hw2⟩ : ∃ w2, w2 = w1.setCell ⟨w.heap.size, 0, none⟩ (.int .i64 0) := ⟨_, rfl⟩
    rw [← hw2] at hb2 hR3 hS3 hR2 hS2 ⊢
    have hlt : w.heap.size < w2.heap.size := by
      rcases Nat.lt_or_ge w.heap.size w2.heap.size with h' | h'
      · exact h'
      · simp [Array.getElem?_eq_none h'] at hb2
    have hb3 : (w2.alloc (.cells #[.int .i64 0] 261)).heap[w.heap.size]? = some (.cells #[.int .i64 0] T1 (0, 0)) := by
      show (w2.heap.push _)[w.heap.size]? = _
      rw [Array.getElem?_push_lt hlt]
      simpa [hlt] using hb2
    have k3 : (w2.alloc (.cells #[.int .i64 0] 261)).cell? ⟨w.heap.size, 0, none⟩ = some (.int .i64 0) := by simp [World.cell?, hb3]
    refine (cat_idle _ _).mono ?_
    rintro e u' w'' ⟨rfl, rfl, rfl⟩
    simp [Leaves, settle, results, Tryz.results91, go_sem, k3]
    exact ⟨_, _, _, _, hQ, ⟨_, rfl, .i _ _⟩, hR3, ((hB.trans hS1).trans hS2).trans hS3⟩
  · obtain ⟨c, rfl, rc⟩ := hend
    obtain ⟨v, rfl, rv⟩ : ∃ v, c = .iface 261 v ∧ RV ι1 D1 (.agg [.i .i64 n]) v := by
      cases rc with
      | ifc _ _ c h => exact ⟨c, rfl, h⟩
    obtain rfl : v = .agg #[.int .i64 n] := by
      cases rv with
      | agg _ ds h =>
        cases h with
        | cons _ c _ cs h1 h2 => cases h1; cases h2; rfl
    show bodyPostD Tryz.prog Tryz.f91 _ (Exit.panic _) _ w1
    obtain ⟨hR2, hS2⟩ := new1 hR1 n 261
    have hx' : (H1.alloc (.cells .rw [.i .i64 n])).get H.next = some (.cells .rw [.i .i64 x]) := by
      have := hR1.get_lt _ _ hx
      rw [AH.get_alloc, if_neg (by omega)]; exact hx
    have hι2 : updI ι1 H1.next ⟨w1.heap.size, 0, 1⟩ H.next = ⟨w.heap.size, 0, 1⟩ := by
      have := hR1.get_lt _ _ hx
      unfold updI; rw [if_neg (by omega)]; exact hι
    obtain ⟨c1, T1, hb1, rc1, hR3, hS3⟩ := set1 hR2 hx' hι2 n
    obtain rfl : c1 = .int .i64 x := by cases rc1; rfl
    have k0 : (w1.alloc (.cells #[.int .i64 n] 261)).cell? ⟨w.heap.size, 0, none⟩ = some (.int .i64 x) := by simp [World.cell?, hb1]
    have k1 : (w1.alloc (.cells #[.int .i64 n] 261)).frozen? ⟨w.heap.size, 0, none⟩ = false := by simp [World.frozen?, hb1]
    have hb2 : ((w1.alloc (.cells #[.int .i64 n] 261)).setCell ⟨w.heap.size, 0, none⟩ (.int .i64 n)).heap[w.heap.size]? = some (.cells #[.int .i64 n] T1 (0, 0)) := by rw [setCell_blk _ hb1, setBlk_same hb1]; rfl
    have k3 : ((w1.alloc (.cells #[.int .i64 n] 261)).setCell ⟨w.heap.size, 0, none⟩ (.int .i64 n)).cell? ⟨w.heap.size, 0, none⟩ = some (.int .i64 n) := by simp [World.cell?, hb2]
    refine leaves_cons (f := 150) (args := #[.pointer (some ⟨w.heap.size, 0, none⟩)]) (by simp) (by simp [go_sem]) ?_
    refine (cat_pan _ n x _ k0 k1).mono ?_
    rintro e u' w'' ⟨rfl, rfl, rfl⟩
    simp [Leaves, settle, results, Tryz.results91, go_sem, k3]
    exact ⟨_, _, _, _, hQ, ⟨_, rfl, .i _ _⟩, hR3, ((hB.trans hS1).trans hS2).trans hS3⟩

noncomputable section
/-- Items, as a run. -/
def rItems (c : RunF Tryz.prog 151) (vs : List V) (H : AH) (k : KT) : Bool := match vs with
  | [.p (some q)] => opNext H fun n => opLay H (.cells .rw [.i .i64 (Int.ofNat (nat_lit 0))]) fun H1 => c.run [.p (some q)] H1 fun v H2 => match v with
    | .tup [] => getH H2 n fun o => match o with
      | .cells .rw [_] => setH H2 n (.cells .rw [.i .i64 (Int.ofNat (nat_lit 0))]) fun H3 => opLay H3 (.cells .rw [.i .i64 (Int.ofNat (nat_lit 0))]) fun H4 => k (.i .i64 (Int.ofNat (nat_lit 0))) H4
      | _ => false
    | _ => false
  | _ => false
def runItems (c : RunF Tryz.prog 151) : RunF Tryz.prog 91 :=
  ⟨rItems c, fun W0 vs H k hr => by
    unfold rItems at hr
    split at hr
    · next q =>
      rw [opNext_eq] at hr
      replace hr := opLay_true hr
      refine f91 ((c.ok W0 _ _ _ hr).mono fun e H2 hh => ?_)
      obtain ⟨v, rfl, h1⟩ := hh
      split at h1
      · replace h1 := getH_true h1; obtain ⟨o, h2, h1⟩ := h1
        split at h1
        · next x =>
          replace h1 := setH_true h1
          replace h1 := opLay_true h1
          exact .inl ⟨rfl, ⟨x, h2⟩, _, rfl, h1⟩
        · cases h1
      · cases h1
    · cases hr⟩
end
end Go.Proofs.YtjaammiblfndaaaGreatDoor
