/- A part of the proof: contracts of functions, over the abstract machine. -/
import Derived.Test.YtjaammiblfndaaaGreatDoorFx5
import Derived.Test.YtjaammiblfndaaaGreatDoorRaD
set_option linter.unusedVariables false
set_option linter.unusedSimpArgs false
set_option linter.all false
/- Registers that a piece of code does not write keep their values. -/
namespace Ram
open Go

def wrD : Option Nat → List Nat
  | some d => [d]
  | none => []
def wrL : List AOper → List Nat
  | [] => []
  | o :: l => wrD o.dst ++ wrL l
def wrI : List DItem → List Nat
  | [] => []
  | i :: l => wrD i.o.dst ++ wrI l
def wrS : List DStage → List Nat
  | [] => []
  | s :: l => wrI s.items ++ (match s.act with | some o => wrD o.dst | none => []) ++ wrS l
def wr : ACode → List Nat
  | .skip => []
  | .reg l => wrL l
  | .draw _ l => wrS l
  | .seq x y => wr x ++ wr y
  | .cond _ x y => wr x ++ wr y
  | .block _ x => wr x
  | .loop x => wr x
  | .rangeF _ _ _ => []
  | .exit _ => []
  | .ret => []

/-- Alike off some registers. -/
def Off (W : List Nat) (e0 e : Env) : Prop := ∀ t, t ∉ W → e.get t = e0.get t
variable {P : Program} {W0 : World} {W : List Nat} {e0 : Env}
theorem Off.put {e : Env} {d : Option Nat} {v : V} (h : Off W e0 e) (hd : ∀ t ∈ wrD d, t ∈ W) : Off W e0 (putE e d v) := by
  cases d with
  | none => exact h
  | some d =>
    intro t ht
    show (e.set d v).get t = _
    rw [Tr.get_set_ne _ _ _ _ (fun e => ht (by rw [e]; exact hd d (by simp [wrD])))]
    exact h t ht
def KeepQ (W : List Nat) (e0 : Env) (Q : AExit → Env → AH → Prop) : AExit → Env → AH → Prop
  | .pan v, env, H => Q (.pan v) env H
  | e, env, H => Q e env H ∧ Off W e0 env

theorem aops_keep {Q : AExit → Env → AH → Prop} : ∀ {l : List AOper} {env : Env} {H : AH}, (∀ t ∈ wrL l, t ∈ W) → Off W e0 env → aops P W0 Q l env H → aops P W0 (KeepQ W e0 Q) l env H
  | [], _, _, _, hR, h => ⟨h, hR⟩
  | o :: r, env, H, hW, hR, h => by
    have h1 : ∀ t ∈ wrD o.dst, t ∈ W := fun t ht => hW t (List.mem_append_left _ ht)
    have h2 : ∀ t ∈ wrL r, t ∈ W := fun t ht => hW t (List.mem_append_right _ ht)
    unfold aops at h ⊢
    split at h
    · exact aop1_mono (fun v H h => h) (fun v H h => aops_keep h2 (hR.put h1) h) h
    · exact aops_keep h2 (hR.put h1) h
    · exact h.elim
theorem ditems_keep {base : Nat} {H : AH} {K : Env → Pend → Prop} : ∀ {l : List DItem} {env : Env} {pend : Pend}, (∀ t ∈ wrI l, t ∈ W) → Off W e0 env → ditems base H l env pend K → ditems base H l env pend fun env pend => K env pend ∧ Off W e0 env
  | [], _, _, _, hR, h => ⟨h, hR⟩
  | ⟨i, o, hh⟩ :: r, env, pend, hW, hR, h => by
    have h1 : ∀ t ∈ wrD o.dst, t ∈ W := fun t ht => hW t (List.mem_append_left _ ht)
    have h2 : ∀ t ∈ wrI r, t ∈ W := fun t ht => hW t (List.mem_append_right _ ht)
    unfold ditems at h ⊢
    split at h
    · split at h
      · split at h <;> first | exact ditems_keep h2 (hR.put h1) h | exact h.elim
      · split at h <;> first | exact ditems_keep h2 (hR.put h1) h | exact h.elim
      · split at h <;> first | exact ditems_keep h2 (hR.put h1) h | exact h.elim
      · exact h.elim
    · exact ditems_keep h2 (hR.put h1) h
    · exact h.elim
theorem dstages_keep {Q : AExit → Env → AH → Prop} {base : Nat} : ∀ {l : List DStage} {k : Nat} {env : Env} {H : AH} {pend : Pend}, (∀ t ∈ wrS l, t ∈ W) → Off W e0 env → dstages P W0 Q base l k env H pend → dstages P W0 (KeepQ W e0 Q) base l k env H pend
  | [], _, _, _, _, _, _, h => h
  | s :: r, k, env, H, pend, hW, hR, h => by
    have h1 : ∀ t ∈ wrI s.items, t ∈ W := fun t ht => hW t (by simp only [wrS]; exact List.mem_append_left _ (List.mem_append_left _ ht))
    have h2 : ∀ t ∈ wrS r, t ∈ W := fun t ht => hW t (by simp only [wrS]; exact List.mem_append_right _ ht)
    have h3 : ∀ o, s.act = some o → ∀ t ∈ wrD o.dst, t ∈ W := fun o ho t ht => hW t (by simp only [wrS, ho]; exact List.mem_append_left _ (List.mem_append_right _ ht))
    unfold dstages at h ⊢
    refine ⟨h.1, ditems_mono (fun env pend hh => ?_) (ditems_keep h1 hR h.2)⟩
    obtain ⟨h, hR⟩ := hh
    split at h
    · exact ⟨h, hR⟩
    · next o ho =>
      split at h
      · exact aop1_mono (fun v H h => h) (fun v H h => dstages_keep h2 (hR.put (h3 o ho)) h) h
      · exact dstages_keep h2 (hR.put (h3 o ho)) h
      · exact h.elim
theorem awp_keep : ∀ {c : ACode} {Q : AExit → Env → AH → Prop} {env : Env} {H : AH}, (∀ t ∈ wr c, t ∈ W) → Off W e0 env → awp P W0 c Q env H → awp P W0 c (KeepQ W e0 Q) env H := by
  intro c
  induction c with
  | skip => intro Q env H _ hR h; exact ⟨h, hR⟩
  | reg l => intro Q env H hW hR h; exact aops_keep hW hR h
  | draw m l => intro Q env H hW hR h; exact dstages_keep hW hR h
  | seq x y ihx ihy =>
    intro Q env H hW hR h
    refine awp_mono (c := x) (fun e env H h => ?_) (ihx (fun t ht => hW t (List.mem_append_left _ ht)) hR h)
    cases e with
    | normal => exact ihy (fun t ht => hW t (List.mem_append_right _ ht)) h.2 h.1
    | exit i => exact h
    | ret => exact h
    | pan v => exact h
  | cond c x y ihx ihy =>
    intro Q env H hW hR h
    simp only [awp] at h ⊢
    split at h
    · exact ihx (fun t ht => hW t (List.mem_append_left _ ht)) hR h
    · exact ihy (fun t ht => hW t (List.mem_append_right _ ht)) hR h
    · exact h.elim
  | block id x ih =>
    intro Q env H hW hR h
    refine awp_mono (c := x) (fun e env H h => ?_) (ih hW hR h)
    cases e with
    | exit i =>
      obtain ⟨h, hR⟩ := h
      simp only [inBlk] at h ⊢
      split at h
      · next hi => rw [if_pos hi]; exact ⟨h, hR⟩
      · next hi => rw [if_neg hi]; exact ⟨h, hR⟩
    | normal => exact h
    | ret => exact h
    | pan v => exact h
  | loop x ih =>
    intro Q env H hW hR h
    obtain ⟨I, n, h0, hr⟩ := h
    refine ⟨fun n env H => I n env H ∧ Off W e0 env, n, ⟨h0, hR⟩, fun n env H hI => awp_mono (fun e env H h => ?_) (ih hW hI.2 (hr n env H hI.1))⟩
    cases e with
    | normal =>
      obtain ⟨⟨m, hm, h1⟩, hR⟩ := h
      exact ⟨m, hm, h1, hR⟩
    | exit i => exact h
    | ret => exact h
    | pan v => exact h
  | rangeF g f k =>
    intro Q env H hW hR h
    simp only [awp] at h ⊢
    split at h
    · obtain ⟨env', hsub, h⟩ := h
      refine ⟨env', hsub, h.mono fun e H' h => ?_⟩
      cases e with
      | pan v => exact h
      | ret v =>
        simp only [ranE, ranQ] at h ⊢
        split at h
        · exact h.elim
        · exact ⟨h, hR⟩
        · exact ⟨h, hR⟩
        · exact ⟨h, hR⟩
        · exact h.elim
    · exact h.elim
  | exit id => intro Q env H _ hR h; exact ⟨h, hR⟩
  | ret => intro Q env H _ hR h; exact ⟨h, hR⟩

/-- What is known of registers that are not among some. -/
def memN (n : Nat) : List Nat → Bool
  | [] => false
  | m :: l => match Nat.beq m n with
    | true => true
    | false => memN n l
theorem memN_false {n : Nat} : ∀ {l : List Nat}, memN n l = false → n ∉ l
  | [], _ => by simp
  | m :: l, h => by
    simp only [memN] at h
    split at h
    · cases h
    · next hb => simp only [List.mem_cons, not_or]; exact ⟨fun e => Nat.ne_of_beq_eq_false hb e.symm, memN_false h⟩
def offS (W : List Nat) : SE → SE
  | [] => []
  | (r, v) :: e => match memN r W with
    | true => offS W e
    | false => (r, v) :: offS W e
theorem memN_true {n : Nat} : ∀ {l : List Nat}, n ∈ l → memN n l = true
  | [], h => by cases h
  | m :: l, h => by
    simp only [memN]
    split
    · rfl
    · next hb =>
      rcases List.mem_cons.1 h with e | h
      · exact absurd e.symm (Nat.ne_of_beq_eq_false hb)
      · exact memN_true h
theorem offS_lk {W : List Nat} : ∀ {e : SE} {n : Nat} {v : V}, lk (offS W e) n = some v → lk e n = some v ∧ n ∉ W
  | [], _, _, h => by cases h
  | (r, u) :: e, n, v, h => by
    simp only [offS] at h
    cases hm : memN r W with
    | true =>
      rw [hm] at h
      obtain ⟨h1, h2⟩ := offS_lk (e := e) h
      refine ⟨?_, h2⟩
      simp only [lk]
      cases hb : Nat.beq r n with
      | false => exact h1
      | true =>
        exfalso
        have := Nat.eq_of_beq_eq_true hb
        subst this
        apply h2
        apply Classical.byContradiction
        intro hn
        have key : ∀ {l : List Nat}, memN r l = true → r ∈ l := by
          intro l
          induction l with
          | nil => intro h; cases h
          | cons m l ih =>
            intro h
            simp only [memN] at h
            split at h
            · next hb => simp [Nat.eq_of_beq_eq_true hb]
            · simp [ih h]
        exact hn (key hm)
    | false =>
      rw [hm] at h
      simp only [lk] at h ⊢
      cases hb : Nat.beq r n with
      | true =>
        rw [hb] at h
        refine ⟨h, ?_⟩
        rw [← Nat.eq_of_beq_eq_true hb]
        exact memN_false hm
      | false =>
        rw [hb] at h
        exact offS_lk (e := e) h
theorem Sub.off {W : List Nat} {e : SE} {e0 env : Env} (h : Sub e e0) (ho : Off W e0 env) : Sub (offS W e) env := by
  intro n v hn
  obtain ⟨h1, h2⟩ := offS_lk hn
  rw [ho n h2]
  exact h n v h1
end Ram
