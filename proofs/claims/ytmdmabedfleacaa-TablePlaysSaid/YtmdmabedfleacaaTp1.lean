/- A part of the proof: contracts of functions, over the abstract machine. -/
import Derived.Test.YtmdmabedfleacaaTc3
import Derived.Test.YtmdmabedfleacaaBk14
set_option linter.unusedVariables false
set_option linter.unusedSimpArgs false
set_option linter.all false
namespace Go.Proofs.Ytmdmabedfleacaa
open Ram Go

variable {W0 : World} {H : AH}

/-- A row of the document's table. -/
def fRow (x : Fd) : List V := [.i .i64 x.t.p, .i .u32 x.t.s, .i .u32 x.t.d, .i .i64 x.t.sp, .i .i64 x.t.dp, .i .i64 x.id, .i .i64 x.at_]

/-- The document's table: where it lies. -/
def RT (H : AH) (w : Nat) (most ticks now last : Int) (ds : List Fd) (F : Nat → Prop) : Prop :=
  ∃ v, F w ∧ (∀ i, F i → i < H.next) ∧ H.get w = some (.cells .rw [.i .i64 most, .i .i64 ticks, .i .i64 now, .i .i64 last, v]) ∧ SlV H .rw 7 v (ds.map fRow) (fun i => F i ∧ i ≠ w)

theorem RT.keep {w : Nat} {most ticks now last : Int} {ds : List Fd} {F G : Nat → Prop} {H H' : AH} (h : RT H w most ticks now last ds F) (hk : Keeps G H H') (hf : ∀ i, F i → ¬ G i) : RT H' w most ticks now last ds F := by
  obtain ⟨v, Fw, hF, gw, hs⟩ := h
  exact ⟨v, Fw, fun i hi => Nat.lt_of_lt_of_le (hF i hi) hk.next, hk.at (hF _ Fw) (hf _ Fw) gw, hs.keep hk fun i h => hf i h.1⟩
theorem RT.grow {w : Nat} {most ticks now last : Int} {ds : List Fd} {F : Nat → Prop} {H H' : AH} (h : RT H w most ticks now last ds F) (hk : Grows H H') : RT H' w most ticks now last ds F := h.keep hk fun _ _ h => h

theorem clamp_eq (v m : Int) (hm : 1 ≤ m) : max 1 (min v m) = (if (if 1 < v then v else 1) < m then (if 1 < v then v else 1) else m) := by
  (repeat' split) <;> omega
theorem clamp_eq' (v m : Int) (hm : 1 ≤ m) : max 1 (min v m) = (if m < (if v < 1 then 1 else v) then m else (if v < 1 then 1 else v)) := by
  (repeat' split) <;> omega

/-- rampartref22.New. -/
theorem f36 (m t : Int) : ACalls Try.prog W0 36 [.i .i64 m, .i .i64 t] H fun e H' => ∃ w, e = .ret (.p (some (w, 0))) ∧ RT H' w (max 1 (min m 64)) (max 1 (min t 100000)) 0 0 [] (Up NoId H H') ∧ Grows H H' ∧ H.next ≤ w := by
  refine acalls_in k36 (by simp) ?_
  have h1 := (clamp_eq m 64 (by omega)).symm
  have h2 := (clamp_eq t 100000 (by omega)).symm
  have h3 := (clamp_eq' m 64 (by omega)).symm
  have h4 := (clamp_eq' t 100000 (by omega)).symm
  simp -dsimp [h1, h2, h3, h4]
  refine fin_mk ⟨_, rfl, ⟨.sl 0 none 0 0, .inr ⟨Nat.le_refl _, by simp⟩, ?_, by simp, .inl ⟨rfl, _, rfl⟩⟩, Keeps.alloc' Keeps.refl, Nat.le_refl _⟩
  rintro i (h | h)
  · exact h.elim
  · exact h.2

/-- T.All. -/
theorem f43 {w : Nat} {most ticks now last : Int} {ds : List Fd} {F : Nat → Prop} (hw : RT H w most ticks now last ds F) (hl : ds.length < 1000) : ACalls Try.prog W0 43 [.p (some (w, 0))] H fun e H' =>
    ∃ v, e = .ret v ∧ SlV H' .rw 5 v (ds.map tRow) (Up NoId H H') ∧ Grows H H' := by
  obtain ⟨v, Fw, hF, gw, hs⟩ := hw
  refine acalls_in k43 (by simp) ?_
  obtain ⟨e', a', cap', hv⟩ := hs.len
  rw [List.length_map] at hv
  simp -dsimp
  refine awp_round (fun m env H1 => ∃ i : Nat, i ≤ ds.length ∧ m = ds.length - i ∧ Grows H H1 ∧ env.get 0 = some (.p (some (w, 0))) ∧ env.get 4 = some (.i .i64 i) ∧
    ∃ v3, env.get 3 = some v3 ∧ SlV H1 .rw 5 v3 ((ds.map tRow).take i) (Up NoId H H1)) ds.length ⟨0, by simp, by simp, Keeps.refl, by simp, by simp, _, by simp; rfl, .inl ⟨by simp, _, rfl⟩⟩ ?_
  rintro m env H1 ⟨i, hi, rfl, hgr, e0, e4, v3, e3, hs3⟩
  have gw1 := Grows.at hgr (hF _ Fw) gw
  by_cases hlt : i < ds.length
  · rcases hs with ⟨hnil, _⟩ | ⟨id, o, cap, cs, rfl, hF', hs⟩
    · simp only [List.map_eq_nil_iff] at hnil; subst hnil; simp at hlt
    have hr : ds[i]? = some ds[i] := List.getElem?_eq_getElem hlt
    have hs1 := hs.keep hgr fun h => h
    have hrow := hs1.row_part (i := i) (r := fRow ds[i]) (by simp [hr]) (off := 0) (n := 5) (by omega)
    simp [fRow] at hrow
    have hwi : IntKind.i64.wrap ((i : Int) + 1) = (i : Int) + 1 := wrap_i64 (by omega) (by omega)
    simp -dsimp [e0, e3, e4, gw1, hlt, hrow]
    have hk1 : Grows H1 (H1.alloc (.cells .rw ds[i].t.c)) := Keeps.alloc' Keeps.refl
    refine (app_row (F := Up NoId H H1) (hs3.keep hk1 fun _ _ h => h) (r := ds[i].t.c) (by simp) (by simp) (by simp <;> omega) (by simp <;> omega)).mono ?_
    rintro v4 H3 ⟨hs4, hk4⟩
    have hn := hgr.next
    have hn4 := hk4.next
    simp at hn4
    have hgr3 : Grows H H3 := (Keeps.trans hgr hk1).then hk4 fun j hj h => by rcases h with h | h <;> omega
    simp -dsimp [e0, e4, hwi]
    refine hold_mk ⟨ds.length - (i + 1), by omega, i + 1, by omega, rfl, hgr3, by simp [e0], by simp, v4, by simp, ?_⟩
    have : (ds.map tRow).take i ++ [ds[i].t.c] = (ds.map tRow).take (i + 1) := by
      rw [List.take_add_one, List.getElem?_map, hr]; rfl
    rw [this] at hs4
    refine hs4.mono fun j hj => ?_
    rcases hj with (h | h) | h
    · exact h.elim
    · exact .inr ⟨h.1, by omega⟩
    · simp at h; exact .inr ⟨by omega, h.2⟩
  · simp -dsimp [e0, e3, e4, gw1, hv, hlt]
    rw [List.take_of_length_le (by simp <;> omega)] at hs3
    exact fin_mk ⟨_, rfl, hs3, hgr⟩

/-- SameInts: of equal lists. -/
theorem f39 {l : List Int} {va vb : V} {F G : Nat → Prop} (ha : SlV H .rw 1 va (l.map iRow) F) (hb : SlV H .rw 1 vb (l.map iRow) G) (hl : l.length < 1000) : ACalls Try.prog W0 39 [va, vb] H fun e H' => e = .ret (.b true) ∧ Grows H H' := by
  refine acalls_in k39 (by simp) ?_
  obtain ⟨ea, aa, capa, hva⟩ := ha.len
  obtain ⟨eb, ab, capb, hvb⟩ := hb.len
  rw [List.length_map] at hva hvb
  simp -dsimp [hva, hvb]
  refine awp_round (fun m env H1 => ∃ i : Nat, i ≤ l.length ∧ m = l.length - i ∧ H1 = H ∧ env.get 0 = some va ∧ env.get 1 = some vb ∧ env.get 5 = some (.i .i64 i)) l.length
    ⟨0, by simp, by simp, rfl, by simp [hva], by simp [hvb], by simp⟩ ?_
  rintro m env _ ⟨i, hi, rfl, rfl, e0, e1, e5⟩
  by_cases hlt : i < l.length
  · rcases ha with ⟨hnil, _⟩ | ⟨ida, oa, capa, csa, rfl, hFa, ha⟩
    · simp only [List.map_eq_nil_iff] at hnil; subst hnil; simp at hlt
    rcases hb with ⟨hnil, _⟩ | ⟨idb, ob, capb, csb, rfl, hFb, hb⟩
    · simp only [List.map_eq_nil_iff] at hnil; subst hnil; simp at hlt
    have ra := ha.cell (i := i) (j := 0) (r := iRow l[i]) (by rw [List.getElem?_map, List.getElem?_eq_getElem hlt]; rfl) (by omega)
    have rb := hb.cell (i := i) (j := 0) (r := iRow l[i]) (by rw [List.getElem?_map, List.getElem?_eq_getElem hlt]; rfl) (by omega)
    simp [iRow] at ra rb
    have hwi : IntKind.i64.wrap ((i : Int) + 1) = (i : Int) + 1 := wrap_i64 (by omega) (by omega)
    simp -dsimp [e0, e1, e5, hlt, ha.get, hb.get, ra, rb, hwi]
    exact hold_mk ⟨l.length - (i + 1), by omega, i + 1, by omega, rfl, rfl, by simp [e0], by simp [e1], by simp⟩
  · simp -dsimp [e0, e1, e5, hva, hvb, hlt]
    exact fin_mk ⟨rfl, Keeps.refl⟩

theorem sortI_unique {m l : List Int} (hp : m.Perm l) (hs : m.Pairwise (· ≤ ·)) : m = sortI l := by
  have h1 : (sortI l).Pairwise fun x y => decide (x ≤ y) = true := List.pairwise_mergeSort (fun a b c h1 h2 => by simp at h1 h2 ⊢; omega) (fun a b => by simp; omega) l
  have h2 : (sortI l).Perm l := List.mergeSort_perm l _
  refine List.Perm.eq_of_pairwise (le := fun a b : Int => a ≤ b) (fun a b _ _ h1 h2 => by omega) hs (h1.imp fun h => by simpa using h) (hp.trans h2.symm)
theorem sortI_perm {l l' : List Int} (h : l.Perm l') : sortI l = sortI l' := by
  have h1 : (sortI l).Pairwise fun x y => decide (x ≤ y) = true := List.pairwise_mergeSort (fun a b c h1 h2 => by simp at h1 h2 ⊢; omega) (fun a b => by simp; omega) l
  exact sortI_unique ((List.mergeSort_perm l _).trans h) (h1.imp fun h => by simpa using h)

theorem ins_sorted {m : List Int} {x : Int} {k : Nat} (hs : m.Pairwise (· ≤ ·)) (h1 : ∀ j (hj : j < m.length), j < k → m[j] < x) (h2 : ∀ hk : k < m.length, x ≤ m[k]) : (m.take k ++ [x] ++ m.drop k).Pairwise (· ≤ ·) := by
  have hlt : ∀ a ∈ m.take k, a < x := by
    intro a ha
    obtain ⟨j, hj, rfl⟩ := List.mem_take_iff_getElem.1 ha
    exact h1 j (by omega) (by omega)
  have hge : ∀ b ∈ m.drop k, x ≤ b := by
    intro b hb
    obtain ⟨j, hj, rfl⟩ := List.mem_drop_iff_getElem.1 hb
    have hk : k < m.length := by omega
    have := h2 hk
    by_cases e : j = 0
    · subst e; simpa using this
    · have := (List.pairwise_iff_getElem.1 hs) k (k + j) hk (by omega) (by omega)
      omega
  rw [List.pairwise_append, List.pairwise_append]
  refine ⟨⟨hs.sublist (List.take_sublist _ _), by simp, fun a ha b hb => ?_⟩, hs.sublist (List.drop_sublist _ _), fun a ha b hb => ?_⟩
  · simp only [List.mem_singleton] at hb; rw [hb]; have := hlt a ha; omega
  · rcases List.mem_append.1 ha with ha | ha
    · have := hlt a ha; have := hge b hb; omega
    · simp only [List.mem_singleton] at ha; rw [ha]; exact hge b hb
end Go.Proofs.Ytmdmabedfleacaa
