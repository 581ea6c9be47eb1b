/- A part of the proof: contracts of functions, over the abstract machine. -/
import Derived.Test.YtmdmabedfleacaaTb7
import Derived.Test.YtmdmabedfleacaaTcFn
import Derived.Test.YtmdmabedfleacaaSortL
import Derived.Test.YtmdmabedfleacaaRaD
set_option linter.unusedVariables false
set_option linter.unusedSimpArgs false
set_option linter.all false
namespace Go.Proofs.Ytmdmabedfleacaa
open Ram Go

variable {W0 : World} {H : AH}

/-- slices.Sort. -/
theorem f68 {v : V} {zs : List Int} {F : Nat → Prop} (hs : SlV H .rw 1 v (zs.map iRow) F) (hl : zs.length < 1000000) :
    ACalls Try.prog W0 68 [v] H fun e H' => e = .ret (.tup []) ∧ SlV H' .rw 1 v ((zs.mergeSort fun x y => decide (x ≤ y)).map iRow) F ∧ Keeps F H H' ∧ H'.next = H.next :=
  sort_of ⟨_, Try.func68, by kernel_rfl, by kernel_rfl⟩ (fun blk off cap zs w => Try.slices_Sort_int blk off cap zs w) (fun p cap w => Try.slices_Sort_int_none p cap w) hs hl

/-- A test of flows, as a function value. -/
def Such (W0 : World) (H0 : AH) (F : Nat → Prop) (tb : Nat) (most ticks now last : Int) (r mp : Nat) (g : V) (p : Fd → Bool) : Prop :=
  ∃ f us bs, g = .f (.func f) us bs ∧ ∀ (a : Nat) (y : Fd) (c : Nd) (H' : AH), Keeps F H0 H' → a < H'.next → tb < H'.next → H'.get tb = some (tabO most ticks now last r mp) → H'.get a = some c.o → c.id = y.id → c.at_ = y.at_ →
    ACalls Try.prog W0 f (us ++ .p (some (a, 0)) :: bs) H' fun e H'' => e = .ret (.b (p y)) ∧ Grows H' H''

theorem filter_step {fl : List Fl} {p : Fl → Bool} {i : Nat} (hi : i < fl.length) : (fl.take (i + 1)).filter p = (fl.take i).filter p ++ (if p fl[i] then [fl[i]] else []) := by
  rw [List.take_add_one, List.getElem?_eq_getElem hi, List.filter_append]
  cases h : p fl[i] <;> simp [h]

/-- (*Table).goes. -/
theorem f60 {g : V} {p : Fd → Bool} {tb r mp : Nat} {most ticks now last : Int} {fl : List Fl} {gs : List (Nat × Tup)} {N : Nat → Nd} {F : Nat → Prop} (h : TR H tb most ticks now last r mp fl gs N F) (hl : fl.length ≤ 64) (hg : Such W0 H F tb most ticks now last r mp g p) :
    ACalls Try.prog W0 60 [.p (some (tb, 0)), g] H fun e H' => ∃ v, e = .ret v ∧ SlV H' .rw 1 v ((((fl.filter fun x => p x.2).map fun x => x.2.id).mergeSort fun x y => decide (x ≤ y)).map iRow) (Up NoId H H') ∧
      ∃ gs' N', TR H' tb most ticks now last r mp (fl.filter fun x => !p x.2) gs' N' F ∧ Keeps F H H' := by
  obtain ⟨f, us, bs, rfl, hg⟩ := hg
  refine acalls_in k60 (by simp) ?_
  simp -dsimp
  refine (f47 h hl).some ?_
  rintro v H1 ⟨hs, g1⟩
  obtain ⟨e', a', cap', hv⟩ := hs.len
  rw [List.length_map] at hv
  simp -dsimp [hv]
  refine awp_round (fun m env H2 => ∃ (i : Nat) (gs2 : List (Nat × Tup)) (N2 : Nat → Nd) (vl : V), i ≤ fl.length ∧ m = fl.length - i ∧ env.get 0 = some (.p (some (tb, 0))) ∧ env.get 1 = some (.f (.func f) us bs) ∧ env.get 5 = some vl ∧ env.get 9 = some v ∧ env.get 10 = some (.i .i64 fl.length) ∧ env.get 11 = some (.i .i64 i) ∧
    TR H2 tb most ticks now last r mp ((fl.take i).filter (fun x => !p x.2) ++ fl.drop i) gs2 N2 F ∧ Keeps F H1 H2 ∧ SlV H2 .rw 1 vl ((((fl.take i).filter fun x => p x.2).map fun x => x.2.id).map iRow) (Up NoId H1 H2)) fl.length
    ⟨0, gs, N, _, by omega, by omega, by simp, by simp, by simp; rfl, by simp [hv], by simp, by simp, by simpa using h.keep g1 fun _ _ h => h, Keeps.refl, .inl ⟨by simp, _, rfl⟩⟩ ?_
  rintro m env H2 ⟨i, gs2, N2, vl, hi, rfl, e0, e1, e5, e9, e10, e11, h2, k2, hsl⟩
  have n1 := g1.next
  have n2 := k2.next
  have hwi : IntKind.i64.wrap ((i : Int) + 1) = (i : Int) + 1 := wrap_i64 (by omega) (by omega)
  have hlf := List.length_filter_le (fun x : Fl => p x.2) (fl.take i)
  rw [List.length_take] at hlf
  by_cases hlt : i < fl.length
  · have hs2 := hs.keep k2 fun j hj hF => by
      rcases hj with h' | h'
      · exact h'
      · have := h.lt j hF; omega
    rcases hs2 with ⟨hnil, _⟩ | ⟨id, o, cap, cs, rfl, hF', hs2⟩
    · simp only [List.map_eq_nil_iff] at hnil; subst hnil; simp at hlt
    have hc := hs2.cell (i := i) (j := 0) (r := ptrRow fl[i]) (by rw [List.getElem?_map, List.getElem?_eq_getElem hlt]; rfl) (by omega)
    simp [ptrRow] at hc
    have hdr : fl.drop i = fl[i] :: fl.drop (i + 1) := List.drop_eq_getElem_cons hlt
    rw [hdr] at h2
    have hmem : fl[i] ∈ (fl.take i).filter (fun x => !p x.2) ++ fl[i] :: fl.drop (i + 1) := List.mem_append_right _ (List.mem_cons_self ..)
    have hmem' : fl[i].1 ∈ r :: ((fl.take i).filter (fun x => !p x.2) ++ fl[i] :: fl.drop (i + 1)).map (·.1) := List.mem_cons_of_mem _ (List.mem_map_of_mem hmem)
    simp -dsimp [e1, e5, e9, e10, e11, hlt, hs2.get, hc]
    refine (hg fl[i].1 fl[i].2 (N2 fl[i].1) H2 (Keeps.trans (Grows.keeps g1) k2) (h2.ring.lt _ hmem') (h2.lt _ h2.own.1) h2.tab (h2.ring.get _ hmem') (h2.node _ hmem).2.1 (h2.node _ hmem).2.2).next ?_
    rintro H3 g3
    have h3 := h2.keep g3 fun _ _ h => h
    have n3 := g3.next
    have hsl3 := hsl.keep g3 fun _ _ h => h
    cases hp : p fl[i].2
    · simp -dsimp [e1, e5, e9, e10, e11, hwi]
      refine hold_mk ⟨fl.length - (i + 1), by omega, i + 1, gs2, N2, vl, by omega, rfl, by simp [e0], by simp [e1], by simp [e5], by simp [e9], by simp [e10], by simp, ?_, Keeps.trans k2 (Grows.keeps g3), ?_⟩
      · rw [filter_step hlt, if_pos (by simp [hp]), List.append_assoc]; exact h3
      · rw [filter_step hlt, if_neg (by simp [hp]), List.append_nil]
        exact hsl3.mono fun j hj => by
          rcases hj with h' | h'
          · exact .inl h'
          · exact .inr ⟨h'.1, by omega⟩
    · simp -dsimp [e0, e1, e5, e9, e10, e11]
      refine (f45 h3).next ?_
      rintro H4 ⟨N4, gs4, h4, gy4, k4, e4⟩
      have gid := (h2.node _ hmem).2.1
      simp only [Nd.o, Nd.l, gid] at gy4
      have hsl4 := hsl3.keep k4 fun j hj hF => by
        rcases hj with h' | h'
        · exact h'
        · have := h.lt j hF; omega
      simp -dsimp [e0, e1, e5, e9, e10, e11, gy4]
      have hkb : Grows H4 (H4.alloc (.cells .rw [.i .i64 fl[i].2.id])) := Keeps.alloc' Keeps.refl
      refine (app_row (F := Up NoId H1 H2) (hsl4.keep hkb fun _ _ h => h) (r := iRow fl[i].2.id) (by simp [iRow]) (by simp [iRow]) (by simp only [List.length_map]; omega) (by simp only [List.length_map]; omega)).mono ?_
      rintro v6 H6 ⟨hs6, k6⟩
      have n6 := k6.next
      simp at n6
      simp -dsimp [e0, e1, e5, e9, e10, e11, hwi]
      have kk : Keeps F H1 H6 := (((Keeps.trans k2 (Grows.keeps g3)).trans k4).trans (Grows.keeps hkb)).then k6 fun j hj h' => by
        rcases h' with h' | h'
        · exact h'.elim
        · omega
      refine hold_mk ⟨fl.length - (i + 1), by omega, i + 1, gs4, N4, v6, by omega, rfl, by simp [e0], by simp [e1], by simp, by simp [e9], by simp [e10], by simp, ?_, kk, ?_⟩
      · rw [filter_step hlt, if_neg (by simp [hp]), List.append_nil]
        exact (h4.keep hkb fun _ _ h => h).keep k6 fun j hF h' => by
          rcases h' with h' | h'
          · exact h'
          · have := h.lt j hF; omega
      · rw [filter_step hlt, if_pos hp, List.map_append, List.map_append]
        exact hs6.mono fun j hj => by
          rcases hj with (h' | h') | h'
          · exact .inl h'
          · exact .inr ⟨h'.1, by omega⟩
          · simp at h'; exact .inr ⟨by omega, h'.2⟩
  · have hil : i = fl.length := by omega
    subst hil
    rw [List.take_length] at hsl h2
    rw [List.drop_length, List.append_nil] at h2
    have hlf2 := List.length_filter_le (fun x : Fl => p x.2) fl
    simp -dsimp [e5, e10, e11]
    refine (f68 hsl (by rw [List.length_map]; omega)).next ?_
    rintro H3 ⟨hs3, k3, e3⟩
    simp -dsimp [e5]
    refine fin_mk ⟨vl, rfl, hs3.mono fun j hj => ?_, gs2, N2, h2.keep k3 fun j hF h' => ?_, (Keeps.trans (Grows.keeps g1) k2).then k3 fun j hj h' => ?_⟩
    · rcases hj with h' | h'
      · exact h'.elim
      · exact .inr ⟨by omega, by omega⟩
    · rcases h' with h' | h'
      · exact h'
      · have := h.lt j hF; omega
    · rcases h' with h' | h'
      · exact h'.elim
      · omega
end Go.Proofs.Ytmdmabedfleacaa
