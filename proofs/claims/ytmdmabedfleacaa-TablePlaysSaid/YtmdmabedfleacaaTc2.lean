/- A part of the proof: contracts of functions, over the abstract machine. -/
import Derived.Test.YtmdmabedfleacaaTc1
set_option linter.unusedVariables false
set_option linter.unusedSimpArgs false
set_option linter.all false
namespace Go.Proofs.Ytmdmabedfleacaa
open Ram Go

variable {W0 : World} {H : AH}

def sortI (l : List Int) : List Int := l.mergeSort fun x y => decide (x ≤ y)

theorem rep_filter {H' : AH} {tb r mp : Nat} {most ticks now last : Int} {fl : List Fl} {gs : List (Nat × Tup)} {N : Nat → Nd} {F : Nat → Prop} {p : Fd → Bool} (hl : ((fl.map (·.2)).length : Int) ≤ most) (hm : most ≤ 64) (h : TR H' tb most ticks now last r mp (fl.filter fun x => !p x.2) gs N F) :
    TRep H' tb most ticks now last ((fl.map (·.2)).filter fun x => !p x) F := by
  have e : (fl.map (·.2)).filter (fun x => !p x) = (fl.filter fun x => !p x.2).map (·.2) := by rw [List.filter_map]; rfl
  refine ⟨r, mp, _, gs, N, h, e, ?_, hm⟩
  have := List.length_filter_le (fun x => !p x) (fl.map (·.2))
  omega

theorem ids_filter {fl : List Fl} {p : Fd → Bool} : (fl.filter fun x => p x.2).map (fun x => x.2.id) = ((fl.map (·.2)).filter p).map (·.id) := by
  rw [List.filter_map, List.map_map]; rfl

/-- (*Table).Flush. -/
theorem f35 {tb : Nat} {most ticks now last : Int} {ds : List Fd} {F : Nat → Prop} (h : TRep H tb most ticks now last ds F) : ACalls Try.prog W0 35 [.p (some (tb, 0))] H fun e H' => ∃ v, e = .ret v ∧ SlV H' .rw 1 v ((sortI (ds.map (·.id))).map iRow) (Up NoId H H') ∧
    TRep H' tb most ticks now last [] F ∧ Keeps F H H' := by
  obtain ⟨r, mp, fl, gs, N, h, rfl, hl1, hl2⟩ := h
  refine acalls_in k35 (by simp) ?_
  simp -dsimp
  refine (f60 (p := fun _ => true) h (by simp at hl1; omega) ⟨63, [], [], rfl, fun a y c H' _ _ _ _ _ _ _ => ?_⟩).some ?_
  · refine acalls_in k63 (by simp) ?_
    simp -dsimp
    exact fin_mk ⟨rfl, Keeps.refl⟩
  rintro v H1 ⟨hs, gs', N', h1, k1⟩
  simp -dsimp
  have h2 := rep_filter (p := fun _ => true) hl1 hl2 h1
  rw [show (fl.map (·.2)).filter (fun x => !(fun _ : Fd => true) x) = [] from by rw [List.filter_eq_nil_iff]; simp] at h2
  refine fin_mk ⟨v, rfl, ?_, h2, k1⟩
  have : (fl.filter fun x => (fun _ => true) x.2) = fl := by simp
  rw [this] at hs
  rw [List.map_map]; exact hs

/-- (*Table).Remove. -/
theorem f32 (n : Int) {tb : Nat} {most ticks now last : Int} {ds : List Fd} {F : Nat → Prop} (h : TRep H tb most ticks now last ds F) : ACalls Try.prog W0 32 [.p (some (tb, 0)), .i .i64 n] H fun e H' => e = .ret (.b (ds.any fun x => decide (x.id = n))) ∧
    TRep H' tb most ticks now last (ds.filter fun x => !decide (x.id = n)) F ∧ Keeps F H H' := by
  obtain ⟨r, mp, fl, gs, N, h, rfl, hl1, hl2⟩ := h
  refine acalls_in k32 (by simp) ?_
  have hk : Grows H (H.alloc (.cells .rw [.i .i64 n])) := Keeps.alloc' Keeps.refl
  simp -dsimp
  refine (f60 (p := fun x => decide (x.id = n)) (h.keep hk fun _ _ h => h) (by simp at hl1; omega) ⟨61, [], [.p (some (H.next, 0))], rfl, fun a y c H' kH la _ gt gc hi ha => ?_⟩).some ?_
  · have gb : H'.get H.next = some (.cells .rw [.i .i64 n]) := kH.at (by simp <;> omega) (fun hF => by have := h.lt _ hF; omega) (by simp)
    simp only [Nd.o, Nd.l, hi] at gc
    refine acalls_in k61 (by simp) ?_
    simp -dsimp [gb, gc]
    exact fin_mk ⟨rfl, Keeps.refl⟩
  rintro v H1 ⟨hs, gs', N', h1, k1⟩
  obtain ⟨e', a', cap', rfl⟩ := hs.len
  simp -dsimp
  have h2 := rep_filter (p := fun x => decide (x.id = n)) hl1 hl2 h1
  refine fin_mk ⟨?_, h2, Keeps.trans (Grows.keeps hk) k1⟩
  congr 2
  rw [Bool.eq_iff_iff, decide_eq_true_eq, List.any_eq_true]
  constructor
  · intro hlen
    have : 0 < ((fl.filter fun x => decide (x.2.id = n)).length) := by simpa using hlen
    obtain ⟨x, hx⟩ := List.exists_mem_of_length_pos this
    rw [List.mem_filter] at hx
    exact ⟨x.2, List.mem_map_of_mem hx.1, hx.2⟩
  · rintro ⟨x, hx, hp⟩
    obtain ⟨y, hy, rfl⟩ := List.mem_map.1 hx
    have : 0 < ((fl.filter fun x => decide (x.2.id = n)).length) := List.length_pos_of_mem (List.mem_filter.2 ⟨hy, hp⟩)
    simpa using this

def overT (now ticks : Int) (x : Fd) : Bool := decide (ticks ≤ IntKind.i64.wrap (now - x.at_))

/-- (*Table).Tick. -/
theorem f33 (n : Int) {tb : Nat} {most ticks now last : Int} {ds : List Fd} {F : Nat → Prop} (h : TRep H tb most ticks now last ds F) : ACalls Try.prog W0 33 [.p (some (tb, 0)), .i .i64 n] H fun e H' => ∃ v, e = .ret v ∧
    SlV H' .rw 1 v ((sortI ((ds.filter (overT (IntKind.i64.wrap (now + stepOf n)) ticks)).map (·.id))).map iRow) (Up NoId H H') ∧
    TRep H' tb most ticks (IntKind.i64.wrap (now + stepOf n)) last (ds.filter fun x => !overT (IntKind.i64.wrap (now + stepOf n)) ticks x) F ∧ Keeps F H H' := by
  obtain ⟨r, mp, fl, gs, N, h, rfl, hl1, hl2⟩ := h
  obtain ⟨o1, o2, o3, o4⟩ := h.own
  have ltb := h.lt _ o1
  have ntb : ¬ tb = H.next := by omega
  refine acalls_in k33 (by simp) ?_
  have gt := h.tab
  simp only [tabO] at gt
  have hst : (if 0 < (if 100000 < n then 100000 else n) then (if 100000 < n then 100000 else n) else 0) = stepOf n := rfl
  obtain ⟨now', hnow⟩ : ∃ x, x = IntKind.i64.wrap (now + stepOf n) := ⟨_, rfl⟩
  rw [← hnow]
  have ntb' : ¬ H.next = tb := fun e => ntb e.symm
  simp -dsimp [gt, ntb, ntb', hst, ← hnow]
  obtain ⟨H1, hH1⟩ : ∃ H1, H1 = (H.alloc (.cells .rw [.p (some (tb, 0))])).set tb (tabO most ticks now' last r mp) := ⟨_, rfl⟩
  have hsh : (H.alloc (.cells .rw [.p (some (tb, 0))])).set tb (.cells .rw [.i .i64 most, .i .i64 ticks, .i .i64 now', .i .i64 last, .p (some (r, 0)), .m (some mp)]) = H1 := by rw [hH1]; rfl
  rw [hsh]
  have k1 : Keeps (fun i => i = tb) H H1 := by rw [hH1]; exact Keeps.set_own (Keeps.alloc' Keeps.refl) rfl
  have n1 : H1.next = H.next + 1 := by rw [hH1]; simp
  have gb1 : H1.get H.next = some (.cells .rw [.p (some (tb, 0))]) := by rw [hH1]; simp [ntb']
  have h1 : TR H1 tb most ticks now' last r mp fl gs N F := by
    refine ⟨h.own, fun i hi => by have := h.lt i hi; omega, h.apart, by rw [hH1, AH.get_set, if_pos rfl], h.ring.keep k1 fun a ha e => ?_, h.node, k1.at (h.lt _ o3) (fun e => h.apart.2.1 e.symm) h.map, h.perm, h.uniq⟩
    rcases List.mem_cons.1 ha with e' | e'
    · exact h.apart.1 (by rw [← e, e'])
    · obtain ⟨z, hz, e2⟩ := List.mem_map.1 e'
      exact (h.apart.2.2.2 z hz).1 (by rw [← e, ← e2])
  refine (f60 (p := overT now' ticks) h1 (by simp at hl1; omega) ⟨62, [], [.p (some (H.next, 0))], rfl, fun a y c H' kH la lt' gt' gc hi ha => ?_⟩).some ?_
  · have gb : H'.get H.next = some (.cells .rw [.p (some (tb, 0))]) := kH.at (by omega) (fun hF => by have := h.lt _ hF; omega) gb1
    simp only [Nd.o, Nd.l, ha] at gc
    simp only [tabO] at gt'
    refine acalls_in k62 (by simp) ?_
    simp -dsimp [gb, gc, gt']
    exact fin_mk ⟨rfl, Keeps.refl⟩
  rintro v H2 ⟨hs, gs', N', h2, k2⟩
  simp -dsimp
  have h3 := rep_filter (p := overT now' ticks) hl1 hl2 h2
  refine fin_mk ⟨v, rfl, ?_, h3, Keeps.trans (k1.mono fun i _ e => by rw [e]; exact o1) k2⟩
  rw [ids_filter] at hs
  exact hs.mono fun j hj => by
    rcases hj with h' | h'
    · exact h'.elim
    · exact .inr ⟨by omega, h'.2⟩
end Go.Proofs.Ytmdmabedfleacaa
