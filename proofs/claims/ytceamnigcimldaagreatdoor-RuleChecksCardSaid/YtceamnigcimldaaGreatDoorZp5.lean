/- A part of the proof: contracts of functions, over the abstract machine. -/
import Derived.Test.YtceamnigcimldaaGreatDoorZp4
set_option linter.unusedVariables false
set_option linter.unusedSimpArgs false
set_option linter.all false
/- Ports: a span put among others. -/
namespace Go.Proofs.YtceamnigcimldaaGreatDoor
open Ram Go Go.Proofs.Ports

variable {W0 : World} {H : AH}

theorem put1_ok : ∀ {l : List Sp} {x : Sp}, (∀ s ∈ l, okSp s) → okSp x → (∀ s ∈ (put1 l x).1, okSp s) ∧ okSp (put1 l x).2 ∧ (put1 l x).1.length ≤ l.length
  | [], x, _, hx => ⟨fun _ h => (by cases h), hx, Nat.le_refl _⟩
  | s :: r, x, hl, hx => by
    have hs := hl s (by simp)
    have hr : ∀ y ∈ r, okSp y := fun y hy => hl y (by simp [hy])
    rw [put1_cons]
    split
    · obtain ⟨h1, h2, h3⟩ := put1_ok hr hx
      exact ⟨fun y hy => by rcases List.mem_cons.1 hy with rfl | h; exact hs; exact h1 y h, h2, by simp; omega⟩
    · have ht : ∀ y, okSp y → (∀ s ∈ (put1 r y).1, okSp s) ∧ okSp (put1 r y).2 ∧ (put1 r y).1.length ≤ (s :: r).length := fun y hy => by
        obtain ⟨h1, h2, h3⟩ := put1_ok hr hy
        exact ⟨h1, h2, by simp; omega⟩
      split
      · obtain ⟨a1, a2, a3⟩ := hs
        obtain ⟨b1, b2, b3⟩ := hx
        exact ht _ ⟨by simp only; omega, by simp only; omega, by simp only; omega⟩
      · exact ht _ hx
theorem put_ok {l : List Sp} {x : Sp} (hl : ∀ s ∈ l, okSp s) (hx : okSp x) : ∀ s ∈ put l x, okSp s := by
  obtain ⟨h1, h2, h3⟩ := put1_ok hl hx
  intro s hs
  unfold put at hs
  rcases List.mem_append.1 hs with h | h
  · rcases List.mem_append.1 h with h | h
    · exact h1 s h
    · rw [List.mem_singleton.1 h]; exact h2
  · exact hl s (List.mem_filter.1 h).1

/-- A span put behind the others. -/
theorem push {H1 : AH} {v3 : V} {out : List Sp} {FG : Nat → Prop} {f t : Int} {Q : V → AH → Prop} (hs3 : SlV H1 .rw 2 v3 (out.map spRow) FG) (hlen : out.length ≤ 1000)
    (hq : ∀ v' H', SlV H' .rw 2 v' ((out ++ [(⟨f, t⟩ : Sp)]).map spRow) (Up FG (H1.alloc (.cells .rw [.i .i64 f, .i .i64 t])) H') → Keeps FG (H1.alloc (.cells .rw [.i .i64 f, .i .i64 t])) H' → Q v' H') :
    AppP 2 16 v3 (.sl 2 (some (H1.next, 0)) 1 1) (H1.alloc (.cells .rw [.i .i64 f, .i .i64 t])) Q := by
  have kA : Grows H1 (H1.alloc (.cells .rw (spRow ⟨f, t⟩))) := Keeps.alloc' Keeps.refl
  have hy : newCells (H1.alloc (.cells .rw (spRow ⟨f, t⟩))) 2 (.sl 2 (some (H1.next, 0)) 1 1) = some (1, spRow ⟨f, t⟩) := by simp
  refine (app_row (hs3.keep kA fun _ _ h => h) (r := spRow ⟨f, t⟩) hy (by simp) (by rw [List.length_map]; omega) (by rw [List.length_map]; omega)).mono ?_
  rintro v6 H7 ⟨hs7, k7⟩
  have hrows : out.map spRow ++ [spRow ⟨f, t⟩] = (out ++ [(⟨f, t⟩ : Sp)]).map spRow := by rw [List.map_append]; rfl
  rw [hrows] at hs7
  exact hq _ _ hs7 k7

set_option maxRecDepth 4000 in
/-- rampartref10.put. -/
theorem f78 {v : V} {l : List Sp} {x : Sp} {md : Md} {F : Nat → Prop} (hs : SlV H md 2 v (l.map spRow) F) (hl : l.length ≤ 100) (ho : ∀ s ∈ l, okSp s) (hx : okSp x) : ACalls Tryz.prog W0 78 [v, .agg (spRow x)] H fun e H' =>
    ∃ v', e = .ret v' ∧ SlV H' .rw 2 v' ((put l x).map spRow) (Up NoId H H') ∧ Grows H H' := by
  obtain ⟨e', a', cap', hv⟩ := hs.len
  rw [List.length_map] at hv
  have hone : V.one v = true := by rw [hv]; rfl
  refine acalls_in k78 (by simp) ?_
  obtain ⟨hm1, hm2, hm3⟩ := put1_ok ho hx
  obtain ⟨ms, hms⟩ : ∃ ms, ms = (put1 l x).1 := ⟨_, rfl⟩
  obtain ⟨y, hy⟩ : ∃ y, y = (put1 l x).2 := ⟨_, rfl⟩
  rw [← hms] at hm1 hm3
  rw [← hy] at hm2
  have kB : ∀ X, Grows H (H.alloc X) := fun _ => Keeps.alloc' Keeps.refl
  simp -dsimp [hv]
  refine awp_round (fun m env H1 => ∃ (i : Nat) (z : Sp) (out : List Sp) (v3 : V) (FG : Nat → Prop), i ≤ l.length ∧ m = l.length - i ∧ Grows H H1 ∧ H.next < H1.next ∧ env.get 0 = some v ∧ env.get 3 = some (.p (some (H.next, 0))) ∧ env.get 5 = some v3 ∧ env.get 6 = some (.i .i64 i) ∧
    H1.get H.next = some (.cells .rw (spRow z)) ∧ okSp z ∧ SlV H1 .rw 2 v3 (out.map spRow) FG ∧ (∀ j, FG j → H.next < j ∧ j < H1.next) ∧ out ++ (put1 (l.drop i) z).1 = ms ∧ (put1 (l.drop i) z).2 = y) l.length
    ⟨0, x, [], .sl 0 none 0 0, NoId, by omega, by omega, kB _, by simp, by simp [hv], by simp, by simp, by simp, by simp, hx, .inl ⟨rfl, _, rfl⟩, fun j h => h.elim, by simp [hms], by simp [hy]⟩ ?_
  rintro m env H1 ⟨i, z, out, v3, FG, hi, rfl, hgr, hlt1, e0, e3, e5, e6, gx, hz, hs3, hFG, ha, hb⟩
  by_cases hlt : i < l.length
  · obtain ⟨id, o, cap, cs, hvv, hF, sa, _⟩ := at_row (hs.keep hgr fun _ _ h => h) hlt
    have c0 := sa.cell (j := 0) (row_at hlt) (by omega)
    have c1 := sa.cell (j := 1) (row_at hlt) (by omega)
    have hrow := sa.row (row_at hlt)
    simp [spRow] at c0 c1 hrow
    have hdrop : l.drop i = l[i] :: l.drop (i + 1) := List.drop_eq_getElem_cons hlt
    have hoi := ho l[i] (List.getElem_mem hlt)
    obtain ⟨s, hsi⟩ : ∃ s, s = l[i] := ⟨_, rfl⟩
    rw [← hsi] at c0 c1 hrow hdrop hoi
    rw [hdrop, put1_cons] at ha hb
    obtain ⟨a1, a2, a3⟩ := hoi
    obtain ⟨b1, b2, b3⟩ := hz
    have hwi := wrap_succ (i := i) (by omega)
    have w1 : IntKind.i64.wrap (z.f - 1) = z.f - 1 := wrap_i64 (by omega) (by omega)
    have w2 : IntKind.i64.wrap (z.t + 1) = z.t + 1 := wrap_i64 (by omega) (by omega)
    rw [hvv] at e0
    have hol : out.length ≤ 100 := by
      have := congrArg List.length ha
      rw [List.length_append] at this
      omega
    by_cases q1 : s.t < z.f - 1
    · rw [if_pos q1] at ha hb
      simp -dsimp [e0, e3, e5, e6, hlt, sa.get, c0, c1, gx, w1, w2, q1, hrow]
      refine push hs3 (by omega) ?_
      rintro v6 H7 hs7 k7
      have n7 := k7.next
      simp at n7
      have kA : ∀ X, Grows H (H1.alloc X) := fun _ => Keeps.alloc' hgr
      have gx7 : H7.get H.next = some (.cells .rw (spRow z)) := k7.at (by simp; omega) (fun h => by have := hFG _ h; omega) (by rw [AH.get_alloc, if_neg (by omega)]; exact gx)
      simp -dsimp [e0, e3, e5, e6, hwi]
      exact hold_mk ⟨l.length - (i + 1), by omega, i + 1, z, out ++ [s], v6, _, by omega, rfl, (kA _).then k7 fun j hj h => by have := hFG j h; omega, by omega, by simp [e0, hvv], by simp [e3], by simp [e5], by simp, gx7, ⟨b1, b2, b3⟩, hs7, fun j hj => by
        rcases hj with h | h
        · have := hFG j h; omega
        · simp at h; omega, by rw [List.append_assoc]; exact ha, hb⟩
    · rw [if_neg q1] at ha hb
      by_cases q2 : s.f ≤ z.t + 1
      · rw [if_pos q2] at ha hb
        have mn : (if z.f < s.f then z.f else s.f) = min s.f z.f := by split <;> omega
        have mx : (if s.t < z.t then z.t else s.t) = max s.t z.t := by split <;> omega
        simp -dsimp [e0, e3, e5, e6, hlt, sa.get, c0, c1, gx, w1, w2, q1, q2, hwi, splice]
        refine hold_mk ⟨l.length - (i + 1), by omega, i + 1, ⟨min s.f z.f, max s.t z.t⟩, out, v3, FG, by omega, rfl, Keeps.set_new hgr (by omega), by simpa using hlt1, by simp [e0, hvv], by simp [e3], by simp [e5], by simp, by simp [mn, mx], ⟨by simp only; omega, by simp only; omega, by simp only; omega⟩, hs3.keep (G := fun j => j = H.next) (Keeps.set fun _ => rfl) fun j hj e => by have := hFG j hj; omega, fun j hj => by have := hFG j hj; simpa using this, ha, hb⟩
      · rw [if_neg q2] at ha hb
        simp -dsimp [e0, e3, e5, e6, hlt, sa.get, c0, c1, gx, w1, w2, q1, q2, hwi]
        exact hold_mk ⟨l.length - (i + 1), by omega, i + 1, z, out, v3, FG, by omega, rfl, hgr, hlt1, by simp [e0, hvv], by simp [e3], by simp [e5], by simp, gx, ⟨b1, b2, b3⟩, hs3, hFG, ha, hb⟩
  · have : i = l.length := by omega
    subst this
    rw [List.drop_length] at ha hb
    simp only [put1, List.append_nil] at ha hb
    subst ha hb
    have hlo : out.length ≤ 100 := by omega
    simp -dsimp [e0, e3, e5, e6, hv, gx, ldCells_of gx]
    refine push hs3 (by omega) ?_
    rintro v6 H7 hs7 k7
    have n7 := k7.next
    simp at n7
    have kA : ∀ X, Grows H (H1.alloc X) := fun _ => Keeps.alloc' hgr
    have gx7 : H7.get H.next = some (.cells .rw (spRow z)) := k7.at (by simp; omega) (fun h => by have := hFG _ h; omega) (by rw [AH.get_alloc, if_neg (by omega)]; exact gx)
    have hgr7 : Grows H H7 := (kA _).then k7 fun j hj h => by have := hFG j h; omega
    have hput : put l x = out ++ [z] ++ l.filter fun s => decide (s.f > z.t + 1) := by unfold put; rw [← hms, ← hy]
    obtain ⟨FG7, hFG7⟩ : ∃ G, G = Up FG (H1.alloc (.cells .rw [.i .i64 z.f, .i .i64 z.t])) H7 := ⟨_, rfl⟩
    rw [← hFG7] at hs7
    have hFG7' : ∀ j, FG7 j → H.next < j ∧ j < H7.next := fun j hj => by
      rw [hFG7] at hj
      rcases hj with h | h
      · have := hFG j h; omega
      · simp at h; omega
    simp -dsimp [e0, e3, e5, e6]
    refine awp_round (fun m env H1 => ∃ (i : Nat) (out2 : List Sp) (v3 : V) (FG : Nat → Prop), i ≤ l.length ∧ m = l.length - i ∧ Grows H H1 ∧ H.next < H1.next ∧ env.get 0 = some v ∧ env.get 3 = some (.p (some (H.next, 0))) ∧ env.get 5 = some v3 ∧ env.get 7 = some (.i .i64 i) ∧
      H1.get H.next = some (.cells .rw (spRow z)) ∧ SlV H1 .rw 2 v3 (out2.map spRow) FG ∧ (∀ j, FG j → H.next < j ∧ j < H1.next) ∧ out2 = out ++ [z] ++ (l.take i).filter fun s => decide (s.f > z.t + 1)) l.length
      ⟨0, out ++ [z], v6, FG7, by omega, by omega, hgr7, by omega, by simp [e0], by simp [e3], by simp, by simp, gx7, hs7, hFG7', by simp⟩ ?_
    rintro m env H1 ⟨i, out2, v3, FG, hi, rfl, hgr, hlt1, e0, e3, e5, e7, gx, hs3, hFG, ha⟩
    obtain ⟨b1, b2, b3⟩ := hz
    by_cases hlt : i < l.length
    · obtain ⟨id, o, cap, cs, hvv, hF, sa, _⟩ := at_row (hs.keep hgr fun _ _ h => h) hlt
      have c0 := sa.cell (j := 0) (row_at hlt) (by omega)
      have hrow := sa.row (row_at hlt)
      simp [spRow] at c0 hrow
      have hoi := ho l[i] (List.getElem_mem hlt)
      have htake := take_snoc (i := i) hlt
      obtain ⟨s, hsi⟩ : ∃ s, s = l[i] := ⟨_, rfl⟩
      rw [← hsi] at c0 hrow hoi htake
      obtain ⟨a1, a2, a3⟩ := hoi
      have hwi := wrap_succ (i := i) (by omega)
      have w2 : IntKind.i64.wrap (z.t + 1) = z.t + 1 := wrap_i64 (by omega) (by omega)
      rw [hvv] at e0
      have hol : out2.length ≤ 300 := by
        rw [ha]
        have := List.length_filter_le (fun s : Sp => decide (s.f > z.t + 1)) (l.take i)
        have := List.length_take_le i l
        simp only [List.length_append, List.length_singleton]
        omega
      by_cases q1 : z.t + 1 < s.f
      · simp -dsimp [e0, e3, e5, e7, hlt, sa.get, c0, gx, w2, q1, hrow]
        refine push hs3 (by omega) ?_
        rintro v8 H8 hs8 k8
        have n8 := k8.next
        simp at n8
        have kA : ∀ X, Grows H (H1.alloc X) := fun _ => Keeps.alloc' hgr
        have gx8 : H8.get H.next = some (.cells .rw (spRow z)) := k8.at (by simp; omega) (fun h => by have := hFG _ h; omega) (by rw [AH.get_alloc, if_neg (by omega)]; exact gx)
        simp -dsimp [e0, e3, e5, e7, hwi]
        exact hold_mk ⟨l.length - (i + 1), by omega, i + 1, out2 ++ [s], v8, _, by omega, rfl, (kA _).then k8 fun j hj h => by have := hFG j h; omega, by omega, by simp [e0, hvv], by simp [e3], by simp [e5], by simp, gx8, hs8, fun j hj => by
          rcases hj with h | h
          · have := hFG j h; omega
          · simp at h; omega, by rw [ha, htake, List.filter_append]; simp [q1]⟩
      · simp -dsimp [e0, e3, e5, e7, hlt, sa.get, c0, gx, w2, q1, hwi]
        exact hold_mk ⟨l.length - (i + 1), by omega, i + 1, out2, v3, FG, by omega, rfl, hgr, hlt1, by simp [e0, hvv], by simp [e3], by simp [e5], by simp, gx, hs3, hFG, by rw [ha, htake, List.filter_append]; simp [q1]⟩
    · have : i = l.length := by omega
      subst this
      rw [List.take_length, ← hput] at ha
      subst ha
      simp -dsimp [e0, e3, e5, e7, hv]
      exact fin_mk ⟨_, rfl, hs3.mono fun j hj => by have := hFG j hj; exact .inr ⟨by omega, by omega⟩, hgr⟩
end Go.Proofs.YtceamnigcimldaaGreatDoor
