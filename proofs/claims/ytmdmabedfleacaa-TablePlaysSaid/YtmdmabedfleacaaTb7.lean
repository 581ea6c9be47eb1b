/- A part of the proof: contracts of functions, over the abstract machine. -/
import Derived.Test.YtmdmabedfleacaaTb6
set_option linter.unusedVariables false
set_option linter.unusedSimpArgs false
set_option linter.all false
namespace Go.Proofs.Ytmdmabedfleacaa
open Ram Go

variable {W0 : World} {H : AH}

def tRow (x : Fd) : List V := x.t.c

theorem TRep.keep {G F : Nat → Prop} {H' : AH} {tb : Nat} {most ticks now last : Int} {ds : List Fd} (h : TRep H tb most ticks now last ds F) (hk : Keeps G H H') (hf : ∀ i, F i → ¬ G i) : TRep H' tb most ticks now last ds F := by
  obtain ⟨r, mp, fl, gs, N, h, h2⟩ := h
  exact ⟨r, mp, fl, gs, N, h.keep hk hf, h2⟩
theorem TRep.grow {F : Nat → Prop} {H' : AH} {tb : Nat} {most ticks now last : Int} {ds : List Fd} (h : TRep H tb most ticks now last ds F) (hk : Grows H H') : TRep H' tb most ticks now last ds F := h.keep hk fun _ _ h => h
theorem TRep.own {F : Nat → Prop} {tb : Nat} {most ticks now last : Int} {ds : List Fd} (h : TRep H tb most ticks now last ds F) : ∀ i, F i → i < H.next := by
  obtain ⟨r, mp, fl, gs, N, h, h2⟩ := h
  exact h.lt

theorem TR.mono {F F' : Nat → Prop} {tb r mp : Nat} {most ticks now last : Int} {fl : List Fl} {gs : List (Nat × Tup)} {N : Nat → Nd} (h : TR H tb most ticks now last r mp fl gs N F) (hf : ∀ i, F i → F' i) (hl : ∀ i, F' i → i < H.next) : TR H tb most ticks now last r mp fl gs N F' := by
  obtain ⟨⟨o1, o2, o3, o4⟩, lt, ap, tab, ring, node, map, perm, uniq⟩ := h
  exact ⟨⟨hf _ o1, hf _ o2, hf _ o3, fun z hz => hf _ (o4 z hz)⟩, hl, ap, tab, ring, node, map, perm, uniq⟩

/-- (*Table).All. -/
theorem f14 {tb : Nat} {most ticks now last : Int} {ds : List Fd} {F : Nat → Prop} (h : TRep H tb most ticks now last ds F) : ACalls Try.prog W0 14 [.p (some (tb, 0))] H fun e H' =>
    ∃ v, e = .ret v ∧ SlV H' .rw 5 v (ds.map tRow) (Up NoId H H') ∧ Grows H H' := by
  obtain ⟨r, mp, fl, gs, N, h, rfl, hl1, hl2⟩ := h
  rw [List.length_map] at hl1
  refine acalls_in k14 (by simp) ?_
  simp -dsimp
  refine (f47 h (by omega)).some ?_
  rintro v H1 ⟨hs, g1⟩
  obtain ⟨e', a', cap', hv⟩ := hs.len
  rw [List.length_map] at hv
  simp -dsimp [hv]
  refine awp_round (fun m env H2 => ∃ i : Nat, i ≤ fl.length ∧ m = fl.length - i ∧ Grows H1 H2 ∧ env.get 7 = some v ∧ env.get 8 = some (.i .i64 fl.length) ∧ env.get 9 = some (.i .i64 i) ∧
    ∃ v3, env.get 3 = some v3 ∧ SlV H2 .rw 5 v3 (((fl.map (·.2)).map tRow).take i) (Up NoId H1 H2)) fl.length ⟨0, by omega, by omega, Keeps.refl, by simp [hv], by simp, by simp, _, by simp; rfl, .inl ⟨by simp, _, rfl⟩⟩ ?_
  rintro m env H2 ⟨i, hi, rfl, hgr, e7, e8, e9, v3, e3, hs3⟩
  by_cases hlt : i < fl.length
  · rcases hs with ⟨hnil, _⟩ | ⟨id, o, cap, cs, rfl, hF', hs⟩
    · simp only [List.map_eq_nil_iff] at hnil; subst hnil; simp at hlt
    have hs1 := hs.keep hgr fun h => h
    have hc := hs1.cell (i := i) (j := 0) (r := ptrRow fl[i]) (by rw [List.getElem?_map, List.getElem?_eq_getElem hlt]; rfl) (by omega)
    simp [ptrRow] at hc
    have hm := List.getElem_mem hlt
    have gc := Grows.at hgr (Nat.lt_of_lt_of_le (h.ring.lt fl[i].1 (List.mem_cons_of_mem _ (List.mem_map_of_mem hm))) g1.next) (Grows.at g1 (h.ring.lt fl[i].1 (List.mem_cons_of_mem _ (List.mem_map_of_mem hm))) (h.ring.get fl[i].1 (List.mem_cons_of_mem _ (List.mem_map_of_mem hm))))
    simp only [Nd.o, Nd.l, (h.node _ hm).1] at gc
    have hwi : IntKind.i64.wrap ((i : Int) + 1) = (i : Int) + 1 := wrap_i64 (by omega) (by omega)
    simp -dsimp [e3, e7, e8, e9, hlt, hs1.get, hc, ldCells_of gc]
    have hk1 : Grows H2 (H2.alloc (.cells .rw fl[i].2.t.c)) := Keeps.alloc' Keeps.refl
    refine (app_row (F := Up NoId H1 H2) (hs3.keep hk1 fun _ _ h => h) (r := fl[i].2.t.c) (by simp) (by simp) (by simp <;> omega) (by simp <;> omega)).mono ?_
    rintro v4 H3 ⟨hs4, hk4⟩
    have hn := hgr.next
    have hn4 := hk4.next
    simp at hn4
    have hgr3 : Grows H1 H3 := (Keeps.trans hgr hk1).then hk4 fun j hj h => by rcases h with h | h <;> omega
    simp -dsimp [e9, hwi]
    refine hold_mk ⟨fl.length - (i + 1), by omega, i + 1, by omega, rfl, hgr3, by simp [e7], by simp [e8], by simp, v4, by simp, ?_⟩
    have : ((fl.map (·.2)).map tRow).take i ++ [fl[i].2.t.c] = ((fl.map (·.2)).map tRow).take (i + 1) := by
      rw [List.take_add_one, List.getElem?_map, List.getElem?_map, List.getElem?_eq_getElem hlt]; rfl
    rw [this] at hs4
    refine hs4.mono fun j hj => ?_
    rcases hj with (h | h) | h
    · exact h.elim
    · exact .inr ⟨h.1, by omega⟩
    · simp at h; exact .inr ⟨by omega, h.2⟩
  · simp -dsimp [e3, e7, e8, e9, hlt]
    rw [List.take_of_length_le (by simp <;> omega)] at hs3
    exact fin_mk ⟨_, rfl, hs3.mono fun j hj => by
      rcases hj with h | h
      · exact h.elim
      · have := g1.next; exact .inr ⟨by omega, h.2⟩, g1.trans hgr⟩

/-- What a table has behind a Put. -/
def touchD (ds : List Fd) (x : Tup) (now : Int) : List Fd := match ds.findIdx? fun y => same x y.t with
  | some i => ds.eraseIdx i ++ [⟨(ds[i]?.map (·.t)).getD x, (ds[i]?.map (·.id)).getD 0, now⟩]
  | none => ds
def foundD (ds : List Fd) (x : Tup) : Option Fd := ds.find? fun y => same x y.t
def roomD (ds : List Fd) (most : Int) : List Fd := if most ≤ ds.length then ds.drop 1 else ds
def putD (ds : List Fd) (most now last : Int) (x : Tup) : List Fd := match foundD ds x with
  | some _ => touchD ds x now
  | none => roomD ds most ++ [⟨x, last + 1, now⟩]

theorem touchD_mid {X Y : List Fd} {y : Fd} {x : Tup} {now : Int} (hy : same x y.t = true) (hno : ∀ z ∈ X, same x z.t = false) : touchD (X ++ y :: Y) x now = X ++ Y ++ [{ y with at_ := now }] := by
  have hr : (X ++ y :: Y)[X.length]? = some y := by rw [List.getElem?_append_right (Nat.le_refl _)]; simp
  have : (X ++ y :: Y).findIdx? (fun y => same x y.t) = some X.length := findIdx_at hr hy fun j r hj hr' => by
    rw [List.getElem?_append_left hj] at hr'
    exact hno r (List.mem_of_getElem? hr')
  unfold touchD
  rw [this]
  simp only [hr]
  rw [List.eraseIdx_append_of_length_le (Nat.le_refl _)]
  simp

/-- (*Table).Put. -/
theorem f13 (x : Tup) {tb : Nat} {most ticks now last : Int} {ds : List Fd} {F : Nat → Prop} (hr : TRep H tb most ticks now last ds F) (hlast : 0 ≤ last ∧ last < 4611686018427387904) (hm1 : 1 ≤ most) : ACalls Try.prog W0 13 [.p (some (tb, 0)), .agg x.c] H fun e H' =>
    e = .ret (.tup [.i .i64 ((foundD ds x).elim (last + 1) (·.id)), .i .i64 ((foundD ds x).elim (if most ≤ ds.length then (ds.head?.elim 0 (·.id)) else 0) fun _ => 0)]) ∧
      TRep H' tb most ticks now ((foundD ds x).elim (last + 1) fun _ => last) (putD ds most now last x) (Up F H H') ∧ Keeps F H H' := by
  obtain ⟨r, mp, fl, gs, N, h, rfl, hl1, hl2⟩ := hr
  rw [List.length_map] at hl1
  refine acalls_in k13 (by simp) ?_
  have hk1 : Grows H (H.alloc (.cells .rw x.c)) := Keeps.alloc' Keeps.refl
  have h1 := h.keep hk1 fun _ _ h => h
  rw [awp_assoc, awp_assoc]
  refine awp_cut (fun env H2 => ∃ fl2 gs2 N2, env.get 0 = some (.p (some (tb, 0))) ∧ env.get 3 = some (.p (some (H.next, 0))) ∧ env.get 5 = some (.i .i64 (if most ≤ (fl.map (·.2)).length then ((fl.map (·.2)).head?.elim 0 (·.id)) else 0)) ∧
    H2.get H.next = some (.cells .rw x.c) ∧ H.next < H2.next ∧ foundD (fl.map (·.2)) x = none ∧ TR H2 tb most ticks now last r mp fl2 gs2 N2 F ∧ fl2.map (·.2) = roomD (fl.map (·.2)) most ∧ Keeps F H H2 ∧ (∀ z ∈ fl2, same x z.2.t = false)) ?_ ?_
  · simp -dsimp
    refine (f31 x h1).mono ?_
    rintro e2 H2 (⟨hf, he, g2⟩ | ⟨X, y, Y, rfl, hno, hf, he, N2, h2, k2⟩)
    · rw [he]
      have hfa : ∀ z ∈ fl, same x z.2.t = false := by
        rw [List.find?_eq_none] at hf
        intro z hz
        have := hf z hz
        simpa using this
      have hfd : foundD (fl.map (·.2)) x = none := by
        unfold foundD
        rw [List.find?_eq_none]
        intro z hz
        obtain ⟨z', hz', rfl⟩ := List.mem_map.1 hz
        simp [hfa z' hz']
      have g12 := hk1.trans g2
      have h2 := h1.keep g2 fun _ _ h => h
      have gx := Grows.at g2 (i := H.next) (by simp <;> omega) (by simp; rfl)
      have lx : H.next < H2.next := Nat.lt_of_lt_of_le (by simp <;> omega) g2.next
      have gt2 := h2.tab
      have gm2 := h2.map
      have gl : gs.length = fl.length := by rw [h.perm.length_eq, List.length_map]
      have gr2 := h2.ring.get r (by simp)
      simp only [tabO] at gt2
      simp only [Nd.o, Nd.l] at gr2
      by_cases hmost : most ≤ (fl.length : Int)
      · cases fl with
        | nil => simp at hmost; omega
        | cons y fl =>
          have hnx := (path_get (i := 0) (a := r) (b := y.1) h2.ring.path (by simp) (by simp)).1
          rw [hnx] at gr2
          have gy2 := h2.ring.get y.1 (by simp)
          have hny := h.node y (by simp)
          simp only [Nd.o, Nd.l, hny.2.1] at gy2
          have hmost' : most ≤ (gs.length : Int) := by rw [gl]; exact hmost
          simp -dsimp [gt2, gm2, hmost', gr2, gy2]
          refine (f45 (X := []) (Y := fl) h2).next ?_
          rintro H3 ⟨N3, gs3, h3, _, k3, e3⟩
          simp -dsimp
          refine hold_mk ⟨fl, gs3, N3, by simp, by simp, ?_, k3.at lx (fun hi => by have := h.lt _ hi; omega) gx, by rw [e3]; exact lx, hfd, h3, ?_, Keeps.trans (Grows.keeps g12) k3, fun z hz => hfa z (by simp [hz])⟩
          · have : (if most ≤ (((y :: fl).map (·.2)).length : Int) then ((y :: fl).map (·.2)).head?.elim 0 (·.id) else 0) = y.2.id := by
              rw [if_pos (by simpa using hmost)]; rfl
            rw [this]; simp
          · unfold roomD
            rw [if_pos (by simpa using hmost)]; rfl
      · have hmost' : ¬ most ≤ (gs.length : Int) := by rw [gl]; exact hmost
        simp -dsimp [gt2, gm2, hmost']
        refine hold_mk ⟨fl, gs, N, by simp, by simp, ?_, gx, lx, hfd, h2, ?_, Grows.keeps g12, hfa⟩
        · rw [List.length_map, if_neg hmost]; simp
        · unfold roomD; rw [List.length_map, if_neg hmost]
    · rw [he]
      have hys := List.find?_some hf
      have hfd : foundD ((X ++ y :: Y).map (·.2)) x = some y.2 := by
        unfold foundD
        rw [List.find?_map]
        have : (X ++ y :: Y).find? ((fun z : Fd => same x z.t) ∘ fun z => z.2) = some y := hf
        rw [this]; rfl
      simp -dsimp
      refine fin_mk ⟨by rw [hfd]; rfl, ⟨r, mp, X ++ Y ++ [(y.1, { y.2 with at_ := now })], gs, N2, ?_, ?_, ?_, hl2⟩, Keeps.trans (Grows.keeps hk1) k2⟩
      · rw [hfd]
        refine h2.mono (fun i hi => .inl hi) fun i hi => ?_
        rcases hi with hi | hi
        · exact h2.lt i hi
        · exact hi.2
      · unfold putD
        rw [hfd]
        simp only [List.map_append, List.map_cons, List.map_nil]
        rw [touchD_mid hys]
        intro z hz
        obtain ⟨z', hz', rfl⟩ := List.mem_map.1 hz
        exact hno z' hz'
      · unfold putD
        rw [hfd]
        simp only [List.map_append, List.map_cons, List.map_nil]
        rw [touchD_mid hys]
        · simp at hl1 ⊢; omega
        intro z hz
        obtain ⟨z', hz', rfl⟩ := List.mem_map.1 hz
        exact hno z' hz'
  · rintro env H2 ⟨fl2, gs2, N2, e0, e3, e5, gx, lx, hfd, h2, hroom, hk2, hno⟩
    have gt2 := h2.tab
    have gm2 := h2.map
    simp only [tabO] at gt2
    have hwl : IntKind.i64.wrap (last + 1) = last + 1 := wrap_i64 (by omega) (by omega)
    have tx : ¬ H.next = tb := fun e => by have := h.lt _ h.own.1; omega
    have tn : ¬ tb = H2.next + 6 := fun e => by have := h2.lt _ h.own.1; omega
    have mn : ¬ mp = H2.next + 6 := fun e => by have := h2.lt _ h.own.2.2.1; omega
    have mt : ¬ mp = tb := fun e => h.apart.2.1 e.symm
    have xn : ¬ H.next = H2.next + 6 := by omega
    have gv := h2.nolook (x := x) fun z hz e => by have := hno z hz; rw [e] at this; simp [same] at this
    simp only [Tup.c] at gv gx
    obtain ⟨g, hg⟩ : ∃ g, g = (if most ≤ ((fl.map (·.2)).length : Int) then ((fl.map (·.2)).head?.elim 0 (·.id)) else 0) := ⟨_, rfl⟩
    rw [← hg] at e5
    simp -dsimp [e0, e3, e5, gt2, ldCells_of gx, tx, tn, hwl, gm2, mn, mt, xn, gv]
    obtain ⟨a, ha⟩ : ∃ a, a = H2.next + 6 := ⟨_, rfl⟩
    rw [← ha] at tn mn xn ⊢
    obtain ⟨o1, o2, o3, o4⟩ := h2.own
    have hlt2 : ∀ i, F i → i < H2.next := h2.lt
    obtain ⟨Hn, hHn⟩ : ∃ Hn, Hn = ((((H2.set tb (tabO most ticks now (last + 1) r mp)).bump 8).set a (.cells .rw [.i .i64 x.p, .i .u32 x.s, .i .u32 x.d, .i .i64 x.sp, .i .i64 x.dp, .i .i64 (last + 1), .i .i64 0, .p none, .p none])).set mp (.map ((gs2 ++ [(a, x)]).map ent))) := ⟨_, rfl⟩
    have hshow : ((((H2.set tb (.cells .rw [.i .i64 most, .i .i64 ticks, .i .i64 now, .i .i64 (last + 1), .p (some (r, 0)), .m (some mp)])).bump 8).set a (.cells .rw [.i .i64 x.p, .i .u32 x.s, .i .u32 x.d, .i .i64 x.sp, .i .i64 x.dp, .i .i64 (last + 1), .i .i64 0, .p none, .p none])).set mp (.map (gs2.map ent ++ [(.agg [.i .i64 x.p, .i .u32 x.s, .i .u32 x.d, .i .i64 x.sp, .i .i64 x.dp], .p (some (a, 0)))]))) = Hn := by
      rw [hHn, List.map_append]; rfl
    rw [hshow]
    clear hshow
    have ta : tb ≠ a := tn
    have hnn : Hn.next = H2.next + 8 := by rw [hHn]; simp
    have kn : Keeps (fun i => i = tb ∨ i = mp) H2 Hn := ⟨by omega, fun i hi hf => by
      rw [hHn, AH.get_set, if_neg (fun e => hf (.inr e)), AH.get_set, if_neg (by omega), bump_get, AH.get_set, if_neg (fun e => hf (.inl e))]⟩
    have gtn : Hn.get tb = some (tabO most ticks now (last + 1) r mp) := by
      rw [hHn, AH.get_set, if_neg h2.apart.2.1, AH.get_set, if_neg ta, bump_get, AH.get_set, if_pos rfl]
    have gan : Hn.get a = some (.cells .rw ([.i .i64 x.p, .i .u32 x.s, .i .u32 x.d, .i .i64 x.sp, .i .i64 x.dp, .i .i64 (last + 1), .i .i64 0] ++ [.p none, .p none])) := by
      rw [hHn, AH.get_set, if_neg (fun e => mn e.symm), AH.get_set, if_pos rfl]; rfl
    have gmn : Hn.get mp = some (.map ((gs2 ++ [(a, x)]).map ent)) := by rw [hHn, AH.get_set, if_pos rfl]
    have hin : ∀ i ∈ r :: fl2.map (·.1), F i ∧ i ≠ tb ∧ i ≠ mp := by
      intro i hi
      rcases List.mem_cons.1 hi with e | e
      · rw [e]; exact ⟨o2, fun e => h2.apart.1 e.symm, fun e => h2.apart.2.2.1 e.symm⟩
      · obtain ⟨z, hz, rfl⟩ := List.mem_map.1 e
        exact ⟨o4 z hz, h2.apart.2.2.2 z hz⟩
    have rn : Ring Hn r (fl2.map (·.1)) N2 := h2.ring.keep kn fun i hi hf => by
      obtain ⟨_, h1, h2⟩ := hin i hi
      rcases hf with e | e
      · exact h1 e
      · exact h2 e
    have han : a ∉ r :: fl2.map (·.1) := fun hi => by have := hlt2 a (hin a hi).1; omega
    refine (f46 (c := ⟨x, last + 1, 0, 0, 0⟩) (rest := [.p none, .p none]) gtn rn han (by omega) ta gan ⟨_, _, rfl⟩).next ?_
    rintro H4 ⟨N4, r4, n4, n4t, n4i, n4a, k4, e4⟩
    have gy4 := r4.get a (by simp)
    simp only [Nd.o, Nd.l, n4i] at gy4
    simp -dsimp [e0, e3, e5, gy4]
    have hnk : ∀ i, i ∈ r :: (fl2.map (·.1) ++ [a]) → (F i ∨ i = a) ∧ i ≠ tb ∧ i ≠ mp := by
      intro i hi
      rw [← List.cons_append] at hi
      rcases List.mem_append.1 hi with hi | hi
      · exact ⟨.inl (hin i hi).1, (hin i hi).2⟩
      · simp only [List.mem_singleton] at hi; rw [hi]; exact ⟨.inr rfl, fun e => ta e.symm, fun e => mn e.symm⟩
    have hn2 := hk2.next
    have hUp : ∀ i, F i ∨ i = a → Up F H H4 i := fun i hi => by
      rcases hi with hi | hi
      · exact .inl hi
      · exact .inr ⟨by omega, by omega⟩
    refine fin_mk ⟨by rw [hfd, hg]; rfl, ⟨r, mp, fl2 ++ [(a, ⟨x, last + 1, now⟩)], gs2 ++ [(a, x)], N4, ?_, ?_, ?_, hl2⟩, ?_⟩
    · rw [hfd]
      refine ⟨⟨.inl o1, .inl o2, .inl o3, fun z hz => ?_⟩, fun i hi => ?_, ⟨h2.apart.1, h2.apart.2.1, h2.apart.2.2.1, fun z hz => ?_⟩, k4.at (by rw [hnn]; have := hlt2 _ o1; omega) (fun hi => (hnk tb hi).2.1 rfl) gtn, by simpa using r4, fun z hz => ?_, k4.at (by rw [hnn]; have := hlt2 _ o3; omega) (fun hi => (hnk mp hi).2.2 rfl) gmn, ?_, ?_⟩
      · rcases List.mem_append.1 hz with hz | hz
        · exact .inl (o4 z hz)
        · simp only [List.mem_singleton] at hz; rw [hz]; exact hUp a (.inr rfl)
      · rcases hi with hi | hi
        · have := h.lt i hi; omega
        · exact hi.2
      · rcases List.mem_append.1 hz with hz | hz
        · exact h2.apart.2.2.2 z hz
        · simp only [List.mem_singleton] at hz; rw [hz]; exact ⟨fun e => ta e.symm, fun e => mn e.symm⟩
      · rcases List.mem_append.1 hz with hz | hz
        · obtain ⟨q1, q2, q3⟩ := n4 z.1 (List.mem_cons_of_mem _ (List.mem_map_of_mem hz))
          obtain ⟨s1, s2, s3⟩ := h2.node z hz
          exact ⟨by rw [q1, s1], by rw [q2, s2], by rw [q3, s3]⟩
        · simp only [List.mem_singleton] at hz; rw [hz]; exact ⟨n4t, n4i, n4a⟩
      · rw [List.map_append]
        exact h2.perm.append_right _
      · rw [List.pairwise_append]
        refine ⟨h2.uniq, by simp, fun z hz b hb => ?_⟩
        simp only [List.mem_singleton] at hb
        rw [hb, same_comm]; exact hno z hz
    · unfold putD; rw [hfd]; simp [hroom]
    · unfold putD; rw [hfd]
      simp only [List.length_append, List.length_singleton, roomD, List.length_map]
      split
      · simp; omega
      · simp; omega
    · refine Keeps.trans hk2 (Keeps.then (F := F) (kn.mono fun i _ hi => ?_) k4 fun i hi hf => ?_)
      · rcases hi with e | e
        · rw [e]; exact o1
        · rw [e]; exact o3
      · rcases (hnk i hf).1 with h | h
        · exact h
        · omega
end Go.Proofs.Ytmdmabedfleacaa
