/- A part of the proof: contracts of functions, over the abstract machine. -/
import Derived.Test.YtmdmabedfleacaaDoorCi5
set_option linter.unusedVariables false
set_option linter.unusedSimpArgs false
set_option linter.all false
namespace Go.Proofs.YtmdmabedfleacaaDoor
open Ram Go

variable {W0 : World} {H : AH}

/-- A net whose other bits are none. -/
def cut1 (n : Net) : Net := ⟨top n.bits.toNat n.addr * 2 ^ (32 - n.bits.toNat), n.bits⟩
def cleanTo (l : List Net) (i : Nat) : List Net := (((l.take i).zipIdx).filter fun p => !goesB l p.1 p.2).map fun p => cut1 p.1
/-- A set without what says nothing. -/
def cleanL (l : List Net) : List Net := if okSet l then cleanTo l l.length else []

theorem cleanTo_step {l : List Net} {i : Nat} (h : i < l.length) : cleanTo l (i + 1) = cleanTo l i ++ (if goesB l l[i] i then [] else [cut1 l[i]]) := by
  unfold cleanTo
  rw [List.take_add_one, List.getElem?_eq_getElem h, Option.toList_some, List.zipIdx_append, List.filter_append, List.map_append]
  congr 1
  have hl : (l.take i).length = i := by rw [List.length_take]; omega
  rw [hl, List.zipIdx_singleton, List.filter_cons, Nat.zero_add]
  cases goesB l l[i] i <;> simp
theorem cleanTo_len (l : List Net) (i : Nat) : (cleanTo l i).length ≤ i := by
  unfold cleanTo
  rw [List.length_map]
  refine Nat.le_trans (List.length_filter_le _ _) ?_
  rw [List.length_zipIdx, List.length_take]; omega

theorem wrap_succ {i : Nat} (h : i < 9223372036854775807) : IntKind.i64.wrap ((i : Int) + 1) = (i : Int) + 1 := wrap_i64 (by omega) (by omega)

set_option maxRecDepth 4000 in
/-- cidr.Clean. -/
theorem f25 {not : Bool} {v : V} {l : List Net} {md : Md} {F : Nat → Prop} (hs : SlV H md 2 v (l.map nRow) F) (hl : l.length < 4611686018427387904) (hn : ∀ n ∈ l, n.ok) : ACalls Tryd.prog W0 25 [.agg [.b not, v]] H fun e H' =>
    ∃ v', e = .ret (.agg [.b (okSet l && not), v']) ∧ SlV H' .rw 2 v' ((cleanL l).map nRow) (Up NoId H H') ∧ Grows H H' := by
  obtain ⟨e', a', cap', hv⟩ := hs.len
  rw [List.length_map] at hv
  have hone : V.one v = true := by rw [hv]; rfl
  refine acalls_in k25 (by simp) ?_
  have hk0 : ∀ X Y, Grows H ((H.alloc X).alloc Y) := fun _ _ => Keeps.alloc' (Keeps.alloc' Keeps.refl)
  simp -dsimp [hone]
  refine (f22 (hs.keep (hk0 _ _) fun _ _ h => h) hl).next ?_
  rintro H2 h2
  have g2 := (hk0 _ _).trans h2
  have n2 := h2.next
  simp at n2
  have gx := Grows.at h2 (i := H.next) (o := .cells .rw [.b not, v]) (by simp <;> omega) (by simp)
  have gr := Grows.at h2 (i := H.next + 1) (o := .cells .rw [.b false, .sl 0 none 0 0]) (by simp <;> omega) (by simp)
  cases hok : okSet l
  · simp -dsimp [gr, splice]
    refine fin_mk ⟨_, rfl, .inl ⟨by simp [cleanL, hok], _, rfl⟩, Keeps.set_new g2 (by omega)⟩
  · have hl4 := okSet_len hok
    have ne1 : ¬ H.next = H2.next := by omega
    have ne2 : ¬ H.next + 1 = H2.next := by omega
    simp -dsimp [gx, hv, splice, ne1]
    have k2 : Grows H2 (H2.alloc (.cells .rw [.b not, .sl 0 none 0 0])) := Keeps.alloc' Keeps.refl
    refine awp_round (fun m env H1 => ∃ (i : Nat) (v3 : V) (FG : Nat → Prop), i ≤ l.length ∧ m = l.length - i ∧ Grows H H1 ∧ env.get 1 = some (.p (some (H.next, 0))) ∧ env.get 2 = some (.p (some (H.next + 1, 0))) ∧ env.get 3 = some (.p (some (H2.next, 0))) ∧ env.get 14 = some v ∧ env.get 15 = some (.i .i64 l.length) ∧ env.get 16 = some (.i .i64 i) ∧
      H1.get H.next = some (.cells .rw [.b not, v]) ∧ H1.get (H.next + 1) = some (.cells .rw [.b false, .sl 0 none 0 0]) ∧ H1.get H2.next = some (.cells .rw [.b not, v3]) ∧ H2.next < H1.next ∧ SlV H1 .rw 2 v3 ((cleanTo l i).map nRow) FG ∧ ∀ j, FG j → H2.next < j ∧ j < H1.next) l.length
      ⟨0, _, NoId, by omega, by omega, g2.trans k2, by simp, by simp, by simp, by simp [hv], by simp, by simp, by rw [AH.get_alloc, if_neg ne1]; exact gx, by rw [AH.get_alloc, if_neg ne2]; exact gr, by simp; rfl, by simp, .inl ⟨by simp [cleanTo], _, rfl⟩, fun j h => h.elim⟩ ?_
    rintro m env H1 ⟨i, v3, FG, hi, rfl, hgr, e1, e2, e3, e14, e15, e16, gx1, gr1, gc1, nc1, hs3, hFG⟩
    have n1 := hgr.next
    by_cases hlt : i < l.length
    · rcases hs with ⟨hnil, _⟩ | ⟨id, o, cap, cs, hvv, hF, hs⟩
      · simp only [List.map_eq_nil_iff] at hnil; subst hnil; simp at hlt
      rw [List.length_map] at hvv
      have hs1 := hs.keep hgr fun h => h
      have hrowi := hs1.row (i := i) (r := nRow l[i]) (by rw [List.getElem?_map, List.getElem?_eq_getElem hlt]; rfl)
      simp only [nRow] at hrowi
      have hwi := wrap_succ (i := i) (by omega)
      obtain ⟨bi0, bi1⟩ := okSet_at hok hlt
      have ni := hn _ (List.getElem_mem hlt)
      obtain ⟨k, hk⟩ := Int.eq_ofNat_of_zero_le bi0
      have hk33 : k < 33 := by omega
      have hand := and_mk ni.a0 ni.a1 (k := k) (by omega)
      have hst := cleanTo_step hlt
      have ne3 : ¬ H.next = H1.next := by omega
      have kA : Grows H1 (H1.alloc (.cells .rw (nRow l[i]))) := Keeps.alloc' Keeps.refl
      have sV : SlV (H1.alloc (.cells .rw (nRow l[i]))) md 2 (.sl 2 (some (id, o)) l.length cap) (l.map nRow) F := .inr ⟨id, o, cap, cs, by rw [List.length_map], hF, hs1.keep kA fun h => h⟩
      rw [hvv] at gx1
      simp -dsimp [e1, e2, e3, e14, e15, e16, hvv, hlt, hrowi, gx1, ne3]
      refine (f37 sV hok hn hlt).next ?_
      rintro H3 h3
      have n3 := h3.next
      simp at n3
      have up : ∀ {j : Nat} {x : AO}, j < H1.next → H1.get j = some x → H3.get j = some x := fun {j x} hj hx => Grows.at h3 (by simp <;> omega) (by rw [AH.get_alloc, if_neg (by omega)]; exact hx)
      have gx3 := up (by omega) gx1
      have gr3 := up (by omega) gr1
      have gc3 := up nc1 gc1
      have gn3 := Grows.at h3 (i := H1.next) (o := .cells .rw (nRow l[i])) (by simp <;> omega) (by simp)
      simp only [nRow] at gn3
      have k3 : Grows H1 H3 := kA.trans h3
      cases hg : goesB l l[i] i
      · rw [hg] at hst
        simp only [Bool.false_eq_true, if_false] at hst
        simp -dsimp [e1, e2, e3, e14, e15, e16, gc3, gn3]
        refine f38.next ?_
        rintro H4 h4b
        have kb : Grows H3 (H3.bump 16) := ⟨by simp, fun j hj _ => by rw [bump_get]⟩
        have h4 : Grows H3 H4 := kb.trans h4b
        have n4 := h4b.next
        simp at n4
        have gx4 := Grows.at h4 (by omega) gx3
        have gr4 := Grows.at h4 (by omega) gr3
        have gc4 := Grows.at h4 (by omega) gc3
        have gn4 := Grows.at h4 (by omega) gn3
        rw [hk] at gn4
        have hk' : (k : Int) < 33 := by omega
        simp -dsimp [e1, e2, e3, e14, e15, e16, gc4, gn4, hk, hk', masks_at hk33, hand]
        have hcut : cut1 l[i] = ⟨top k l[i].addr * 2 ^ (32 - k), k⟩ := by unfold cut1; rw [hk]; rfl
        have hlc := cleanTo_len l i
        obtain ⟨H5, hH5⟩ : ∃ H5, H5 = H4.set (H3.next + 12) (.cells .rw (nRow (cut1 l[i]))) := ⟨_, rfl⟩
        have hsh : H4.set (H3.next + 12) (.cells .rw [.i .u32 (top k l[i].addr * 2 ^ (32 - k)), .i .i64 k]) = H5 := by rw [hH5, hcut]; rfl
        rw [hsh]
        have n5 : H5.next = H4.next := by rw [hH5]; simp
        have g35 : Grows H3 H5 := by rw [hH5]; exact Keeps.set_new h4 (by omega)
        have g15 : Grows H1 H5 := k3.trans g35
        have gx5 := Grows.at g35 (by omega) gx3
        have gr5 := Grows.at g35 (by omega) gr3
        have gc5 := Grows.at g35 (by omega) gc3
        have hy : newCells H5 2 (.sl 2 (some (H3.next + 12, 0)) 1 1) = some (1, nRow (cut1 l[i])) := by rw [hH5]; simp
        refine (app_row (hs3.keep g15 fun _ _ h => h) (r := nRow (cut1 l[i])) hy (by simp) (by rw [List.length_map]; omega) (by rw [List.length_map]; omega)).mono ?_
        rintro v6 H6 ⟨hs6, k6⟩
        have n6 := k6.next
        have gx6 := k6.at (i := H.next) (by omega) (fun h => by have := hFG _ h; omega) gx5
        have gr6 := k6.at (i := H.next + 1) (by omega) (fun h => by have := hFG _ h; omega) gr5
        have gc6 := k6.at (i := H2.next) (by omega) (fun h => by have := hFG _ h; omega) gc5
        have hrows : (cleanTo l i).map nRow ++ [nRow (cut1 l[i])] = (cleanTo l (i + 1)).map nRow := by rw [hst, List.map_append]; rfl
        rw [hrows] at hs6
        obtain ⟨e9, a9, c9, hv9⟩ := hs6.len
        obtain ⟨n9, hn9⟩ : ∃ n, n = ((cleanTo l (i + 1)).map nRow).length := ⟨_, rfl⟩
        rw [← hn9] at hv9
        subst hv9
        have hk6 : Grows H H6 := (hgr.trans g15).then k6 fun j hj h => by have := hFG j h; omega
        simp -dsimp [e1, e2, e3, e14, e15, e16, gc6, splice, hwi]
        refine hold_mk ⟨l.length - (i + 1), by omega, i + 1, _, Up FG H5 H6, by omega, rfl, Keeps.set_new hk6 (by omega), by simp [e1], by simp [e2], by simp [e3], by simp [e14, hvv], by simp [e15], by simp, by rw [AH.get_set, if_neg (by omega), hvv]; exact gx6, by rw [AH.get_set, if_neg (by omega)]; exact gr6, by rw [AH.get_set, if_pos rfl], by simp; omega, ?_, ?_⟩
        · exact hs6.keep (G := fun j => j = H2.next) (Keeps.set fun _ => rfl) fun j hj e => by
            subst e
            rcases hj with h | h
            · have := hFG _ h; omega
            · omega
        · rintro j (h | h)
          · have := hFG j h; simp; omega
          · simp; omega
      · rw [hg] at hst
        simp only [if_true, List.append_nil] at hst
        simp -dsimp [e1, e2, e3, e14, e15, e16, hwi]
        exact hold_mk ⟨l.length - (i + 1), by omega, i + 1, v3, FG, by omega, rfl, hgr.trans k3, by simp [e1], by simp [e2], by simp [e3], by simp [e14, hvv], by simp [e15], by simp, by rw [hvv]; exact gx3, gr3, gc3, by omega, by rw [hst]; exact hs3.keep k3 fun _ _ h => h, fun j hj => by have := hFG j hj; omega⟩
    · have : i = l.length := by omega
      subst this
      obtain ⟨e9, a9, c9, hv9⟩ := hs3.len
      obtain ⟨n9, hn9⟩ : ∃ n, n = ((cleanTo l l.length).map nRow).length := ⟨_, rfl⟩
      rw [← hn9] at hv9
      subst hv9
      simp -dsimp [e1, e2, e3, e14, e15, e16, ldCells_of gc1, gr1, splice]
      refine fin_mk ⟨_, rfl, ?_, Keeps.set_new hgr (by omega)⟩
      unfold cleanL
      rw [hok]
      simp only [if_true]
      exact (hs3.keep (G := fun j => j = H.next + 1) (Keeps.set fun _ => rfl) fun j hj e => by have := hFG j hj; omega).mono fun j hj => by have := hFG j hj; exact .inr ⟨by omega, by simp; omega⟩
end Go.Proofs.YtmdmabedfleacaaDoor
