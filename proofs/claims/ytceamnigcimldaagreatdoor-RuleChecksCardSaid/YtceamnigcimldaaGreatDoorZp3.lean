/- A part of the proof: contracts of functions, over the abstract machine. -/
import Derived.Test.YtceamnigcimldaaGreatDoorZp2
set_option linter.unusedVariables false
set_option linter.unusedSimpArgs false
set_option linter.all false
/- Ports: the marks. -/
namespace Go.Proofs.YtceamnigcimldaaGreatDoor
open Ram Go Go.Proofs.Ports

variable {W0 : World} {H : AH}

/-- An entry. -/
def ent (d : Int → Int) (z : Int) : V × V := (.i .i64 z, .i .i64 (d z))
theorem same_int (a b : Int) : sameKey (.one .i) (.i .i64 a) (.i .i64 b) = some (a == b) := by simp [sameKey, sameCell]
theorem find_ints (d : Int → Int) (k : Int) : ∀ zs : List Int, findV (.one .i) (.i .i64 k) (zs.map (ent d)) = some (if k ∈ zs then some (zs.idxOf k, .i .i64 (d k)) else none)
  | [] => rfl
  | z :: zs => by
    have ih := find_ints d k zs
    show findV (.one .i) (.i .i64 k) ((.i .i64 z, .i .i64 (d z)) :: zs.map (ent d)) = _
    unfold findV
    rw [same_int, ih]
    by_cases h : k = z
    · subst h
      simp
    · have h2 : (k == z) = false := by simp [h]
      have hz : (z == k) = false := by simp; omega
      rw [h2]
      by_cases hm : k ∈ zs
      · simp [hm, h, List.idxOf_cons, hz]
      · simp [hm, h]
def upd (d : Int → Int) (k v : Int) : Int → Int := fun z => if z = k then v else d z
theorem map_upd {d : Int → Int} {k v : Int} : ∀ {zs : List Int}, zs.Nodup → k ∈ zs → (zs.map (ent d)).set (zs.idxOf k) (.i .i64 k, .i .i64 v) = zs.map (ent (upd d k v))
  | [], _, h => by simp at h
  | z :: zs, hn, h => by
    obtain ⟨h1, h2⟩ := List.nodup_cons.1 hn
    by_cases e : z = k
    · subst e
      simp only [List.map_cons, List.idxOf_cons_self, List.set_cons_zero]
      congr 1
      · simp [ent, upd]
      · refine List.map_congr_left fun x hx => ?_
        have : x ≠ z := fun e => h1 (e ▸ hx)
        simp [ent, upd, this]
    · have hm : k ∈ zs := by rcases List.mem_cons.1 h with h | h; exact absurd h.symm e; exact h
      have : (z == k) = false := by simp [e]
      rw [List.idxOf_cons, this]
      simp only [cond_false, List.map_cons, List.set_cons_succ]
      rw [map_upd h2 hm]
      congr 1
      simp [ent, upd, e]
theorem map_new {d : Int → Int} {k v : Int} {zs : List Int} (h : k ∉ zs) : zs.map (ent d) ++ [(.i .i64 k, .i .i64 v)] = (zs ++ [k]).map (ent (upd d k v)) := by
  rw [List.map_append]
  congr 1
  · refine List.map_congr_left fun x hx => ?_
    have : x ≠ k := fun e => h (e ▸ hx)
    simp [ent, upd, this]
  · simp [ent, upd]
/-- A map of numbers: these keys, what stands at them; 0 elsewhere. -/
structure MapI (es : List (V × V)) (zs : List Int) (d : Int → Int) : Prop where
  es : es = zs.map (ent d)
  nodup : zs.Nodup
  zero : ∀ z, z ∉ zs → d z = 0
def addK (zs : List Int) (k : Int) : List Int := if k ∈ zs then zs else zs ++ [k]
theorem MapI.put {es : List (V × V)} {zs : List Int} {d : Int → Int} (h : MapI es zs d) (k v : Int) : MapI ((addK zs k).map (ent (upd d k v))) (addK zs k) (upd d k v) := by
  unfold addK
  by_cases hm : k ∈ zs
  · rw [if_pos hm]
    exact ⟨rfl, h.nodup, fun z hz => by
      have : z ≠ k := fun e => hz (e ▸ hm)
      simp [upd, this, h.zero z hz]⟩
  · rw [if_neg hm]
    refine ⟨rfl, ?_, fun z hz => ?_⟩
    · rw [List.nodup_append]
      exact ⟨h.nodup, by simp, by intro a ha b hb; simp at hb; subst hb; exact fun e => hm (e ▸ ha)⟩
    · simp at hz
      simp [upd, hz.2, h.zero z hz.1]
theorem mem_addK {zs : List Int} {k z : Int} : z ∈ addK zs k ↔ z ∈ zs ∨ z = k := by
  unfold addK
  by_cases h : k ∈ zs
  · rw [if_pos h]
    constructor
    · exact .inl
    · rintro (h' | rfl)
      · exact h'
      · exact h
  · rw [if_neg h]; simp
theorem addK_len (zs : List Int) (k : Int) : (addK zs k).length ≤ zs.length + 1 := by unfold addK; split <;> simp
/-- Writing into such a map. -/
theorem put_at {es : List (V × V)} {zs : List Int} {d : Int → Int} (h : MapI es zs d) (k v : Int) :
    (k ∈ zs ∧ findV (.one .i) (.i .i64 k) es = some (some (zs.idxOf k, .i .i64 (d k))) ∧ es.set (zs.idxOf k) (.i .i64 k, .i .i64 v) = (addK zs k).map (ent (upd d k v))) ∨
    (k ∉ zs ∧ findV (.one .i) (.i .i64 k) es = some none ∧ d k = 0 ∧ es ++ [(.i .i64 k, .i .i64 v)] = (addK zs k).map (ent (upd d k v))) := by
  have hf := find_ints d k zs
  rw [← h.es] at hf
  by_cases hm : k ∈ zs
  · left
    rw [if_pos hm] at hf
    refine ⟨hm, hf, ?_⟩
    unfold addK
    rw [if_pos hm, h.es]
    exact map_upd h.nodup hm
  · right
    rw [if_neg hm] at hf
    refine ⟨hm, hf, h.zero k hm, ?_⟩
    unfold addK
    rw [if_neg hm, h.es]
    exact map_new hm

theorem pmark_snoc (l : List Sp) (s : Sp) (x : Int) : pmark (l ++ [s]) x = pmark l x + ((if s.f = x then 1 else 0) - (if s.t + 1 = x then 1 else 0)) := by
  induction l with
  | nil => simp [pmark]
  | cons a r ih => simp only [List.cons_append, pmark]; rw [ih]; omega
theorem pmark_le (l : List Sp) (x : Int) : -(l.length : Int) ≤ pmark l x ∧ pmark l x ≤ l.length := by
  induction l with
  | nil => simp [pmark]
  | cons a r ih =>
    simp only [pmark, List.length_cons]
    by_cases h1 : a.f = x <;> by_cases h2 : a.t + 1 = x <;> simp only [h1, h2, if_true, if_false] <;> omega

/-- ports.marks. -/
theorem f94 {v : V} {l : List Sp} {md : Md} {F : Nat → Prop} (hs : SlV H md 2 v (l.map spRow) F) (hok : okP l = true) : ACalls Tryz.prog W0 94 [v] H fun e H' =>
    ∃ id, e = .ret (.m (some id)) ∧ (∃ zs : List Int, H'.get id = some (.map (zs.map (ent (pmark l)))) ∧ MapI (zs.map (ent (pmark l))) zs (pmark l) ∧ zs.length ≤ 8 ∧ ∀ z ∈ zs, 0 ≤ z ∧ z ≤ 65536) ∧ Grows H H' ∧ id < H'.next := by
  have hl4 := okP_len hok
  have hmem := okP_mem hok
  obtain ⟨e', a', cap', hv⟩ := hs.len
  rw [List.length_map] at hv
  refine acalls_in k94 (by simp) ?_
  simp -dsimp [hv]
  refine awp_round (fun m env H1 => ∃ (i : Nat) (zs : List Int), i ≤ l.length ∧ m = l.length - i ∧ Grows H H1 ∧ env.get 3 = some (.m (some H.next)) ∧ env.get 7 = some v ∧ env.get 8 = some (.i .i64 l.length) ∧ env.get 9 = some (.i .i64 i) ∧
    H1.get H.next = some (.map (zs.map (ent (pmark (l.take i))))) ∧ MapI (zs.map (ent (pmark (l.take i)))) zs (pmark (l.take i)) ∧ zs.length ≤ 2 * i ∧ (∀ z ∈ zs, 0 ≤ z ∧ z ≤ 65536) ∧ H.next < H1.next) l.length
    ⟨0, [], by omega, by omega, Keeps.alloc' Keeps.refl, by simp, by simp [hv], by simp, by simp, by simp, ⟨rfl, by simp, fun z _ => by simp [pmark]⟩, by simp, by simp, by simp⟩ ?_
  rintro m env H1 ⟨i, zs, hi, rfl, hgr, e3, e7, e8, e9, gm, hM, hzl, hzr, nm⟩
  by_cases hlt : i < l.length
  · obtain ⟨id, o, cap, cs, hvv, hF, sa, idl⟩ := at_row hs hlt
    have hs1 := sa.keep hgr fun h => h
    have hrow := hs1.row (row_at hlt)
    simp only [spRow] at hrow
    have hwi := wrap_succ (i := i) (by omega)
    rw [hvv] at e7
    obtain ⟨s, hsd⟩ : ∃ s, s = l[i] := ⟨_, rfl⟩
    rw [← hsd] at hrow
    obtain ⟨s0, s1, s2⟩ := hmem s (by rw [hsd]; exact List.getElem_mem hlt)
    have hb := pmark_le (l.take i) s.f
    have hb2 := pmark_le (l.take i) (s.t + 1)
    have htl : (l.take i).length ≤ 4 := by rw [List.length_take]; omega
    obtain ⟨d, hd⟩ : ∃ d, d = pmark (l.take i) := ⟨_, rfl⟩
    rw [← hd] at gm hM hb hb2
    have w1 : IntKind.i64.wrap (d s.f + 1) = d s.f + 1 := wrap_i64 (by omega) (by omega)
    have wt : IntKind.i64.wrap (s.t + 1) = s.t + 1 := wrap_i64 (by omega) (by omega)
    have hne : s.t + 1 ≠ s.f := by omega
    have hne' : ¬ H.next = H1.next := by omega
    have hM1 := hM.put s.f (d s.f + 1)
    have hu2 : upd d s.f (d s.f + 1) (s.t + 1) = d (s.t + 1) := by simp [upd, hne]
    have w2 : IntKind.i64.wrap (d (s.t + 1) - 1) = d (s.t + 1) - 1 := wrap_i64 (by omega) (by omega)
    have hM2 := hM1.put (s.t + 1) (d (s.t + 1) - 1)
    have hfin : upd (upd d s.f (d s.f + 1)) (s.t + 1) (d (s.t + 1) - 1) = pmark (l.take (i + 1)) := by
      funext x
      rw [take_snoc hlt, pmark_snoc, ← hd, ← hsd]
      unfold upd
      by_cases x1 : x = s.t + 1
      · subst x1
        rw [if_pos rfl, if_neg (by omega), if_pos rfl]; omega
      · rw [if_neg x1]
        by_cases x2 : x = s.f
        · subst x2
          rw [if_pos rfl, if_pos rfl, if_neg (by omega)]; omega
        · rw [if_neg x2, if_neg (by omega), if_neg (by omega)]; omega
    have hlen2 := addK_len (addK zs s.f) (s.t + 1)
    have hlen1 := addK_len zs s.f
    have hr2 : ∀ z ∈ addK (addK zs s.f) (s.t + 1), 0 ≤ z ∧ z ≤ 65536 := by
      intro z hz
      rcases mem_addK.1 hz with hz | hz
      · rcases mem_addK.1 hz with hz | hz
        · exact hzr z hz
        · omega
      · omega
    rw [hfin] at hM2
    have hne2 : ¬ H1.next = H.next := by omega
    have wm1 : IntKind.i64.wrap (-1) = -1 := wrap_i64 (by omega) (by omega)
    have wp1 : IntKind.i64.wrap 1 = 1 := wrap_i64 (by omega) (by omega)
    rcases put_at hM s.f (d s.f + 1) with ⟨hz1, hf1, hp1⟩ | ⟨hz1, hf1, hd1, hp1⟩
    · rcases put_at hM1 (s.t + 1) (d (s.t + 1) - 1) with ⟨hz2, hf2, hp2⟩ | ⟨hz2, hf2, hd2, hp2⟩
      · rw [hfin] at hp2
        rw [hu2] at hf2
        simp -dsimp [e3, e7, e8, e9, hlt, hrow, gm, keyOk, hf1, w1, hne', hne2, hp1, wt, hf2, w2, hp2, hwi, wp1]
        exact hold_mk ⟨l.length - (i + 1), by omega, i + 1, _, by omega, rfl, Keeps.set_new (Keeps.alloc' hgr) (by omega), by simp [e3], by simp [e7, hvv], by simp [e8], by simp, by simp, hM2, by omega, hr2, by simp; omega⟩
      · rw [hfin] at hp2
        rw [hu2] at hd2
        have e1 : d (s.t + 1) - 1 = -1 := by omega
        rw [e1] at hp2
        simp -dsimp [e3, e7, e8, e9, hlt, hrow, gm, keyOk, hf1, w1, hne', hne2, hp1, wt, hf2, wm1, hp2, hwi, wp1]
        exact hold_mk ⟨l.length - (i + 1), by omega, i + 1, _, by omega, rfl, Keeps.set_new (Keeps.alloc' hgr) (by omega), by simp [e3], by simp [e7, hvv], by simp [e8], by simp, by simp, hM2, by omega, hr2, by simp; omega⟩
    · rw [hd1, Int.zero_add] at hp1
      rw [hd1, Int.zero_add] at hM1 hu2 hfin
      rcases put_at hM1 (s.t + 1) (d (s.t + 1) - 1) with ⟨hz2, hf2, hp2⟩ | ⟨hz2, hf2, hd2, hp2⟩
      · rw [hfin] at hp2
        rw [hu2] at hf2
        simp -dsimp [e3, e7, e8, e9, hlt, hrow, gm, keyOk, hf1, w1, hne', hne2, hp1, wt, hf2, w2, hp2, hwi, wp1]
        exact hold_mk ⟨l.length - (i + 1), by omega, i + 1, _, by omega, rfl, Keeps.set_new (Keeps.alloc' hgr) (by omega), by simp [e3], by simp [e7, hvv], by simp [e8], by simp, by simp, hM2, by omega, hr2, by simp; omega⟩
      · rw [hfin] at hp2
        rw [hu2] at hd2
        have e1 : d (s.t + 1) - 1 = -1 := by omega
        rw [e1] at hp2
        simp -dsimp [e3, e7, e8, e9, hlt, hrow, gm, keyOk, hf1, w1, hne', hne2, hp1, wt, hf2, wm1, hp2, hwi, wp1]
        exact hold_mk ⟨l.length - (i + 1), by omega, i + 1, _, by omega, rfl, Keeps.set_new (Keeps.alloc' hgr) (by omega), by simp [e3], by simp [e7, hvv], by simp [e8], by simp, by simp, hM2, by omega, hr2, by simp; omega⟩
  · have : i = l.length := by omega
    subst this
    rw [List.take_length] at gm hM
    simp -dsimp [e3, e8, e9]
    exact fin_mk ⟨_, rfl, ⟨zs, gm, hM, by omega, hzr⟩, hgr, nm⟩
end Go.Proofs.YtceamnigcimldaaGreatDoor
