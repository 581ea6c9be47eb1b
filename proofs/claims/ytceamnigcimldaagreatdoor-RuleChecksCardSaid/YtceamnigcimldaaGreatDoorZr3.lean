/- A part of the proof: contracts of functions, over the abstract machine. -/
import Derived.Test.YtceamnigcimldaaGreatDoorZr2
set_option linter.unusedVariables false
set_option linter.unusedSimpArgs false
set_option linter.all false
/- Rules: may a rule be. -/
namespace Go.Proofs.YtceamnigcimldaaGreatDoor
open Ram Go Go.Proofs.Ports

variable {W0 : World} {H : AH}

/-- A rule. -/
structure Rl where
  act : Int
  proto : Int
  fn : Bool
  fl : List Net
  fpn : Bool
  fpl : List Sp
  tn : Bool
  tl : List Net
  tpn : Bool
  tpl : List Sp
  both : Bool
  flow : Int
  cts : List Ct
  sid : Int
  rev : Int
/-- A rule, as it lies. -/
structure IsR (H : AH) (md : Md) (F : Nat → Prop) (row : List V) (r : Rl) (v1 v2 v3 v4 v5 : V) : Prop where
  row : row = [.i .i64 r.act, .i .i64 r.proto, .b r.fn, v1, .b r.fpn, v2, .b r.tn, v3, .b r.tpn, v4, .b r.both, .i .i64 r.flow, v5, .i .i64 r.sid, .i .i64 r.rev]
  s1 : SlV H md 2 v1 (r.fl.map nRow) F
  s2 : SlV H md 2 v2 (r.fpl.map spRow) F
  s3 : SlV H md 2 v3 (r.tl.map nRow) F
  s4 : SlV H md 2 v4 (r.tpl.map spRow) F
  s5 : SlV H md 8 v5 (r.cts.map cRow) F
  l1 : r.fl.length ≤ 6
  l2 : r.fpl.length ≤ 6
  l3 : r.tl.length ≤ 6
  l4 : r.tpl.length ≤ 6
  l5 : r.cts.length ≤ 6
theorem IsR.keep {md : Md} {F G : Nat → Prop} {row : List V} {r : Rl} {v1 v2 v3 v4 v5 : V} {H' : AH} (h : IsR H md F row r v1 v2 v3 v4 v5) (k : Keeps G H H') (hf : ∀ i, F i → ¬ G i) : IsR H' md F row r v1 v2 v3 v4 v5 :=
  ⟨h.row, h.s1.keep k hf, h.s2.keep k hf, h.s3.keep k hf, h.s4.keep k hf, h.s5.keep k hf, h.l1, h.l2, h.l3, h.l4, h.l5⟩
theorem slv_one {md : Md} {es : Nat} {v : V} {rows : List (List V)} {F : Nat → Prop} (h : SlV H md es v rows F) : V.one v = true := by
  obtain ⟨e, a, c, rfl⟩ := h.len; rfl
def bareP (n : Bool) (l : List Sp) : Bool := decide ((cleanP l).length = 0) && !(okP l && n)
def contsTo (l : List Ct) : Nat → Bool
  | 0 => true
  | k + 1 => contsTo l k && (match l[k]? with
    | some c => contP c (plainTo l k)
    | none => true)
theorem contsTo_succ {l : List Ct} {i : Nat} (h : i < l.length) : contsTo l (i + 1) = (contsTo l i && contP l[i] (plainTo l i)) := by
  show (contsTo l i && _) = _
  rw [List.getElem?_eq_getElem h]
def ok1 (r : Rl) : Bool := inB r.act 1 4 && (decide (r.proto = 0) || (decide (r.proto = 1) || (decide (r.proto = 6) || decide (r.proto = 17))))
def ok2 (r : Rl) : Bool := okSet r.fl && (okSet r.tl && (okP r.fpl && okP r.tpl))
def ok3 (r : Rl) : Bool := decide (¬ r.proto = 1) || (bareP r.fpn r.fpl && bareP r.tpn r.tpl)
def ok4 (r : Rl) : Bool := inB r.flow 0 2 && (inB r.sid 1 999999999 && (inB r.rev 1 999999999 && decide (r.cts.length ≤ 4)))
/-- May it be? -/
def checkR (r : Rl) : Bool := ok1 r && (ok2 r && (ok3 r && (ok4 r && contsTo r.cts r.cts.length)))

set_option maxRecDepth 4000 in
set_option maxHeartbeats 2000000 in
/-- rule.Check. -/
theorem f28 {md : Md} {F : Nat → Prop} {row : List V} {r : Rl} {v1 v2 v3 v4 v5 : V} (hr : IsR H md F row r v1 v2 v3 v4 v5) : ACalls Tryz.prog W0 28 [.agg row] H fun e H' => e = .ret (.b (checkR r)) ∧ Grows H H' := by
  obtain ⟨hrow, s1, s2, s3, s4, s5, l1, l2, l3, l4, l5⟩ := hr
  have o1 := slv_one s1
  have o2 := slv_one s2
  have o3 := slv_one s3
  have o4 := slv_one s4
  have o5 := slv_one s5
  rw [hrow]
  refine acalls_in k28 (by simp) ?_
  obtain ⟨H1, hH1⟩ : ∃ H1, H1 = H.alloc (.cells .rw [.i .i64 r.act, .i .i64 r.proto, .b r.fn, v1, .b r.fpn, v2, .b r.tn, v3, .b r.tpn, v4, .b r.both, .i .i64 r.flow, v5, .i .i64 r.sid, .i .i64 r.rev]) := ⟨_, rfl⟩
  have hg : H1.get H.next = some (.cells .rw [.i .i64 r.act, .i .i64 r.proto, .b r.fn, v1, .b r.fpn, v2, .b r.tn, v3, .b r.tpn, v4, .b r.both, .i .i64 r.flow, v5, .i .i64 r.sid, .i .i64 r.rev]) := by rw [hH1]; simp
  have hgr : Grows H H1 := by rw [hH1]; exact Keeps.alloc' Keeps.refl
  have l1x : H.next < H1.next := by rw [hH1]; simp
  have gat : ∀ H2, Grows H1 H2 → H2.get H.next = some (.cells .rw [.i .i64 r.act, .i .i64 r.proto, .b r.fn, v1, .b r.fpn, v2, .b r.tn, v3, .b r.tpn, v4, .b r.both, .i .i64 r.flow, v5, .i .i64 r.sid, .i .i64 r.rev]) := fun H2 h => Grows.at h l1x hg
  -- the first line
  rw [awp_assoc]
  refine awp_cut (fun env H2 => Grows H1 H2 ∧ env.get 1 = some (.p (some (H.next, 0))) ∧ env.get 3 = some (.b (ok1 r))) ?_ ?_
  · obtain ⟨b, hb⟩ : ∃ b, b = ok1 r := ⟨_, rfl⟩
    rw [← hb]
    unfold ok1 at hb
    simp -dsimp [o1, o2, o3, o4, o5]
    rw [← hH1]
    refine f64.next ?_
    rintro _ rfl
    cases z : inB r.act 1 4
    · rw [z] at hb
      simp -dsimp
      exact hold_mk ⟨Keeps.refl, by simp, by simp [hb]⟩
    rw [z] at hb
    by_cases p0 : r.proto = 0
    · simp -dsimp [hg, p0]
      exact hold_mk ⟨Keeps.refl, by simp, by simp [hb, p0]⟩
    by_cases p1 : r.proto = 1
    · simp -dsimp [hg, p1]
      exact hold_mk ⟨Keeps.refl, by simp, by simp [hb, p1]⟩
    by_cases p6 : r.proto = 6
    · simp -dsimp [hg, p6]
      exact hold_mk ⟨Keeps.refl, by simp, by simp [hb, p6]⟩
    by_cases p17 : r.proto = 17
    · simp -dsimp [hg, p17]
      exact hold_mk ⟨Keeps.refl, by simp, by simp [hb, p17]⟩
    simp -dsimp [hg, p0, p1, p6, p17]
    exact hold_mk ⟨Keeps.refl, by simp, by simp [hb, p0, p1, p6, p17]⟩
  clear hg
  rintro env H2 ⟨k2, e1, e3⟩
  -- the sets
  refine awp_cut (fun env H2 => Grows H1 H2 ∧ env.get 1 = some (.p (some (H.next, 0))) ∧ env.get 3 = some (.b (ok1 r && ok2 r))) ?_ ?_
  · obtain ⟨a, ha⟩ : ∃ a, a = ok1 r := ⟨_, rfl⟩
    obtain ⟨b, hb⟩ : ∃ b, b = ok2 r := ⟨_, rfl⟩
    rw [← ha] at e3
    rw [← ha, ← hb]
    unfold ok2 at hb
    cases a
    · simp -dsimp [e1, e3]
      exact hold_mk ⟨k2, by simp [e1], by simp⟩
    have q2 := gat _ k2
    simp -dsimp [e1, e3, q2, ldCells_of q2]
    refine (f65 (s1.keep (hgr.trans k2) fun _ _ h => h) (by omega)).next ?_
    rintro H3 k3
    have k3 := k2.trans k3
    cases z1 : okSet r.fl
    · rw [z1] at hb
      simp -dsimp [e1, e3]
      exact hold_mk ⟨k3, by simp [e1], by simp [hb]⟩
    rw [z1] at hb
    have q3 := gat _ k3
    simp -dsimp [e1, e3, q3, ldCells_of q3]
    refine (f65 (s3.keep (hgr.trans k3) fun _ _ h => h) (by omega)).next ?_
    rintro H4 k4
    have k4 := k3.trans k4
    cases z2 : okSet r.tl
    · rw [z2] at hb
      simp -dsimp [e1, e3]
      exact hold_mk ⟨k4, by simp [e1], by simp [hb]⟩
    rw [z2] at hb
    have q4 := gat _ k4
    simp -dsimp [e1, e3, q4, ldCells_of q4]
    refine (f66 (s2.keep (hgr.trans k4) fun _ _ h => h) (by omega)).next ?_
    rintro H5 k5
    have k5 := k4.trans k5
    cases z3 : okP r.fpl
    · rw [z3] at hb
      simp -dsimp [e1, e3]
      exact hold_mk ⟨k5, by simp [e1], by simp [hb]⟩
    rw [z3] at hb
    have q5 := gat _ k5
    simp -dsimp [e1, e3, q5, ldCells_of q5]
    refine (f66 (s4.keep (hgr.trans k5) fun _ _ h => h) (by omega)).next ?_
    rintro H6 k6
    have k6 := k5.trans k6
    simp -dsimp [e1, e3]
    exact hold_mk ⟨k6, by simp [e1], by simp [hb]⟩
  clear e1 e3 k2 H2 env
  rintro env H2 ⟨k2, e1, e3⟩
  -- ICMP has no ports
  refine awp_cut (fun env H2 => Grows H1 H2 ∧ env.get 1 = some (.p (some (H.next, 0))) ∧ env.get 3 = some (.b ((ok1 r && ok2 r) && ok3 r))) ?_ ?_
  · obtain ⟨a, ha⟩ : ∃ a, a = (ok1 r && ok2 r) := ⟨_, rfl⟩
    obtain ⟨b, hb⟩ : ∃ b, b = ok3 r := ⟨_, rfl⟩
    rw [← ha] at e3
    rw [← ha, ← hb]
    unfold ok3 at hb
    cases a
    · simp -dsimp [e1, e3]
      exact hold_mk ⟨k2, by simp [e1], by simp⟩
    have q2 := gat _ k2
    by_cases p1 : r.proto = 1
    · simp -dsimp [e1, e3, q2, ldCells_of q2, p1]
      refine (f68 (s2.keep (hgr.trans k2) fun _ _ h => h) (by omega)).some ?_
      rintro v6 H3 ⟨t6, k3⟩
      have k3 := k2.trans k3
      simp -dsimp [e1, e3]
      refine (f67 t6).next ?_
      rintro H4 k4
      have k4 := k3.trans k4
      have hbp : (decide ((cleanP r.fpl).length = 0) && !(okP r.fpl && r.fpn)) = bareP r.fpn r.fpl := rfl
      rw [hbp]
      cases z1 : bareP r.fpn r.fpl
      · rw [z1] at hb
        simp -dsimp [e1, e3]
        exact hold_mk ⟨k4, by simp [e1], by simp [hb, p1]⟩
      rw [z1] at hb
      have q4 := gat _ k4
      simp -dsimp [e1, e3, q4, ldCells_of q4, p1]
      refine (f68 (s4.keep (hgr.trans k4) fun _ _ h => h) (by omega)).some ?_
      rintro v7 H5 ⟨t7, k5⟩
      have k5 := k4.trans k5
      simp -dsimp [e1, e3]
      refine (f67 t7).next ?_
      rintro H6 k6
      have k6 := k5.trans k6
      have hbp : (decide ((cleanP r.tpl).length = 0) && !(okP r.tpl && r.tpn)) = bareP r.tpn r.tpl := rfl
      rw [hbp]
      simp -dsimp [e1, e3]
      exact hold_mk ⟨k6, by simp [e1], by simp [hb, p1]⟩
    · simp -dsimp [e1, e3, q2, ldCells_of q2, p1]
      exact hold_mk ⟨k2, by simp [e1], by simp [hb, p1]⟩
  clear e1 e3 k2 H2 env
  rintro env H2 ⟨k2, e1, e3⟩
  -- the numbers
  refine awp_cut (fun env H2 => Grows H1 H2 ∧ env.get 1 = some (.p (some (H.next, 0))) ∧ env.get 3 = some (.b (((ok1 r && ok2 r) && ok3 r) && ok4 r))) ?_ ?_
  · obtain ⟨a, ha⟩ : ∃ a, a = ((ok1 r && ok2 r) && ok3 r) := ⟨_, rfl⟩
    obtain ⟨b, hb⟩ : ∃ b, b = ok4 r := ⟨_, rfl⟩
    rw [← ha] at e3
    rw [← ha, ← hb]
    unfold ok4 at hb
    cases a
    · simp -dsimp [e1, e3]
      exact hold_mk ⟨k2, by simp [e1], by simp⟩
    have q2 := gat _ k2
    obtain ⟨e5', a5, c5, hv5⟩ := s5.len
    rw [List.length_map] at hv5
    simp -dsimp [e1, e3, q2]
    refine f64.next ?_
    rintro _ rfl
    cases z1 : inB r.flow 0 2
    · rw [z1] at hb
      simp -dsimp [e1, e3]
      exact hold_mk ⟨k2, by simp [e1], by simp [hb]⟩
    rw [z1] at hb
    simp -dsimp [e1, e3, q2]
    refine f64.next ?_
    rintro _ rfl
    cases z2 : inB r.sid 1 999999999
    · rw [z2] at hb
      simp -dsimp [e1, e3]
      exact hold_mk ⟨k2, by simp [e1], by simp [hb]⟩
    rw [z2] at hb
    simp -dsimp [e1, e3, q2]
    refine f64.next ?_
    rintro _ rfl
    cases z3 : inB r.rev 1 999999999
    · rw [z3] at hb
      simp -dsimp [e1, e3]
      exact hold_mk ⟨k2, by simp [e1], by simp [hb]⟩
    rw [z3] at hb
    have hc4 : ((r.cts.length : Int) ≤ 4) = (r.cts.length ≤ 4) := by rw [eq_iff_iff]; omega
    rw [hv5] at q2
    simp -dsimp [e1, e3, q2, hc4]
    exact hold_mk ⟨k2, by simp [e1], by simp [hb]⟩
  clear e1 e3 k2 H2 env
  rintro env H2 ⟨k2, e1, e3⟩
  -- the contents
  obtain ⟨a, ha⟩ : ∃ a, a = (((ok1 r && ok2 r) && ok3 r) && ok4 r) := ⟨_, rfl⟩
  have hck : checkR r = (a && contsTo r.cts r.cts.length) := by rw [ha]; unfold checkR; simp only [Bool.and_assoc]
  rw [← ha] at e3
  rw [hck]
  obtain ⟨e5', a5, c5, hv5⟩ := s5.len
  rw [List.length_map] at hv5
  have q2 := gat _ k2
  rw [hv5] at q2
  simp -dsimp [e1, e3, q2]
  refine awp_round (fun m env H3 => ∃ i : Nat, i ≤ r.cts.length ∧ m = r.cts.length - i ∧ Grows H1 H3 ∧ env.get 3 = some (.b (a && contsTo r.cts i)) ∧ env.get 4 = some (.b (plainTo r.cts i)) ∧ env.get 92 = some v5 ∧ env.get 93 = some (.i .i64 r.cts.length) ∧ env.get 94 = some (.i .i64 i)) r.cts.length
    ⟨0, by omega, by omega, k2, by simp [e3, contsTo], by simp [plainTo], by simp [hv5], by simp, by simp⟩ ?_
  clear e1 e3 q2 k2
  rintro m env K ⟨i, hi, rfl, k3, e3, e4, e92, e93, e94⟩
  by_cases hlt : i < r.cts.length
  · obtain ⟨id, o, cap, cs, hvv, hF, sa, _⟩ := at_row (s5.keep (hgr.trans k3) fun _ _ h => h) hlt
    have hrw := sa.row (row_at hlt)
    have hwi := wrap_succ (i := i) (by omega)
    have hs1 := contsTo_succ hlt
    have hs2 := plainTo_succ hlt
    obtain ⟨c, hc⟩ : ∃ c, c = r.cts[i] := ⟨_, rfl⟩
    rw [← hc] at hrw hs1 hs2
    simp only [cRow] at hrw
    obtain ⟨x, hx⟩ : ∃ x, x = (a && contsTo r.cts i) := ⟨_, rfl⟩
    obtain ⟨y, hy⟩ : ∃ y, y = plainTo r.cts i := ⟨_, rfl⟩
    rw [← hx] at e3
    rw [← hy] at e4 hs1 hs2
    have hx1 : (a && contsTo r.cts (i + 1)) = (x && contP c y) := by rw [hs1, hx, Bool.and_assoc]
    rw [hvv] at e92
    have kA : ∀ X, Grows H1 (K.alloc X) := fun _ => Keeps.alloc' k3
    cases x
    · cases y
      · simp -dsimp [e3, e4, e92, e93, e94, hlt, hrw, splice, hwi]
        exact hold_mk ⟨r.cts.length - (i + 1), by omega, i + 1, by omega, rfl, kA _, by simp [hx1], by simp [hs2], by simp [e92, hvv], by simp [e93], by simp⟩
      · simp -dsimp [e3, e4, e92, e93, e94, hlt, hrw, splice, hwi]
        exact hold_mk ⟨r.cts.length - (i + 1), by omega, i + 1, by omega, rfl, kA _, by simp [hx1], by simp [hs2], by simp [e92, hvv], by simp [e93], by simp⟩
    · simp -dsimp [e3, e4, e92, e93, e94, hlt, hrw, splice]
      refine (f69 (c := c)).next ?_
      rintro K2 k4
      have hgc := Grows.at k4 (i := K.next) (o := .cells .rw (cRow c)) (by simp) (by simp)
      simp only [cRow] at hgc
      cases y
      · simp -dsimp [e3, e4, e92, e93, e94, hgc, hwi]
        exact hold_mk ⟨r.cts.length - (i + 1), by omega, i + 1, by omega, rfl, (kA _).trans k4, by simp [hx1], by simp [hs2], by simp [e92, hvv], by simp [e93], by simp⟩
      · simp -dsimp [e3, e4, e92, e93, e94, hgc, hwi]
        exact hold_mk ⟨r.cts.length - (i + 1), by omega, i + 1, by omega, rfl, (kA _).trans k4, by simp [hx1], by simp [hs2], by simp [e92, hvv], by simp [e93], by simp⟩
  · have : i = r.cts.length := by omega
    subst this
    simp -dsimp [e3, e4, e92, e93, e94]
    exact fin_mk ⟨rfl, hgr.trans k3⟩
end Go.Proofs.YtceamnigcimldaaGreatDoor
