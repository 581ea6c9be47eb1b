/- A part of the proof: contracts of functions, over the abstract machine. -/
set_option linter.unusedVariables false
set_option linter.unusedSimpArgs false
set_option linter.all false
/- Spans of ports: rising lists that do not touch; the sweep over marks; a span put among others. -/
namespace Go.Proofs.Ports

structure Sp where
  f : Int
  t : Int
  deriving DecidableEq

def inS (l : List Sp) (x : Int) : Bool := l.any fun s => decide (s.f ≤ x) && decide (x ≤ s.t)
/-- Rising, behind b, and no two touch. -/
def Canon : Int → List Sp → Prop
  | _, [] => True
  | b, s :: r => b < s.f ∧ s.f ≤ s.t ∧ Canon (s.t + 1) r

theorem inS_cons {s : Sp} {r : List Sp} {x : Int} : inS (s :: r) x = true ↔ (s.f ≤ x ∧ x ≤ s.t) ∨ inS r x = true := by
  simp [inS]
theorem inS_nil {x : Int} : inS [] x = false := rfl
theorem Canon.gt : ∀ {l : List Sp} {b x : Int}, Canon b l → inS l x = true → b < x
  | [], _, _, _, h => by simp [inS] at h
  | s :: r, b, x, ⟨h1, h2, h3⟩, h => by
    rcases inS_cons.1 h with h | h
    · omega
    · have := Canon.gt h3 h; omega
theorem Canon.le : ∀ {l : List Sp} {b c : Int}, c ≤ b → Canon b l → Canon c l
  | [], _, _, _, _ => trivial
  | s :: r, _, _, hc, ⟨h1, h2, h3⟩ => ⟨by omega, h2, h3⟩

/-- Two such lists with the same ports are the same. -/
theorem canon_eq : ∀ {l m : List Sp} {b : Int}, Canon b l → Canon b m → (∀ x, inS l x = inS m x) → l = m
  | [], [], _, _, _, _ => rfl
  | s :: r, [], _, ⟨_, h2, _⟩, _, h => by
    have := h s.f
    rw [inS_cons.2 (.inl ⟨Int.le_refl _, h2⟩)] at this
    cases this
  | [], s :: r, _, _, ⟨_, h2, _⟩, h => by
    have := h s.f
    rw [inS_cons.2 (.inl ⟨Int.le_refl _, h2⟩)] at this
    cases this
  | s :: r, u :: q, b, ⟨h1, h2, h3⟩, ⟨k1, k2, k3⟩, h => by
    have e1 : s.f = u.f := by
      have a := (h s.f).symm.trans (inS_cons.2 (.inl ⟨Int.le_refl _, h2⟩))
      have c := (h u.f).trans (inS_cons.2 (.inl ⟨Int.le_refl _, k2⟩))
      rcases inS_cons.1 a with a | a
      · rcases inS_cons.1 c with c | c
        · omega
        · have := Canon.gt h3 c; omega
      · rcases inS_cons.1 c with c | c
        · have := Canon.gt k3 a; omega
        · have := Canon.gt k3 a; have := Canon.gt h3 c; omega
    have e2 : s.t = u.t := by
      rcases Int.lt_trichotomy s.t u.t with hlt | he | hlt
      · have c := (h (s.t + 1)).trans (inS_cons.2 (.inl ⟨by omega, by omega⟩))
        rcases inS_cons.1 c with c | c
        · omega
        · have := Canon.gt h3 c; omega
      · exact he
      · have a := (h (u.t + 1)).symm.trans (inS_cons.2 (.inl ⟨by omega, by omega⟩))
        rcases inS_cons.1 a with c | c
        · omega
        · have := Canon.gt k3 c; omega
    have e : s = u := by cases s; cases u; simp_all
    subst e
    rw [canon_eq h3 k3 fun x => ?_]
    have hx := h x
    rw [Bool.eq_iff_iff, inS_cons, inS_cons] at hx
    rw [Bool.eq_iff_iff]
    constructor
    · intro hr
      have := Canon.gt h3 hr
      rcases hx.1 (.inr hr) with h | h
      · omega
      · exact h
    · intro hr
      have := Canon.gt k3 hr
      rcases hx.2 (.inr hr) with h | h
      · omega
      · exact h

/-- The document's way: a span put among others. -/
def ins : Sp → List Sp → List Sp
  | x, [] => [x]
  | x, s :: r => if s.t + 1 < x.f then s :: ins x r else if x.t + 1 < s.f then x :: s :: r else ins ⟨min s.f x.f, max s.t x.t⟩ r
theorem ins_in : ∀ {l : List Sp} {x : Sp} {y : Int}, x.f ≤ x.t → inS (ins x l) y = true ∨ True
  | _, _, _, _ => .inr trivial
theorem ins_spec : ∀ {l : List Sp} {x : Sp} {b : Int}, Canon b l → x.f ≤ x.t → b < x.f → Canon b (ins x l) ∧ ∀ y, inS (ins x l) y = (inS l y || (decide (x.f ≤ y) && decide (y ≤ x.t)))
  | [], x, b, _, hx, hb => ⟨⟨hb, hx, trivial⟩, fun y => by simp [ins, inS]⟩
  | s :: r, x, b, ⟨h1, h2, h3⟩, hx, hb => by
    unfold ins
    by_cases c1 : s.t + 1 < x.f
    · rw [if_pos c1]
      obtain ⟨k1, k2⟩ := ins_spec h3 hx c1
      refine ⟨⟨h1, h2, k1⟩, fun y => ?_⟩
      rw [Bool.eq_iff_iff, inS_cons, k2 y, Bool.or_eq_true, Bool.or_eq_true, inS_cons]
      constructor
      · rintro (h | h | h)
        · exact .inl (.inl h)
        · exact .inl (.inr h)
        · exact .inr h
      · rintro ((h | h) | h)
        · exact .inl h
        · exact .inr (.inl h)
        · exact .inr (.inr h)
    · rw [if_neg c1]
      by_cases c2 : x.t + 1 < s.f
      · rw [if_pos c2]
        refine ⟨⟨hb, hx, c2, h2, h3⟩, fun y => ?_⟩
        rw [Bool.eq_iff_iff, inS_cons, Bool.or_eq_true, Bool.and_eq_true, decide_eq_true_eq, decide_eq_true_eq]
        exact or_comm
      · rw [if_neg c2]
        have hm : min s.f x.f ≤ max s.t x.t := by omega
        -- nothing of the rest lies at or ahead of s.t + 1
        obtain ⟨k1, k2⟩ := ins_spec (l := r) (x := ⟨min s.f x.f, max s.t x.t⟩) (b := b) (h3.le (by omega)) hm (by simp only; omega)
        refine ⟨k1, fun y => ?_⟩
        rw [Bool.eq_iff_iff, k2 y, Bool.or_eq_true, Bool.or_eq_true, inS_cons, Bool.and_eq_true, Bool.and_eq_true, decide_eq_true_eq, decide_eq_true_eq, decide_eq_true_eq, decide_eq_true_eq]
        simp only
        constructor
        · rintro (h | ⟨ha, hb⟩)
          · exact .inl (.inr h)
          · by_cases hs : s.f ≤ y ∧ y ≤ s.t
            · exact .inl (.inl hs)
            · exact .inr (by omega)
        · rintro ((h | h) | h)
          · exact .inr (by omega)
          · exact .inl h
          · exact .inr (by omega)

/-- The loops of put: the first one. -/
def put1 : List Sp → Sp → List Sp × Sp
  | [], x => ([], x)
  | s :: r, x => if s.t < x.f - 1 then (s :: (put1 r x).1, (put1 r x).2) else if s.f ≤ x.t + 1 then put1 r ⟨min s.f x.f, max s.t x.t⟩ else put1 r x
def put (l : List Sp) (x : Sp) : List Sp := (put1 l x).1 ++ [(put1 l x).2] ++ l.filter fun s => decide (s.f > (put1 l x).2.t + 1)
theorem put1_cons (s : Sp) (r : List Sp) (x : Sp) : put1 (s :: r) x = if s.t < x.f - 1 then (s :: (put1 r x).1, (put1 r x).2) else if s.f ≤ x.t + 1 then put1 r ⟨min s.f x.f, max s.t x.t⟩ else put1 r x := rfl
theorem put1_far : ∀ {r : List Sp} {x : Sp} {b : Int}, Canon b r → x.f ≤ x.t → x.t + 1 ≤ b → put1 r x = ([], x) ∧ r.filter (fun s => decide (s.f > x.t + 1)) = r
  | [], _, _, _, _, _ => ⟨rfl, rfl⟩
  | s :: r, x, b, ⟨h1, h2, h3⟩, hx, hb => by
    obtain ⟨k1, k2⟩ := put1_far h3 hx (by omega)
    refine ⟨?_, ?_⟩
    · unfold put1
      rw [if_neg (by omega), if_neg (by omega), k1]
    · rw [List.filter_cons, if_pos (by simp; omega), k2]
theorem put1_t : ∀ (l : List Sp) (x : Sp), x.t ≤ (put1 l x).2.t
  | [], _ => Int.le_refl _
  | s :: r, x => by
    unfold put1
    split
    · exact put1_t r x
    · split
      · have := put1_t r ⟨min s.f x.f, max s.t x.t⟩
        simp only at this
        omega
      · exact put1_t r x
theorem put_ins : ∀ {l : List Sp} {x : Sp} {b : Int}, Canon b l → x.f ≤ x.t → put l x = ins x l
  | [], _, _, _, _ => rfl
  | s :: r, x, b, ⟨h1, h2, h3⟩, hx => by
    have ht := put1_t r x
    unfold ins
    by_cases c1 : s.t + 1 < x.f
    · rw [if_pos c1, ← put_ins h3 hx]
      unfold put
      rw [put1_cons, if_pos (by omega)]
      simp only
      rw [List.filter_cons, if_neg (by simp; omega)]
      rfl
    · rw [if_neg c1]
      by_cases c2 : x.t + 1 < s.f
      · rw [if_pos c2]
        obtain ⟨k1, k2⟩ := put1_far (r := s :: r) (x := x) (b := x.t + 1) ⟨c2, h2, h3⟩ hx (Int.le_refl _)
        unfold put
        rw [k1]
        simp only
        rw [k2]
        rfl
      · rw [if_neg c2, ← put_ins h3 (x := ⟨min s.f x.f, max s.t x.t⟩) (by simp only; omega)]
        have ht := put1_t r ⟨min s.f x.f, max s.t x.t⟩
        simp only at ht
        unfold put
        rw [put1_cons, if_neg (by omega), if_pos (by omega), List.filter_cons, if_neg (by simp; omega)]

def okSp (s : Sp) : Prop := 0 ≤ s.f ∧ s.f ≤ s.t ∧ s.t ≤ 65535
/-- All spans, put one behind the other. -/
def putAll (l : List Sp) : List Sp := l.foldl put []
theorem putAll_spec : ∀ (l a : List Sp), (∀ s ∈ l, okSp s) → Canon (-1) a → Canon (-1) (l.foldl put a) ∧ ∀ y, inS (l.foldl put a) y = (inS a y || inS l y)
  | [], a, _, ha => ⟨ha, fun y => by simp [inS_nil]⟩
  | s :: r, a, h, ha => by
    obtain ⟨s1, s2, s3⟩ := h s (by simp)
    have hp := put_ins ha s2
    obtain ⟨k1, k2⟩ := ins_spec ha s2 (by omega)
    obtain ⟨m1, m2⟩ := putAll_spec r (put a s) (fun x hx => h x (by simp [hx])) (by rw [hp]; exact k1)
    refine ⟨m1, fun y => ?_⟩
    rw [List.foldl_cons, m2 y, hp, k2 y]
    simp only [inS, List.any_cons]
    rw [Bool.or_assoc]

/-- How many spans hold a number. -/
def cnt : List Sp → Int → Int
  | [], _ => 0
  | s :: r, x => (if s.f ≤ x then 1 else 0) - (if s.t + 1 ≤ x then 1 else 0) + cnt r x
/-- What a pmark says. -/
def pmark : List Sp → Int → Int
  | [], _ => 0
  | s :: r, x => (if s.f = x then 1 else 0) - (if s.t + 1 = x then 1 else 0) + pmark r x
theorem cnt_step : ∀ (l : List Sp) (x : Int), cnt l x = cnt l (x - 1) + pmark l x
  | [], _ => rfl
  | s :: r, x => by
    have ih := cnt_step r x
    simp only [cnt, pmark]
    rw [ih]
    have h1 : (if s.f ≤ x then (1 : Int) else 0) = (if s.f ≤ x - 1 then 1 else 0) + if s.f = x then 1 else 0 := by
      by_cases a : s.f = x
      · rw [if_pos (by omega), if_neg (by omega), if_pos a]; rfl
      · rw [if_neg a]
        by_cases c : s.f ≤ x - 1
        · rw [if_pos c, if_pos (by omega)]; rfl
        · rw [if_neg c, if_neg (by omega)]; rfl
    have h2 : (if s.t + 1 ≤ x then (1 : Int) else 0) = (if s.t + 1 ≤ x - 1 then 1 else 0) + if s.t + 1 = x then 1 else 0 := by
      by_cases a : s.t + 1 = x
      · rw [if_pos (by omega), if_neg (by omega), if_pos a]; rfl
      · rw [if_neg a]
        by_cases c : s.t + 1 ≤ x - 1
        · rw [if_pos c, if_pos (by omega)]; rfl
        · rw [if_neg c, if_neg (by omega)]; rfl
    rw [h1, h2]
    omega
theorem cnt_pos : ∀ {l : List Sp} {x : Int}, (∀ s ∈ l, okSp s) → 0 ≤ cnt l x ∧ (inS l x = true ↔ 0 < cnt l x)
  | [], x, _ => ⟨by simp [cnt], by simp [cnt, inS]⟩
  | s :: r, x, h => by
    obtain ⟨s1, s2, s3⟩ := h s (by simp)
    obtain ⟨k1, k2⟩ := cnt_pos (l := r) (x := x) fun y hy => h y (by simp [hy])
    rw [inS_cons, k2]
    simp only [cnt]
    by_cases a : s.f ≤ x
    · by_cases c : s.t + 1 ≤ x
      · rw [if_pos a, if_pos c]; omega
      · rw [if_pos a, if_neg c]; omega
    · rw [if_neg a, if_neg (by omega)]; omega
theorem cnt_low : ∀ {l : List Sp} {x : Int}, (∀ s ∈ l, okSp s) → x < 0 → cnt l x = 0
  | [], _, _, _ => rfl
  | s :: r, x, h, hx => by
    obtain ⟨s1, s2, s3⟩ := h s (by simp)
    simp only [cnt]
    rw [if_neg (by omega), if_neg (by omega), cnt_low (fun y hy => h y (by simp [hy])) hx]; rfl
theorem cnt_high : ∀ {l : List Sp} {x : Int}, (∀ s ∈ l, okSp s) → 65535 < x → cnt l x = 0
  | [], _, _, _ => rfl
  | s :: r, x, h, hx => by
    obtain ⟨s1, s2, s3⟩ := h s (by simp)
    simp only [cnt]
    rw [if_pos (by omega), if_pos (by omega), cnt_high (fun y hy => h y (by simp [hy])) hx]; rfl

/-- The sweep. -/
def sweep (d : Int → Int) : List Int → Int → Int → List Sp
  | [], _, _ => []
  | k :: r, fr, deep => if deep = 0 ∧ deep + d k > 0 then sweep d r k (deep + d k) else if deep > 0 ∧ deep + d k = 0 then ⟨fr, k - 1⟩ :: sweep d r fr (deep + d k) else sweep d r fr (deep + d k)
/-- Rising numbers behind b. -/
def Rise : Int → List Int → Prop
  | _, [] => True
  | b, k :: r => b < k ∧ Rise k r
theorem Rise.gt : ∀ {l : List Int} {b x : Int}, Rise b l → x ∈ l → b < x
  | [], _, _, _, h => by simp at h
  | k :: r, b, x, ⟨h1, h2⟩, h => by
    rcases List.mem_cons.1 h with rfl | h
    · exact h1
    · have := Rise.gt h2 h; omega

section
variable {c : Int → Int} {d : Int → Int}
theorem still (hd : ∀ x, c x = c (x - 1) + d x) {b : Int} {ks : List Int} (hks : ∀ x, b < x → x ∉ ks → d x = 0) : ∀ (n : Nat), (∀ k ∈ ks, b + n < k) → c (b + n) = c b
  | 0, _ => by simp
  | n + 1, h => by
    have ih := still hd hks n fun k hk => by have := h k hk; omega
    rw [hd]
    have e : b + ((n + 1 : Nat) : Int) - 1 = b + n := by omega
    rw [e, ih, hks (b + ((n + 1 : Nat) : Int)) (by omega) fun hm => by have := h _ hm; omega]
    omega
theorem sweep_spec (hd : ∀ x, c x = c (x - 1) + d x) (hc : ∀ x, 0 ≤ c x) (hhigh : ∃ M, ∀ x, M < x → c x = 0) : ∀ (r : List Int) (b fr : Int), Rise b r → (∀ x, b < x → x ∉ r → d x = 0) →
    (c b = 0 → Canon b (sweep d r fr 0) ∧ ∀ x, inS (sweep d r fr 0) x = (decide (b ≤ x) && decide (0 < c x))) ∧
    (0 < c b → fr ≤ b → ∃ t rest, sweep d r fr (c b) = ⟨fr, t⟩ :: rest ∧ b ≤ t ∧ Canon (t + 1) rest ∧ ∀ x, inS (sweep d r fr (c b)) x = ((decide (fr ≤ x) && decide (x < b)) || (decide (b ≤ x) && decide (0 < c x))))
  | [], b, fr, _, hz => by
    have hall : ∀ x, b ≤ x → c x = c b := fun x hx => by
      have := still hd (ks := []) hz (x - b).toNat (by simp)
      rwa [show b + ((x - b).toNat : Int) = x by omega] at this
    refine ⟨fun h0 => ⟨trivial, fun x => ?_⟩, fun hp => ?_⟩
    · rw [sweep, inS_nil]
      by_cases hx : b ≤ x
      · rw [hall x hx, h0]; simp
      · simp [hx]
    · obtain ⟨M, hM⟩ := hhigh
      have h1 := hM (max b M + 1) (by omega)
      rw [hall _ (by omega)] at h1
      omega
  | k :: r, b, fr, ⟨hbk, hr⟩, hz => by
    have hgap : ∀ x, b ≤ x → x < k → c x = c b := fun x hx hxk => by
      have := still hd (ks := k :: r) hz (x - b).toNat (by
        intro y hy
        rcases List.mem_cons.1 hy with rfl | hy
        · omega
        · have := hr.gt hy; omega)
      rwa [show b + ((x - b).toNat : Int) = x by omega] at this
    have hk1 : c k = c b + d k := by rw [hd k, hgap (k - 1) (by omega) (by omega)]
    have hz' : ∀ x, k < x → x ∉ r → d x = 0 := fun x hx hm => hz x (by omega) (by
      intro h
      rcases List.mem_cons.1 h with rfl | h
      · omega
      · exact hm h)
    have ck := hc k
    refine ⟨fun h0 => ?_, fun hp hfr => ?_⟩
    · rw [h0, Int.zero_add] at hk1
      unfold sweep
      rw [Int.zero_add]
      by_cases hdk : d k > 0
      · rw [if_pos ⟨rfl, hdk⟩]
        obtain ⟨t, rest, e1, e2, e3, e4⟩ := (sweep_spec hd hc hhigh r k k hr hz').2 (by omega) (Int.le_refl _)
        rw [hk1] at e1 e4
        refine ⟨by rw [e1]; exact ⟨hbk, by simp only; omega, e3⟩, fun x => ?_⟩
        rw [e4 x]
        by_cases hx : k ≤ x
        · simp [hx, show b ≤ x by omega, show ¬ x < k by omega]
        · by_cases hbx : b ≤ x
          · rw [hgap x hbx (by omega), h0]; simp [hx]
          · simp [hx, hbx]
      · rw [if_neg (by omega), if_neg (by omega)]
        have hdk0 : d k = 0 := by omega
        rw [hdk0]
        obtain ⟨e1, e2⟩ := (sweep_spec hd hc hhigh r k fr hr hz').1 (by omega)
        refine ⟨e1.le (by omega), fun x => ?_⟩
        rw [e2 x]
        by_cases hx : k ≤ x
        · simp [hx, show b ≤ x by omega]
        · by_cases hbx : b ≤ x
          · rw [hgap x hbx (by omega), h0]; simp [hx]
          · simp [hx, hbx]
    · unfold sweep
      rw [if_neg (by omega)]
      by_cases hdk : c b + d k = 0
      · rw [if_pos ⟨hp, hdk⟩, hdk]
        obtain ⟨e1, e2⟩ := (sweep_spec hd hc hhigh r k fr hr hz').1 (by omega)
        refine ⟨k - 1, _, rfl, by omega, e1.le (by omega), fun x => ?_⟩
        rw [Bool.eq_iff_iff, inS_cons, e2 x]
        simp only [Bool.or_eq_true, Bool.and_eq_true, decide_eq_true_eq]
        by_cases hx : k ≤ x
        · constructor
          · rintro (h | h)
            · omega
            · exact .inr ⟨by omega, h.2⟩
          · rintro (h | h)
            · omega
            · exact .inr ⟨hx, h.2⟩
        · by_cases hbx : b ≤ x
          · have := hgap x hbx (by omega)
            constructor
            · rintro (h | h)
              · exact .inr ⟨hbx, by omega⟩
              · omega
            · rintro (h | h)
              · omega
              · exact .inl ⟨by omega, by omega⟩
          · constructor
            · rintro (h | h)
              · exact .inl ⟨by omega, by omega⟩
              · omega
            · rintro (h | h)
              · exact .inl ⟨by omega, by omega⟩
              · omega
      · rw [if_neg (by omega)]
        obtain ⟨t, rest, e1, e2, e3, e4⟩ := (sweep_spec hd hc hhigh r k fr hr hz').2 (by omega) (by omega)
        rw [hk1] at e1 e4
        refine ⟨t, rest, e1, by omega, e3, fun x => ?_⟩
        rw [e4 x, Bool.eq_iff_iff]
        simp only [Bool.or_eq_true, Bool.and_eq_true, decide_eq_true_eq]
        by_cases hx : k ≤ x
        · constructor
          · rintro (h | h)
            · omega
            · exact .inr ⟨by omega, h.2⟩
          · rintro (h | h)
            · omega
            · exact .inr ⟨hx, h.2⟩
        · by_cases hbx : b ≤ x
          · have := hgap x hbx (by omega)
            constructor
            · rintro (h | h)
              · exact .inr ⟨hbx, by omega⟩
              · omega
            · rintro (h | h)
              · omega
              · exact .inl ⟨by omega, by omega⟩
          · constructor
            · rintro (h | h)
              · exact .inl ⟨by omega, by omega⟩
              · omega
            · rintro (h | h)
              · exact .inl ⟨by omega, by omega⟩
              · omega
end
/-- The sweep over the marks of spans, and the spans put one behind the other: the same. -/
theorem sweep_putAll {l : List Sp} (hl : ∀ s ∈ l, okSp s) {ks : List Int} (hr : Rise (-1) ks) (hk : ∀ x, x ∉ ks → pmark l x = 0) : sweep (pmark l) ks 0 0 = putAll l := by
  obtain ⟨h1, h2⟩ := (sweep_spec (c := cnt l) (d := pmark l) (cnt_step l) (fun x => (cnt_pos hl).1) ⟨65535, fun x hx => cnt_high hl hx⟩ ks (-1) 0 hr fun x _ hx => hk x hx).1 (cnt_low hl (by omega))
  obtain ⟨k1, k2⟩ := putAll_spec l [] hl trivial
  refine canon_eq h1 k1 fun x => ?_
  unfold putAll
  rw [h2 x, k2 x, inS_nil, Bool.false_or, Bool.eq_iff_iff, Bool.and_eq_true, decide_eq_true_eq, decide_eq_true_eq, (cnt_pos hl).2]
  constructor
  · exact fun h => h.2
  · intro h
    refine ⟨?_, h⟩
    by_cases hx : -1 ≤ x
    · exact hx
    · have := cnt_low (x := x) hl (by omega); omega
end Go.Proofs.Ports
