/- A part of the proof: contracts of functions, over the abstract machine. -/
import Derived.Test.YtjaammiblfndaaaGreatDoorFx0
set_option linter.unusedVariables false
set_option linter.unusedSimpArgs false
set_option linter.all false
/- Words for runs that the kernel reckons fast: lists, the heap. -/
namespace Ram
open Go
noncomputable section
variable {α : Type}

/-- The n-th one. -/
def nth1 (x : α) (ih : Nat → Bool) (n : Nat) (g : α → Bool) : Bool := Nat.rec (motive := fun _ => Bool) (g x) (fun m _ => ih m) n
def nthL (l : List α) (n : Nat) (g : α → Bool) : Bool := List.rec (motive := fun _ => Nat → Bool) (fun _ => false) (fun x _ ih n => nth1 x ih n g) l n
theorem nthL_true : ∀ {l : List α} {n : Nat} {g : α → Bool}, nthL l n g = true → ∃ x, l[n]? = some x ∧ g x = true
  | [], _, _, h => by cases h
  | x :: l, 0, g, h => ⟨x, rfl, h⟩
  | x :: l, n + 1, g, h => by
    obtain ⟨y, h1, h2⟩ := nthL_true (l := l) (n := n) h
    exact ⟨y, by simpa using h1, h2⟩
/-- All but the first ones. -/
def drop1 (ih : List α → Bool) (l : List α) : Bool := List.rec (motive := fun _ => Bool) false (fun _ t _ => ih t) l
def dropL (l : List α) (n : Nat) (K : List α → Bool) : Bool := Nat.rec (motive := fun _ => List α → Bool) (fun l => K l) (fun _ ih l => drop1 ih l) n l
theorem dropL_true : ∀ {n : Nat} {l : List α} {K : List α → Bool}, dropL l n K = true → n ≤ l.length ∧ K (l.drop n) = true
  | 0, l, K, h => ⟨Nat.zero_le _, h⟩
  | n + 1, [], K, h => by cases h
  | n + 1, x :: l, K, h => by
    obtain ⟨h1, h2⟩ := dropL_true (n := n) (l := l) h
    exact ⟨by simpa using h1, h2⟩
/-- The first ones. -/
def take1 (ih : List α → (List α → Bool) → Bool) (l : List α) (K : List α → Bool) : Bool := List.rec (motive := fun _ => Bool) false (fun x t _ => ih t fun r => K (x :: r)) l
def takeL (l : List α) (n : Nat) (K : List α → Bool) : Bool := Nat.rec (motive := fun _ => List α → (List α → Bool) → Bool) (fun _ K => K []) (fun _ ih l K => take1 ih l K) n l K
theorem takeL_true : ∀ {n : Nat} {l : List α} {K : List α → Bool}, takeL l n K = true → n ≤ l.length ∧ K (l.take n) = true
  | 0, l, K, h => ⟨Nat.zero_le _, h⟩
  | n + 1, [], K, h => by cases h
  | n + 1, x :: l, K, h => by
    obtain ⟨h1, h2⟩ := takeL_true (n := n) (l := l) h
    exact ⟨by simpa using h1, h2⟩
/-- One list behind another one. -/
def cat1 (x : α) (ih : (List α → Bool) → Bool) (K : List α → Bool) : Bool := ih fun r => K (x :: r)
def catL (l m : List α) (K : List α → Bool) : Bool := List.rec (motive := fun _ => (List α → Bool) → Bool) (fun K => K m) (fun x _ ih K => cat1 x ih K) l K
theorem catL_eq : ∀ (l m : List α) (K : List α → Bool), catL l m K = K (l ++ m)
  | [], _, _ => rfl
  | x :: l, m, K => catL_eq l m fun r => K (x :: r)
/-- How long: the kernel keeps what it has reckoned of a closed term. -/
def lenN (l : List α) : Nat := List.rec (motive := fun _ => Nat) (nat_lit 0) (fun _ _ ih => Nat.succ ih) l
theorem lenN_eq : ∀ l : List α, lenN l = l.length
  | [] => rfl
  | _ :: l => congrArg Nat.succ (lenN_eq l)
def lenL (l : List α) (K : Nat → Bool) : Bool := fN (lenN l) K
theorem lenL_eq (l : List α) (K : Nat → Bool) : lenL l K = K l.length := by unfold lenL; rw [fN_eq, lenN_eq]
def tailN (l : List α) : List α := List.rec (motive := fun _ => List α) [] (fun _ t _ => t) l
def dropN (l : List α) (n : Nat) : List α := Nat.rec (motive := fun _ => List α) l (fun _ ih => tailN ih) n
theorem dropN_eq (l : List α) : ∀ n, dropN l n = l.drop n
  | 0 => rfl
  | n + 1 => by
    show tailN (dropN l n) = _
    rw [dropN_eq l n, show l.drop (n + 1) = (l.drop n).tail by rw [List.tail_drop]]
    cases l.drop n <;> rfl
def nthC (l : List α) (n : Nat) (K : α → Bool) : Bool := List.rec (motive := fun _ => Bool) false (fun x _ _ => K x) (dropN l n)
theorem nthC_true {l : List α} {n : Nat} {K : α → Bool} (h : nthC l n K = true) : ∃ x, l[n]? = some x ∧ K x = true := by
  unfold nthC at h
  rw [dropN_eq] at h
  cases hd : l.drop n with
  | nil => rw [hd] at h; cases h
  | cons x t =>
    rw [hd] at h
    refine ⟨x, ?_, h⟩
    have : (l.drop n)[0]? = some x := by rw [hd]; rfl
    rw [List.getElem?_drop] at this
    simpa using this
/-- Is it so long? -/
def lenIs (l : List α) (n : Nat) (t : Bool) : Bool := lenL l fun m => iteB (Nat.beq m n) false t
theorem lenIs_true {l : List α} {n : Nat} {t : Bool} (h : lenIs l n t = true) : l.length = n ∧ t = true := by
  unfold lenIs at h
  rw [lenL_eq] at h
  have h := iteB_f h
  exact ⟨Nat.eq_of_beq_eq_true h.1, h.2⟩
/-- Some cells written over. -/
def over1 (y : α) (ih : List α → (List α → Bool) → Bool) (cs : List α) (K : List α → Bool) : Bool := List.rec (motive := fun _ => Bool) false (fun _ t _ => ih t fun r => K (y :: r)) cs
def overL (new cs : List α) (K : List α → Bool) : Bool := List.rec (motive := fun _ => List α → (List α → Bool) → Bool) (fun cs K => K cs) (fun y _ ih cs K => over1 y ih cs K) new cs K
theorem overL_true : ∀ {new cs : List α} {K : List α → Bool}, overL new cs K = true → new.length ≤ cs.length ∧ K (new ++ cs.drop new.length) = true
  | [], cs, K, h => ⟨Nat.zero_le _, h⟩
  | y :: new, [], K, h => by cases h
  | y :: new, c :: cs, K, h => by
    obtain ⟨h1, h2⟩ := overL_true (new := new) (cs := cs) h
    exact ⟨by simpa using h1, by simpa using h2⟩
def spliceL (cs : List V) (o : Nat) (new : List V) (K : List V → Bool) : Bool :=
  Nat.rec (motive := fun _ => List V → (List V → Bool) → Bool) (fun cs K => overL new cs K) (fun _ ih cs K => take1 ih cs K) o cs K
theorem spliceL_true : ∀ {o : Nat} {cs new : List V} {K : List V → Bool}, spliceL cs o new K = true → o + new.length ≤ cs.length ∧ K (splice cs o new) = true
  | 0, cs, new, K, h => by
    obtain ⟨h1, h2⟩ := overL_true (new := new) (cs := cs) h
    exact ⟨by omega, by simpa [splice] using h2⟩
  | o + 1, [], new, K, h => by cases h
  | o + 1, c :: cs, new, K, h => by
    obtain ⟨h1, h2⟩ := spliceL_true (o := o) (cs := cs) (new := new) h
    refine ⟨by simp; omega, ?_⟩
    simp only [splice, List.take_succ_cons, List.cons_append, show o + 1 + new.length = (o + new.length) + 1 by omega, List.drop_succ_cons] at h2 ⊢
    exact h2
/-- Is each of one cell? -/
def one1 (x : V) (t : Bool) : Bool := V.rec (motive_1 := fun _ => Bool) (motive_2 := fun _ => Bool) (fun _ => t) (fun _ _ => t) (fun _ => t) (fun _ => t) (fun _ _ _ _ => t) (fun _ => t) (fun _ _ _ _ _ => t) t (fun _ _ _ => t) t (fun _ _ => false) (fun _ _ => false) false (fun _ _ _ _ => false) x
theorem one1_true {x : V} {t : Bool} (h : one1 x t = true) : x.one = true ∧ t = true := by cases x <;> first | exact ⟨rfl, h⟩ | (cases h; done)
def oneL (l : List V) (t : Bool) : Bool := List.rec (motive := fun _ => Bool) t (fun x _ ih => one1 x ih) l
theorem oneL_true : ∀ {l : List V} {t : Bool}, oneL l t = true → l.all V.one = true ∧ t = true
  | [], _, h => ⟨rfl, h⟩
  | x :: l, t, h => by
    obtain ⟨h1, h2⟩ := one1_true (x := x) h
    obtain ⟨h3, h4⟩ := oneL_true (l := l) h2
    exact ⟨by simp only [List.all_cons, h1, h3, Bool.and_self], h4⟩

/-- The heap: an object. -/
def get1 (v : Option α) (l r : Nat → (α → Bool) → Bool) (k : Nat) (g : α → Bool) : Bool :=
  Nat.rec (motive := fun _ => Bool) (Option.rec (motive := fun _ => Bool) false (fun o => g o) v) (fun k' _ => iteB (Nat.beq (Nat.mod k' (nat_lit 2)) (nat_lit 0)) (r (Nat.div k' (nat_lit 2)) g) (l (Nat.div k' (nat_lit 2)) g)) k
def getT (t : Tr α) (k : Nat) (g : α → Bool) : Bool := Tr.rec (motive := fun _ => Nat → (α → Bool) → Bool) (fun _ _ => false) (fun _ v _ ihl ihr k g => get1 v ihl ihr k g) t k g
theorem getT_true : ∀ {t : Tr α} {k : Nat} {g : α → Bool}, getT t k g = true → ∃ o, t.get k = some o ∧ g o = true := by
  intro t
  induction t with
  | leaf => intro k g h; cases h
  | node l v r ihl ihr =>
    intro k g h
    cases k with
    | zero => cases v with
      | none => cases h
      | some o => exact ⟨o, by simp [Tr.get], h⟩
    | succ k' =>
      rcases iteB_true h with ⟨h1, h2⟩ | ⟨h1, h2⟩
      · have h1 := Nat.eq_of_beq_eq_true h1
        obtain ⟨o, g1, g2⟩ := ihl h2
        have h1' : k' % 2 = 0 := h1
        refine ⟨o, ?_, g2⟩
        rw [Tr.get, if_neg (by omega), if_pos (by omega), ← g1]
        congr 1
        show (k' + 1) / 2 = k' / 2
        omega
      · have h1 := Nat.ne_of_beq_eq_false h1
        obtain ⟨o, g1, g2⟩ := ihr h2
        have h1' : ¬ k' % 2 = 0 := h1
        refine ⟨o, ?_, g2⟩
        rw [Tr.get, if_neg (by omega), if_neg (by omega), ← g1]
        congr 1
        show (k' + 1) / 2 - 1 = k' / 2
        omega
def new1 (x : α) (ih : Nat → (Tr α → Bool) → Bool) (k : Nat) (K : Tr α → Bool) : Bool :=
  Nat.rec (motive := fun _ => Bool) (K (.node .leaf (some x) .leaf)) (fun k' _ => iteB (Nat.beq (Nat.mod k' (nat_lit 2)) (nat_lit 0)) (ih (Nat.div k' (nat_lit 2)) fun r => K (.node .leaf none r)) (ih (Nat.div k' (nat_lit 2)) fun l => K (.node l none .leaf))) k
def newT (f : Nat) (x : α) (k : Nat) (K : Tr α → Bool) : Bool := Nat.rec (motive := fun _ => Nat → (Tr α → Bool) → Bool) (fun _ _ => false) (fun _ ih k K => new1 x ih k K) f k K
def set1 (x : α) (l : Tr α) (v : Option α) (r : Tr α) (ihl ihr : Nat → (Tr α → Bool) → Bool) (k : Nat) (K : Tr α → Bool) : Bool :=
  Nat.rec (motive := fun _ => Bool) (K (.node l (some x) r)) (fun k' _ => iteB (Nat.beq (Nat.mod k' (nat_lit 2)) (nat_lit 0)) (ihr (Nat.div k' (nat_lit 2)) fun r' => K (.node l v r')) (ihl (Nat.div k' (nat_lit 2)) fun l' => K (.node l' v r))) k
def setT (t : Tr α) (k : Nat) (x : α) (K : Tr α → Bool) : Bool :=
  Tr.rec (motive := fun _ => Nat → (Tr α → Bool) → Bool) (fun k K => newT (nat_lit 64) x k K) (fun l v r ihl ihr k K => set1 x l v r ihl ihr k K) t k K
theorem newT_true : ∀ {f : Nat} {x : α} {k : Nat} {K : Tr α → Bool}, newT f x k K = true → ∀ n, k < n → K (Tr.setF n .leaf k x) = true
  | 0, _, _, _, h => by cases h
  | f + 1, x, k, K, h => by
    intro n hn
    obtain ⟨n, rfl⟩ : ∃ m, n = m + 1 := ⟨n - 1, by omega⟩
    cases k with
    | zero => exact h
    | succ k' =>
      rcases iteB_true h with ⟨h1, h2⟩ | ⟨h1, h2⟩
      · have h1 : k' % 2 = 0 := Nat.eq_of_beq_eq_true h1
        have g := newT_true (f := f) h2 n (by show k' / 2 < n; omega)
        rw [Tr.setF, if_neg (by omega), if_pos (by omega), show (k' + 1) / 2 = k' / 2 by omega]
        exact g
      · have h1 : ¬ k' % 2 = 0 := Nat.ne_of_beq_eq_false h1
        have g := newT_true (f := f) h2 n (by show k' / 2 < n; omega)
        rw [Tr.setF, if_neg (by omega), if_neg (by omega), show (k' + 1) / 2 - 1 = k' / 2 by omega]
        exact g
theorem setT_true : ∀ {t : Tr α} {x : α} {k : Nat} {K : Tr α → Bool}, setT t k x K = true → ∀ n, k < n → K (Tr.setF n t k x) = true := by
  intro t
  induction t with
  | leaf => intro x k K h n hn; exact newT_true (f := 64) (x := x) (k := k) (K := K) h n hn
  | node l v r ihl ihr =>
    intro x k K h n hn
    obtain ⟨n, rfl⟩ : ∃ m, n = m + 1 := ⟨n - 1, by omega⟩
    cases k with
    | zero => exact h
    | succ k' =>
      rcases iteB_true h with ⟨h1, h2⟩ | ⟨h1, h2⟩
      · have h1 : k' % 2 = 0 := Nat.eq_of_beq_eq_true h1
        have g := ihl h2 n (by show k' / 2 < n; omega)
        rw [Tr.setF, if_neg (by omega), if_pos (by omega), show (k' + 1) / 2 = k' / 2 by omega]
        exact g
      · have h1 : ¬ k' % 2 = 0 := Nat.ne_of_beq_eq_false h1
        have g := ihr h2 n (by show k' / 2 < n; omega)
        rw [Tr.setF, if_neg (by omega), if_neg (by omega), show (k' + 1) / 2 - 1 = k' / 2 by omega]
        exact g
def getH (H : AH) (i : Nat) (g : AO → Bool) : Bool := AH.rec (motive := fun _ => Bool) (fun _ t => getT t i g) H
theorem getH_true {H : AH} {i : Nat} {g : AO → Bool} (h : getH H i g = true) : ∃ o, H.get i = some o ∧ g o = true := by
  obtain ⟨n, t⟩ := H
  exact getT_true h
def setH (H : AH) (i : Nat) (o : AO) (K : AH → Bool) : Bool := AH.rec (motive := fun _ => Bool) (fun n t => setT t i o fun t => K ⟨n, t⟩) H
theorem setH_true {H : AH} {i : Nat} {o : AO} {K : AH → Bool} (h : setH H i o K = true) : K (H.set i o) = true := by
  obtain ⟨n, t⟩ := H
  exact setT_true (K := fun t => K ⟨n, t⟩) h _ (Nat.lt_succ_self i)
def allocH (H : AH) (o : AO) (K : Nat → AH → Bool) : Bool := AH.rec (motive := fun _ => Bool) (fun n t => setT t n o fun t => fN (Nat.succ n) fun m => K n ⟨m, t⟩) H
theorem allocH_true {H : AH} {o : AO} {K : Nat → AH → Bool} (h : allocH H o K = true) : K H.next (H.alloc o) = true := by
  obtain ⟨n, t⟩ := H
  exact setT_true (K := fun t => fN (Nat.succ n) fun m => K n ⟨m, t⟩) h _ (Nat.lt_succ_self n)
/-- A row of cells that may be written; one that may be read. -/
def mdW (md : Md) (t : Bool) : Bool := Md.rec (motive := fun _ => Bool) false t t md
theorem mdW_true {md : Md} {t : Bool} (h : mdW md t = true) : md ≠ .ro ∧ t = true := by cases md <;> first | exact ⟨by simp, h⟩ | (cases h; done)
def asCells (o : AO) (g : Md → List V → Bool) : Bool := AO.rec (motive := fun _ => Bool) (fun md cs => g md cs) (fun _ => false) (fun _ _ => false) (fun _ => false) (fun _ => false) (fun _ _ _ => false) (fun _ _ => false) (fun _ _ _ _ _ => false) false o
theorem asCells_true {o : AO} {g : Md → List V → Bool} (h : asCells o g = true) : ∃ md cs, o = .cells md cs ∧ g md cs = true := by
  cases o <;> first | exact ⟨_, _, rfl, h⟩ | (cases h; done)
def asMap (o : AO) (g : List (V × V) → Bool) : Bool := AO.rec (motive := fun _ => Bool) (fun _ _ => false) (fun es => g es) (fun _ _ => false) (fun _ => false) (fun _ => false) (fun _ _ _ => false) (fun _ _ => false) (fun _ _ _ _ _ => false) false o
theorem asMap_true {o : AO} {g : List (V × V) → Bool} (h : asMap o g = true) : ∃ es, o = .map es ∧ g es = true := by
  cases o <;> first | exact ⟨_, rfl, h⟩ | (cases h; done)
end
end Ram
