/- What the law's proof leans on, part 11. Conditions: in each statement. -/
import Derived.Test.YtibehelnfbcnjaaGreatDoorQVE
set_option linter.all false
set_option linter.unusedSimpArgs false
set_option linter.unusedVariables false
set_option linter.unusedSectionVars false
namespace Go.Ab
open Go
inductive T where
 | nil
 | op (d : Option Nat) (k : K) (rest : T)
 | nd (q : Q) (rest : T)
 | br (d : Nat) (g : Q) (b : Bool) (body : T) (y alt : Q) (rest : T)
abbrev to (d : Nat) (k : K) (rest : T) : T := .op (some d) k rest
abbrev tn (k : K) (rest : T) : T := .op none k rest
abbrev Sub := List (Nat × Option Q)
def Q.has (d : Nat) : Q → Bool
 | .s t => t == d
 | .v _ => false
def sbS : Sub → Nat → Option Q
 | [], t => some (.s t)
 | (k, q) :: σ, t => if t = k then q else sbS σ t
def Q.sb (σ : Sub) : Q → Option Q
 | .s t => sbS σ t
 | .v a => some (.v a)
def sbL (σ : Sub) : List Q → Option (List Q)
 | [] => some []
 | q :: l => match q.sb σ, sbL σ l with | some q, some l => some (q :: l) | _, _ => none
def sbP (σ : Sub) : List (Nat × Q) → Option (List (Nat × Q))
 | [] => some []
 | (i, q) :: l => match q.sb σ, sbP σ l with | some q, some l => some ((i, q) :: l) | _, _ => none
def sbO (σ : Sub) : Option Q → Option (Option Q)
 | none => some none
 | some q => (q.sb σ).map some
def one1 (x : Option Q) (f : Q → K) : Option K := match x with | some x => some (f x) | none => none
def two2 (x y : Option Q) (f : Q → Q → K) : Option K := match x, y with | some x, some y => some (f x y) | _, _ => none
def thr3 (x y z : Option Q) (f : Q → Q → Q → K) : Option K := match x, y, z with | some x, some y, some z => some (f x y z) | _, _, _ => none
def K.sb (σ : Sub) : K → Option K
 | .mv x => one1 (x.sb σ) .mv
 | .pick c a b => thr3 (c.sb σ) (a.sb σ) (b.sb σ) .pick
 | .new t z => some (.new t z)
 | .box t n x => one1 (x.sb σ) (.box t n)
 | .ld n x => one1 (x.sb σ) (.ld n)
 | .st n a x => two2 (a.sb σ) (x.sb σ) (.st n)
 | .nz x => one1 (x.sb σ) .nz
 | .bin o t x y => two2 (x.sb σ) (y.sb σ) (.bin o t)
 | .un o x => one1 (x.sb σ) (.un o)
 | .fa n x => one1 (x.sb σ) (.fa n)
 | .fld o n x => one1 (x.sb σ) (.fld o n)
 | .ixs n x i => two2 (x.sb σ) (i.sb σ) (.ixs n)
 | .six x i => two2 (x.sb σ) (i.sb σ) .six
 | .lens x => one1 (x.sb σ) .lens
 | .lenl x => one1 (x.sb σ) .lenl
 | .call f l => match sbL σ l with | some l => some (.call f l) | none => none
 | .callv f l => match f.sb σ, sbL σ l with | some f, some l => some (.callv f l) | _, _ => none
 | .ext i x => one1 (x.sb σ) (.ext i)
 | .cvt k x => one1 (x.sb σ) (.cvt k)
 | .mkf f a b => match sbL σ a, sbL σ b with | some a, some b => some (.mkf f a b) | _, _ => none
 | .bld z ps l => match sbP σ l with | some l => some (.bld z ps l) | none => none
 | .app t n w c s x => two2 (s.sb σ) (x.sb σ) (.app t n w c)
 | .mks t n w z l c => two2 (l.sb σ) (c.sb σ) (.mks t n w z)
 | .mkm x => match sbO σ x with | some x => some (.mkm x) | none => none
 | .lk kk z m k ok => two2 (m.sb σ) (k.sb σ) fun m k => .lk kk z m k ok
 | .mu kk m k x => thr3 (m.sb σ) (k.sb σ) (x.sb σ) (.mu kk)
 | .slc n x lo hi => match x.sb σ, sbO σ lo, sbO σ hi with | some x, some lo, some hi => some (.slc n x lo hi) | _, _, _ => none
 | .ssl x lo hi => match x.sb σ, sbO σ lo, sbO σ hi with | some x, some lo, some hi => some (.ssl x lo hi) | _, _, _ => none
 | .cvs x => one1 (x.sb σ) .cvs
 | .mx x l => match x.sb σ, sbL σ l with | some x, some l => some (.mx x l) | _, _ => none
 | .mn x l => match x.sb σ, sbL σ l with | some x, some l => some (.mn x l) | _, _ => none
 | .bsl t s z n l => match sbP σ l with | some l => some (.bsl t s z n l) | none => none
 | .raw _ => none
def Sb (σ : Sub) (e e' : EV) : Prop := ∀ t q, sbS σ t = some q → e.look t = q.ev e'
section
variable {σ : Sub} {e e' : EV}
theorem zgh (h : Sb σ e e') {q q' : Q} (hq : q.sb σ = some q') : q.ev e = q'.ev e' := by
 cases q with
 | s t => exact h t q' hq
 | v a => cases hq; rfl
theorem zod (h : Sb σ e e') : ∀ {l l' : List Q}, sbL σ l = some l' → evQ e l = evQ e' l'
 | [], l', hl => by cases hl; rfl
 | q :: l, l', hl => by
  simp only [sbL] at hl
  cases h1 : q.sb σ <;> cases h2 : sbL σ l <;> simp [h1, h2] at hl
  subst hl
  simp only [evQ, zgh h h1, zod h h2]
theorem yafg (h : Sb σ e e') : ∀ {l l' : List (Nat × Q)}, sbP σ l = some l' → evP e l = evP e' l'
 | [], l', hl => by cases hl; rfl
 | (i, q) :: l, l', hl => by
  simp only [sbP] at hl
  cases h1 : q.sb σ <;> cases h2 : sbP σ l <;> simp [h1, h2] at hl
  subst hl
  simp only [evP, zgh h h1, yafg h h2]
theorem zy5 (h : Sb σ e e') {x x' : Option Q} (hx : sbO σ x = some x') : evO e x = evO e' x' := by
 cases x with
 | none => cases hx; rfl
 | some q =>
  simp only [sbO, Option.map_eq_some_iff] at hx
  obtain ⟨q', h1, rfl⟩ := hx
  simp only [evO, zgh h h1]
theorem yauj {x : Option Q} {f : Q → K} {k : K} (h : one1 x f = some k) : ∃ q, x = some q ∧ k = f q := by
 cases x with
 | none => cases h
 | some q => cases h; exact ⟨q, rfl, rfl⟩
theorem yawr {x y : Option Q} {f : Q → Q → K} {k : K} (h : two2 x y f = some k) : ∃ q r, x = some q ∧ y = some r ∧ k = f q r := by
 cases x <;> cases y <;> cases h
 exact ⟨_, _, rfl, rfl, rfl⟩
theorem yawq {x y z : Option Q} {f : Q → Q → Q → K} {k : K} (h : thr3 x y z f = some k) : ∃ q r s, x = some q ∧ y = some r ∧ z = some s ∧ k = f q r s := by
 cases x <;> cases y <;> cases z <;> cases h
 exact ⟨_, _, _, rfl, rfl, rfl, rfl⟩
variable [E : Env] {P : Program} {ex : ExF} {H : Heap}
theorem yay3 (h : Sb σ e e') {k k' : K} (hk : k.sb σ = some k') : kA P ex e H k = kA P ex e' H k' := by
 cases k <;> simp only [K.sb] at hk
 case new => cases hk; rfl
 case raw => cases hk
 case mv | box | ld | nz | un | fa | fld | lens | lenl | ext | cvt | cvs =>
  obtain ⟨q, h1, rfl⟩ := yauj hk
  simp only [kA, zgh h h1]
 case st | bin | ixs | six | app | mks | lk =>
  obtain ⟨q, r, h1, h2, rfl⟩ := yawr hk
  simp only [kA, zgh h h1, zgh h h2]
 case pick | mu =>
  obtain ⟨q, r, s, h1, h2, h3, rfl⟩ := yawq hk
  simp only [kA, zgh h h1, zgh h h2, zgh h h3]
 case call f l =>
  cases h1 : sbL σ l <;> simp [h1] at hk
  subst hk; simp only [kA, zod h h1]
 case callv f l =>
  cases h1 : f.sb σ <;> cases h2 : sbL σ l <;> simp [h1, h2] at hk
  subst hk; simp only [kA, zgh h h1, zod h h2]
 case mkf f a b =>
  cases h1 : sbL σ a <;> cases h2 : sbL σ b <;> simp [h1, h2] at hk
  subst hk; simp only [kA, zod h h1, zod h h2]
 case bld z ps l =>
  cases h1 : sbP σ l <;> simp [h1] at hk
  subst hk; simp only [kA, yafg h h1]
 case bsl t s z n l =>
  cases h1 : sbP σ l <;> simp [h1] at hk
  subst hk; simp only [kA, yafg h h1]
 case mkm x =>
  cases x with
  | none => cases hk; rfl
  | some q =>
   simp only [sbO] at hk
   cases h1 : q.sb σ <;> simp [h1] at hk
   subst hk; simp only [kA, zgh h h1]
 case slc n x lo hi =>
  cases h1 : x.sb σ <;> cases h2 : sbO σ lo <;> cases h3 : sbO σ hi <;> simp [h1, h2, h3] at hk
  subst hk; simp only [kA, zgh h h1, zy5 h h2, zy5 h h3]
 case ssl x lo hi =>
  cases h1 : x.sb σ <;> cases h2 : sbO σ lo <;> cases h3 : sbO σ hi <;> simp [h1, h2, h3] at hk
  subst hk; simp only [kA, zgh h h1, zy5 h h2, zy5 h h3]
 case mx x l =>
  cases h1 : x.sb σ <;> cases h2 : sbL σ l <;> simp [h1, h2] at hk
  subst hk; simp only [kA, zgh h h1, zod h h2]
 case mn x l =>
  cases h1 : x.sb σ <;> cases h2 : sbL σ l <;> simp [h1, h2] at hk
  subst hk; simp only [kA, zgh h h1, zod h h2]
end
def srt : List (Nat × AV) → Bool
 | [] => true
 | (a, _) :: l => l.all (fun p => decide (a < p.1)) && srt l
theorem zhc {t : Nat} : ∀ {s : List (Nat × AV)}, s.all (fun p => decide (t < p.1)) = true → zbb s t = none
 | [], _ => rfl
 | (k, v) :: s, h => by
  simp only [List.all_cons, Bool.and_eq_true, decide_eq_true_eq] at h
  simp only [zbb, if_neg (show ¬ t = k by omega)]
  exact zhc h.2
theorem yabl {a t : Nat} {v : AV} (ht : a < t) : ∀ {s : List (Nat × AV)}, s.all (fun p => decide (a < p.1)) = true → (zo2 t v s).all (fun p => decide (a < p.1)) = true
 | [], _ => by simp [zo2, ht]
 | (k, x) :: s, h => by
  simp only [List.all_cons, Bool.and_eq_true, decide_eq_true_eq] at h
  unfold zo2
  split
  ·simp [ht]; simpa using h.2
  ·split
   ·simp [ht, h.1]; simpa using h.2
   ·simp only [List.all_cons, Bool.and_eq_true, decide_eq_true_eq]; exact ⟨h.1, yabl ht h.2⟩
theorem yafm {t : Nat} {v : AV} : ∀ {s : List (Nat × AV)}, srt s = true → srt (zo2 t v s) = true
 | [], _ => rfl
 | (k, x) :: s, h => by
  simp only [srt, Bool.and_eq_true] at h
  unfold zo2
  split
  ·rename_i e; subst e; simp only [srt, Bool.and_eq_true]; exact h
  ·split
   ·rename_i h2
    simp only [srt, Bool.and_eq_true, List.all_cons, decide_eq_true_eq]
    refine ⟨⟨h2, ?_⟩, h⟩
    rw [List.all_eq_true]
    intro p hp
    have := List.all_eq_true.1 h.1 p hp
    simp only [decide_eq_true_eq] at this ⊢
    omega
   ·simp only [srt, Bool.and_eq_true]
    exact ⟨yabl (by omega) h.1, yafm h.2⟩
theorem zx9 {t j : Nat} {v : AV} : ∀ {s : List (Nat × AV)}, zbb (zo2 t v s) j = if j = t then some v else zbb s j
 | [] => by simp only [zo2, zbb]
 | (k, x) :: s => by
  unfold zo2
  split
  ·rename_i e
   subst e
   simp only [zbb]
   split
   ·rfl
   ·rfl
  ·split
   ·simp only [zbb]
   ·rename_i h1 h2
    simp only [zbb, zx9 (s := s)]
    by_cases e : j = k
    ·subst e; simp [Ne.symm h1]
    ·simp only [if_neg e]
theorem zu4 {a : Nat} {ks : List Nat} : ∀ {s : List (Nat × AV)}, s.all (fun p => decide (a < p.1)) = true → (zo4 ks s).all (fun p => decide (a < p.1)) = true
 | [], _ => rfl
 | (k, x) :: s, h => by
  simp only [List.all_cons, Bool.and_eq_true, decide_eq_true_eq] at h
  unfold zo4
  split
  ·simp only [List.all_cons, Bool.and_eq_true, decide_eq_true_eq]; exact ⟨h.1, zu4 h.2⟩
  ·exact zu4 h.2
theorem zrv {ks : List Nat} : ∀ {s : List (Nat × AV)}, srt s = true → srt (zo4 ks s) = true
 | [], _ => rfl
 | (k, x) :: s, h => by
  simp only [srt, Bool.and_eq_true] at h
  unfold zo4
  split
  ·simp only [srt, Bool.and_eq_true]; exact ⟨zu4 h.1, zrv h.2⟩
  ·exact zrv h.2
theorem zmi {ks : List Nat} {t : Nat} : ∀ {s : List (Nat × AV)}, zbb (zo4 ks s) t = if ks.contains t then zbb s t else none
 | [] => by simp [zo4, zbb]
 | (k, x) :: s => by
  unfold zo4
  split
  ·rename_i h
   simp only [zbb, zmi (s := s)]
   by_cases e : t = k
   ·subst e; rw [if_pos rfl, if_pos h, if_pos rfl]
   ·simp only [if_neg e]
  ·rename_i h
   rw [zmi (s := s)]
   simp only [zbb]
   by_cases e : t = k
   ·subst e; rw [if_neg h, if_neg h]
   ·simp only [if_neg e]
theorem yafl : ∀ {s s' : List (Nat × AV)}, srt s = true → srt s' = true → (∀ t, zbb s t = zbb s' t) → s = s'
 | [], [], _, _, _ => rfl
 | [], (k, x) :: s', _, _, h => by have := h k; simp [zbb] at this
 | (k, x) :: s, [], _, _, h => by have := h k; simp [zbb] at this
 | (k, x) :: s, (k', x') :: s', h1, h2, h => by
  simp only [srt, Bool.and_eq_true] at h1 h2
  have e : k = k' := by
   rcases Nat.lt_trichotomy k k' with hl | hl | hl
   ·have := h k
    simp only [zbb, if_true, if_neg (show ¬ k = k' by omega)] at this
    rw [zhc (List.all_eq_true.2 fun p hp => decide_eq_true (by have := List.all_eq_true.1 h2.1 p hp; simp at this; omega))] at this
    cases this
   ·exact hl
   ·have := h k'
    simp only [zbb, if_true, if_neg (show ¬ k' = k by omega)] at this
    rw [zhc (List.all_eq_true.2 fun p hp => decide_eq_true (by have := List.all_eq_true.1 h1.1 p hp; simp at this; omega))] at this
    cases this
  subst e
  have ex := h k
  simp only [zbb, if_true, Option.some.injEq] at ex
  subst ex
  congr 1
  refine yafl h1.2 h2.2 fun t => ?_
  by_cases e : t = k
  ·subst e; rw [zhc h1.1, zhc h2.1]
  ·have := h t; simpa only [zbb, if_neg e] using this
section
variable [E : Env]
noncomputable def R3 (P : Program) : T → EV → Heap → Ry
 | .nil, e, H => some (e, H)
 | .op d k rest, e, H => match kA P (om P) e H k with
  | some (v, H') => R3 P rest (zcw e d v) H'
  | none => none
 | .nd q rest, e, H => match q.ev e with
  | some _ => R3 P rest e H
  | none => none
 | .br d g b body y alt rest, e, H => match g.ev e with
  | some (.bool c) => if c == b then match R3 P body e H with
    | some (e1, H1) => match y.ev e1 with
     | some v => R3 P rest (e.set d v) H1
     | none => none
    | none => none
   else match alt.ev e with
    | some v => R3 P rest (e.set d v) H
    | none => none
  | _ => none
def grp (t : Nat) (b : Bool) : List Nat → List O → List O × List O
 | D, o :: l => match o.g, o.d with
  | some (some t', b'), some d => if (t' == t && b' == b) || D.contains t' then ((o :: (grp t b (d :: D) l).1), (grp t b (d :: D) l).2) else ([], o :: l)
  | _, _ => ([], o :: l)
 | _, [] => ([], [])
def ung (t : Nat) (b : Bool) (o : O) : O := match o.g with | some (some t', b') => if t' == t && b' == b then ⟨o.d, none, o.k⟩ else o | _ => o
def zvq (l : List O) : List Nat := l.flatMap fun o => o.d.toList
def rmS (d : Nat) : Sub → Sub
 | [] => []
 | (k, q) :: σ => (k, match q with | some q => if q.has d then none else some q | none => none) :: rmS d σ
def setS (d : Option Nat) (σ : Sub) : Sub := match d with | some d => (d, some (.s d)) :: rmS d σ | none => σ
def yacj : List Nat → Sub → Sub
 | [], σ => σ
 | d :: l, σ => (d, none) :: yacj l σ
def dOk (nt : Nat) : Option Nat → Bool
 | some d => decide (d < nt)
 | none => true
def elim (ks : List Nat) (o : O) : Option (Nat × Q) := match o.k, o.d with
 | .mv q, some t => if ks.contains t then none else some (t, q)
 | _, _ => none
def yaeq (t : Nat) (b : Bool) : List O → Option (Nat × Q × Q × List O)
 | ⟨some d, none, .pick (.s t1) x y⟩ :: l => if t1 = t then some (d, (if b then x else y), (if b then y else x), l) else none
 | _ => none
def cmp (ks : List Nat) (nt : Nat) : Nat → Sub → List O → Option (T × Sub)
 | 0, _, _ => none
 | _ + 1, σ, [] => some (.nil, σ)
 | f + 1, σ, o :: l => match o.g with
  | none => match elim ks o with
   | some (t, q) => if t < nt then match q.sb σ with
    | some q' => match cmp ks nt f ((t, some q') :: σ) l with
     | some (T, r) => some (match q' with | .s _ => .nd q' T | .v _ => T, r)
     | none => none
    | none => none else none
   | none => match o.k.sb σ with
    | some k' => if dOk nt o.d then match cmp ks nt f (setS o.d σ) l with
     | some (T, r) => some (.op o.d k' T, r)
     | none => none else none
    | none => none
  | some (some t, b) => match yaeq t b (grp t b [] (o :: l)).2 with
   | some (d, y, alt, l') =>
    if (zvq (grp t b [] (o :: l)).1).all (fun x => !(x == t) && decide (x < nt) && !ks.contains x && !alt.has x) && decide (d < nt) then
     match Q.sb σ (.s t), cmp ks nt f σ ((grp t b [] (o :: l)).1.map (ung t b)), alt.sb σ with
     | some g, some (B, σb), some alt' => match y.sb σb with
      | some v => match cmp ks nt f (setS (some d) (yacj (zvq (grp t b [] (o :: l)).1) σ)) l' with
       | some (T, r) => some (.br d g b B v alt' T, r)
       | none => none
      | none => none
     | _, _, _ => none
    else none
   | none => none
  | _ => none
structure Rl (nt : Nat) (σ : Sub) (e e' : EV) : Prop where
 sb : Sb σ e e'
 s1 : srt e.s = true
 s2 : srt e'.s = true
 n : e.n = e'.n
 le : nt ≤ e.n
theorem ze2 {e : EV} {d t : Nat} {v : AV} (hd : d < e.n) : (e.set d v).look t = if t = d then some v else e.look t := by
 unfold EV.set EV.look
 rw [if_pos hd]
 exact zx9
theorem zrw {e : EV} {d : Nat} {v : AV} (h : srt e.s = true) : srt (e.set d v).s = true := by
 unfold EV.set
 split
 ·exact yafm h
 ·exact h
theorem ztt {e : EV} {d : Nat} {v : AV} : (e.set d v).n = e.n := by unfold EV.set; split <;> rfl
theorem yapr {e : EV} {d : Nat} {v : AV} {q : Q} (hd : d < e.n) (h : q.has d = false) : q.ev (e.set d v) = q.ev e := by
 cases q with
 | s t => simp only [Q.has, beq_eq_false_iff_ne, ne_eq] at h; simp only [Q.ev, ze2 hd, if_neg h]
 | v a => rfl
theorem zy2 {d t : Nat} {q : Q} (hd : t ≠ d) : ∀ {σ : Sub}, sbS (rmS d σ) t = some q → sbS σ t = some q ∧ q.has d = false
 | [], h => by cases h; exact ⟨rfl, by simp [Q.has, hd]⟩
 | (k, p) :: σ, h => by
  simp only [rmS, sbS] at h ⊢
  split at h
  ·rename_i e
   rw [if_pos e]
   cases p with
   | none => cases h
   | some p =>
    simp only at h
    split at h
    ·cases h
    ·rename_i hh; cases h; exact ⟨rfl, by simpa using hh⟩
  ·rename_i e
   rw [if_neg e]
   exact zy2 hd h
theorem Rl.set {nt : Nat} {σ : Sub} {e e' : EV} {d : Option Nat} {v : AV} (h : Rl nt σ e e') (hd : dOk nt d = true) : Rl nt (setS d σ) (zcw e d v) (zcw e' d v) := by
 cases d with
 | none => exact h
 | some d =>
  simp only [dOk, decide_eq_true_eq] at hd
  have h1 : d < e.n := Nat.lt_of_lt_of_le hd h.le
  have h2 : d < e'.n := h.n ▸ h1
  refine ⟨fun t q hq => ?_, zrw h.s1, zrw h.s2, by simp only [zcw, ztt, h.n], by simp only [zcw, ztt]; exact h.le⟩
  simp only [setS, sbS] at hq
  simp only [zcw]
  rw [ze2 h1]
  split at hq
  ·rename_i e; cases hq; rw [if_pos e]; simp only [Q.ev, ze2 h2, if_true]
  ·rename_i e
   rw [if_neg e]
   obtain ⟨k1, k2⟩ := zy2 e hq
   rw [yapr h2 k2]; exact h.sb t q k1
theorem zzm {l : List Nat} {t : Nat} {q : Q} {σ : Sub} (h : sbS (yacj l σ) t = some q) : t ∉ l ∧ sbS σ t = some q := by
 induction l with
 | nil => exact ⟨by simp, h⟩
 | cons d l ih =>
  simp only [yacj, sbS] at h
  split at h
  ·cases h
  ·rename_i e; obtain ⟨h1, h2⟩ := ih h; exact ⟨by simp [e, h1], h2⟩
structure Bt (l : List Nat) (e e1 : EV) : Prop where
 look : ∀ t, t ∉ l → e1.look t = e.look t
 s : srt e.s = true → srt e1.s = true
 n : e1.n = e.n
theorem Bt.refl {l : List Nat} {e : EV} : Bt l e e := ⟨fun _ _ => rfl, id, rfl⟩
theorem Bt.put {l : List Nat} {e e1 : EV} {d : Option Nat} {v : AV} (hd : ∀ x ∈ d.toList, x ∈ l) (hn : ∀ x ∈ d.toList, x < e.n) (h : Bt l (zcw e d v) e1) : Bt l e e1 := by
 cases d with
 | none => exact h
 | some d =>
  have hn : d < e.n := hn d (by simp)
  refine ⟨fun t ht => ?_, fun hs => h.s (zrw hs), h.n.trans ztt⟩
  rw [h.look t ht]
  simp only [zcw]
  rw [ze2 hn, if_neg]
  intro e; subst e; exact ht (hd t (by simp))
theorem Rl.bt {nt : Nat} {σ : Sub} {e e' e2 : EV} {L : List Nat} (h : Rl nt σ e e') (b : Bt L e e2) : Rl nt (yacj L σ) e2 e' :=
 ⟨fun t q hq => by obtain ⟨h1, h2⟩ := zzm hq; rw [b.look t h1]; exact h.sb t q h2, b.s h.s1, h.s2, b.n.trans h.n, b.n ▸ h.le⟩
variable {P : Program}
theorem yagm {L : List Nat} : ∀ {l : List O} {e : EV} {H : Heap} {e1 : EV} {H1 : Heap}, (∀ x ∈ zvq l, x ∈ L ∧ x < e.n) → R2 P l e H = some (e1, H1) → Bt L e e1
 | [], e, H, e1, H1, _, h => by cases h; exact .refl
 | o :: l, e, H, e1, H1, hl, h => by
  have h0 : ∀ x ∈ o.d.toList, x ∈ L ∧ x < e.n := fun x hx => hl x (by simp only [zvq, List.flatMap_cons, List.mem_append]; exact .inl hx)
  have hr : ∀ v, ∀ x ∈ zvq l, x ∈ L ∧ x < (zcw e o.d v).n := fun v x hx => by
   have := hl x (by simp only [zvq, List.flatMap_cons, List.mem_append]; exact .inr hx)
   refine ⟨this.1, ?_⟩
   cases o.d with
   | none => exact this.2
   | some d => simp only [zcw, ztt]; exact this.2
  simp only [R2] at h
  split at h
  ·split at h
   ·exact .put (fun x hx => (h0 x hx).1) (fun x hx => (h0 x hx).2) (yagm (hr _) h)
   ·cases h
  ·exact .put (fun x hx => (h0 x hx).1) (fun x hx => (h0 x hx).2) (yagm (hr _) h)
  ·cases h
theorem yabb {t : Nat} {b : Bool} : ∀ {l : List O} {e : EV} {H : Heap}, (∀ x ∈ zvq l, x ≠ t ∧ x < e.n) → e.look t = some (.bool b) → R2 P l e H = R2 P (l.map (ung t b)) e H
 | [], e, H, _, _ => rfl
 | o :: l, e, H, hl, ht => by
  have hg : gOk e (ung t b o).g = gOk e o.g := by
   unfold ung
   split
   ·rename_i t' b' hg
    split
    ·rename_i h
     simp only [Bool.and_eq_true, beq_iff_eq] at h
     obtain ⟨rfl, rfl⟩ := h
     rw [hg]
     simp only [gOk, Option.bind, ht, beq_self_eq_true]
    ·rfl
   ·rfl
  have hk : (ung t b o).k = o.k := by unfold ung; split <;> (try split) <;> rfl
  have hd : (ung t b o).d = o.d := by unfold ung; split <;> (try split) <;> rfl
  have hr : ∀ v, (∀ x ∈ zvq l, x ≠ t ∧ x < (zcw e o.d v).n) ∧ (zcw e o.d v).look t = some (.bool b) := fun v => by
   have h0 : ∀ x ∈ o.d.toList, x ≠ t ∧ x < e.n := fun x hx => hl x (by simp only [zvq, List.flatMap_cons, List.mem_append]; exact .inl hx)
   constructor
   ·intro x hx
    have := hl x (by simp only [zvq, List.flatMap_cons, List.mem_append]; exact .inr hx)
    refine ⟨this.1, ?_⟩
    cases o.d with
    | none => exact this.2
    | some d => simp only [zcw, ztt]; exact this.2
   ·cases hd : o.d with
    | none => exact ht
    | some d =>
     have := h0 d (by rw [hd]; simp)
     simp only [zcw]
     rw [ze2 this.2, if_neg (Ne.symm this.1)]; exact ht
  simp only [List.map_cons, R2, hg, hk, hd]
  split
  ·split
   ·exact yabb (hr _).1 (hr _).2
   ·rfl
  ·exact yabb (hr _).1 (hr _).2
  ·rfl
theorem yaba {t : Nat} {b : Bool} : ∀ {l : List O} {D : List Nat} {e : EV} {H : Heap}, (∀ x ∈ zvq (grp t b D l).1, x ≠ t ∧ x < e.n) → e.look t = some (.bool !b) → (∀ d ∈ D, e.look d = some undefA) → ∃ e1, R2 P (grp t b D l).1 e H = some (e1, H)
 | [], D, e, H, _, _, _ => ⟨e, rfl⟩
 | o :: l, D, e, H, hl, ht, hD => by
  unfold grp at hl ⊢
  split at hl
  ·rename_i t' b' d hg hd
   split at hl
   ·rename_i hc
    rw [if_pos hc]
    simp only [zvq, List.flatMap_cons, hd, Option.toList, List.mem_append, List.mem_singleton] at hl
    have h0 := hl d (.inl rfl)
    have go : gOk e o.g = some false := by
     rw [hg]
     simp only [gOk, Option.bind]
     simp only [Bool.or_eq_true, Bool.and_eq_true, beq_iff_eq, List.contains_iff_mem] at hc
     rcases hc with ⟨rfl, rfl⟩ | hc
     ·rw [ht]; simp
     ·rw [hD _ hc]; rfl
    simp only [R2, go, hd, zcw]
    refine yaba (fun x hx => ?_) ?_ ?_
    ·have := hl x (.inr hx); rw [ztt]; exact this
    ·rw [ze2 h0.2, if_neg (Ne.symm h0.1)]; exact ht
    ·intro d' hd'
     rw [ze2 h0.2]
     by_cases e : d' = d
     ·rw [if_pos e]
     ·rw [if_neg e]
      simp only [List.mem_cons] at hd'
      rcases hd' with h | h
      ·exact absurd h e
      ·exact hD d' h
   ·rename_i hc
    rw [if_neg hc]; exact ⟨e, rfl⟩
  ·exact ⟨e, rfl⟩
theorem yac5 {t : Nat} {b : Bool} : ∀ {l : List O} {D : List Nat}, l = (grp t b D l).1 ++ (grp t b D l).2
 | [], D => rfl
 | o :: l, D => by
  unfold grp
  split
  ·split
   ·simp only [List.cons_append]; congr 1; exact yac5
   ·rfl
  ·rfl
theorem yaq4 {l1 l2 : List O} : ∀ {e : EV} {H : Heap}, R2 P (l1 ++ l2) e H = match R2 P l1 e H with | some (e1, H1) => R2 P l2 e1 H1 | none => none := by
 induction l1 with
 | nil => intro e H; rfl
 | cons o l ih =>
  intro e H
  simp only [List.cons_append, R2]
  split
  ·split
   ·exact ih
   ·rfl
  ·exact ih
  ·rfl
theorem ya0l {nt : Nat} {d : Option Nat} (h : dOk nt d = true) : ∀ x ∈ d.toList, x < nt := by
 cases d with
 | none => simp
 | some d => simpa [dOk] using h
theorem yaer {t d : Nat} {b : Bool} {l l' : List O} {y alt : Q} (h : yaeq t b l = some (d, y, alt, l')) : l = ⟨some d, none, .pick (.s t) (if b then y else alt) (if b then alt else y)⟩ :: l' := by
 unfold yaeq at h
 split at h
 ·split at h
  ·rename_i e
   subst e
   cases h
   cases b <;> rfl
  ·cases h
 ·cases h
theorem yaob {ks : List Nat} {o : O} {t : Nat} {q : Q} (h : elim ks o = some (t, q)) : o.k = .mv q ∧ o.d = some t ∧ ks.contains t = false := by
 unfold elim at h
 split at h
 ·rename_i q1 t1 h1 h2
  split at h
  ·cases h
  ·rename_i hc
   cases h
   exact ⟨h1, h2, by simpa using hc⟩
 ·cases h
theorem yauv {t : Nat} {b : Bool} {e : EV} {H : Heap} {y alt : Q} {w : AV} (ht : e.look t = some (.bool b)) (hy : y.ev e = some w) : kA P (om P) e H (.pick (.s t) (if b then y else alt) (if b then alt else y)) = some (w, H) := by
 have h0 : (Q.s t).ev e = some (.bool b) := ht
 cases b
 ·show ((Q.s t).ev e).bind (fun c => same H (zwg c (alt.ev e) (y.ev e))) = _
  rw [h0, hy]; rfl
 ·show ((Q.s t).ev e).bind (fun c => same H (zwg c (y.ev e) (alt.ev e))) = _
  rw [h0, hy]; rfl
theorem yauu {t : Nat} {b : Bool} {e : EV} {H : Heap} {y alt : Q} {w : AV} (ht : e.look t = some (.bool !b)) (hy : alt.ev e = some w) : kA P (om P) e H (.pick (.s t) (if b then y else alt) (if b then alt else y)) = some (w, H) := by
 have h0 : (Q.s t).ev e = some (.bool !b) := ht
 cases b
 ·show ((Q.s t).ev e).bind (fun c => same H (zwg c (alt.ev e) (y.ev e))) = _
  rw [h0, hy]; rfl
 ·show ((Q.s t).ev e).bind (fun c => same H (zwg c (y.ev e) (alt.ev e))) = _
  rw [h0, hy]; rfl
theorem yass {ks : List Nat} {nt : Nat} : ∀ {f : Nat} {σ σ1 : Sub} {l : List O} {A : T} {e e' e1' : EV} {H H1 : Heap}, cmp ks nt f σ l = some (A, σ1) → Rl nt σ e e' → R3 P A e' H = some (e1', H1) →
  (∃ e1, R2 P l e H = some (e1, H1) ∧ Rl nt σ1 e1 e1') := by
 intro f
 induction f with
 | zero => intro σ σ1 l A e e' e1' H H1 hc; cases hc
 | succ f ih =>
  intro σ σ1 l A e e' e1' H H1 hc hr hx
  cases l with
  | nil => cases hc; cases hx; exact ⟨e, rfl, hr⟩
  | cons o l =>
  simp only [cmp] at hc
  split at hc
  ·rename_i hg
   split at hc
   ·rename_i t q he
    obtain ⟨hk, hd, _⟩ := yaob he
    split at hc
    ·rename_i htn
     split at hc
     ·rename_i q' hq
      have hq' := zgh hr.sb hq
      split at hc
      ·rename_i A1 r hA
       cases hc
       have key : ∃ v, q'.ev e' = some v ∧ R3 P A1 e' H = some (e1', H1) := by
        cases q' with
        | v a => exact ⟨a, rfl, hx⟩
        | s z =>
         simp only [R3] at hx
         split at hx
         ·rename_i v hv; exact ⟨v, hv, hx⟩
         ·cases hx
       obtain ⟨v, hv, hx⟩ := key
       simp only [R2, hg, gOk, hk, hd, kA, hq', hv, same, zcw]
       have h1 : t < e.n := Nat.lt_of_lt_of_le htn hr.le
       refine ih hA ⟨fun z q2 hz => ?_, zrw hr.s1, hr.s2, by rw [ztt, hr.n], by rw [ztt]; exact hr.le⟩ hx
       simp only [sbS] at hz
       rw [ze2 h1]
       split at hz
       ·rename_i e; cases hz; rw [if_pos e, hv]
       ·rename_i e; rw [if_neg e]; exact hr.sb z q2 hz
      ·cases hc
     ·cases hc
    ·cases hc
   ·split at hc
    ·rename_i k' hk
     split at hc
     ·rename_i hd
      split at hc
      ·rename_i A1 r hA
       cases hc
       simp only [R3] at hx
       simp only [R2, hg, gOk, yay3 hr.sb hk]
       split at hx
       ·rename_i v H' hv
        simp only [hv]
        exact ih hA (hr.set hd) hx
       ·cases hx
      ·cases hc
     ·cases hc
    ·cases hc
  ·rename_i t b hg
   split at hc
   ·rename_i d y alt l' hp
    have hl := yac5 (t := t) (b := b) (l := o :: l) (D := [])
    rw [yaer hp] at hl
    generalize hgr : (grp t b [] (o :: l)).1 = g at hl hc
    split at hc
    ·rename_i hck
     simp only [Bool.and_eq_true, List.all_eq_true, decide_eq_true_eq, Bool.not_eq_true', beq_eq_false_iff_ne, ne_eq] at hck
     obtain ⟨hck, hdn⟩ := hck
     split at hc
     ·rename_i gq B σb alt' h1 h2 h3
      split at hc
      ·rename_i v hv
       split at hc
       ·rename_i A1 r hA
        cases hc
        simp only [R3] at hx
        rw [hl, yaq4]
        have hgl : ∀ x ∈ zvq g, x ≠ t ∧ x < e.n := fun x hx => ⟨(hck x hx).1.1.1, Nat.lt_of_lt_of_le (hck x hx).1.1.2 hr.le⟩
        have hlt := zgh hr.sb h1
        split at hx
        ·rename_i c hge
         rw [hge] at hlt
         have hlt : e.look t = some (.bool c) := hlt
         by_cases hcb : c = b
         ·subst hcb
          simp only [beq_self_eq_true, if_true] at hx
          split at hx
          ·rename_i e2' H2 hB
           split at hx
           ·rename_i w hw
            obtain ⟨e2, hE, hR⟩ := ih h2 hr hB
            rw [← yabb hgl hlt] at hE
            rw [hE]
            have bt := yagm (L := zvq g) (fun x hx => ⟨hx, (hgl x hx).2⟩) hE
            have hy := (zgh hR.sb hv).trans hw
            have ht2 : e2.look t = some (.bool c) := by
             rw [bt.look t fun h => (hgl t h).1 rfl]; exact hlt
            have hk : kA P (om P) e2 H2 (.pick (.s t) (if c then y else alt) (if c then alt else y)) = some (w, H2) := yauv ht2 hy
            simp only [R2, gOk, hk, zcw]
            exact ih hA ((hr.bt bt).set (d := some d) (decide_eq_true hdn)) hx
           ·cases hx
          ·cases hx
         ·have hcb' : c = !b := Bool.eq_not_of_ne hcb
          have hne : (c == b) = false := beq_eq_false_iff_ne.2 hcb
          simp only [hne, Bool.false_eq_true, if_false] at hx
          split at hx
          ·rename_i w hw
           subst hcb'
           have hsk := yaba (P := P) (t := t) (b := b) (l := o :: l) (D := []) (e := e) (H := H) (by rw [hgr]; exact hgl) hlt (by simp)
           rw [hgr] at hsk
           obtain ⟨e2, hE⟩ := hsk
           rw [hE]
           have bt := yagm (L := zvq g) (fun x hx => ⟨hx, (hgl x hx).2⟩) hE
           have ht2 : e2.look t = some (.bool !b) := by
            rw [bt.look t fun h => (hgl t h).1 rfl]; exact hlt
           have hy : alt.ev e2 = some w := by
            have e0 := (zgh hr.sb h3).trans hw
            rw [← e0]
            cases hq : alt with
            | v a => rfl
            | s z =>
             refine bt.look z fun hz => ?_
             have h9 : (Q.s z).has z = false := hq ▸ (hck z hz).2
             exact absurd h9 (by simp [Q.has])
           have hk : kA P (om P) e2 H (.pick (.s t) (if b then y else alt) (if b then alt else y)) = some (w, H) := yauu ht2 hy
           simp only [R2, gOk, hk, zcw]
           exact ih hA ((hr.bt bt).set (d := some d) (decide_eq_true hdn)) hx
          ·cases hx
        ·cases hx
       ·cases hc
      ·cases hc
     ·cases hc
    ·cases hc
   ·cases hc
  ·cases hc
theorem yat1 {ks : List Nat} {nt : Nat} {σ : Sub} {e e' : EV} (h : Rl nt σ e e') (hk : (ks.all fun t => match sbS σ t with | some (.s z) => z == t | _ => false) = true) : e.lim ks = e'.lim ks := by
 unfold EV.lim
 rw [h.n]
 congr 1
 refine yafl (zrv h.s1) (zrv h.s2) fun t => ?_
 rw [zmi, zmi]
 split
 ·rename_i ht
  have h1 := List.all_eq_true.1 hk t (by simpa using ht)
  split at h1
  ·rename_i z hz
   simp only [beq_iff_eq] at h1
   subst h1
   exact h.sb z _ hz
  ·cases h1
 ·rfl
noncomputable def Fr (P : Program) (c : Code) (ks : List Nat) (st : St) (_ : Unit) : Rx := match res P c with | some l => reg (some ks) st.marks (R2 P l st.env st.H) | none => none
def dro (ks m : List Nat) (x : Ry) (y : Unit → Rx) : Rx := match x with | some (e, H) => some (.normal, ⟨e.lim ks, m, H⟩) | none => y ()
@[congr] theorem yas2 {ks m : List Nat} {x x' : Ry} {y : Unit → Rx} (h : x = x') : dro ks m x y = dro ks m x' y := by rw [h]
theorem dro_some {ks m : List Nat} {e : EV} {H : Heap} {y : Unit → Rx} : dro ks m (some (e, H)) y = some (.normal, ⟨e.lim ks, m, H⟩) := id rfl
theorem dro_cond {ks m : List Nat} {c : Bool} {a b : Ry} {y : Unit → Rx} : dro ks m (bif c then a else b) y = bif c then dro ks m a y else dro ks m b y := by cases c <;> rfl
abbrev RT (P : Program) (f : Func) (n r nt : Nat) (ks : List Nat) (pk : Option (List Nat)) (A : T) : Prop :=
 ∀ (rnd : Option Nat) (pin : Nat) (st : St), (srt st.env.s && decide (nt ≤ st.env.n)) = true → om P ⟨n, rnd⟩ pin (za7 f r) st = lim pk pin (dro ks st.marks (R3 P A st.env st.H) (Fr P (za7 f r) ks st))
def cmpT (ks : List Nat) (nt : Nat) (l : List O) : Option T := match cmp ks nt 1000 [] l with
 | some (A, σ) => if ks.all fun t => match sbS σ t with | some (.s z) => z == t | _ => false then some A else none
 | none => none
def resT (P : Program) (ks : List Nat) (nt : Nat) (c : Code) : Option T := match res P c with
 | some l => cmpT ks nt l
 | none => none
theorem rt {f : Func} {n r nt : Nat} {ks : List Nat} {pk : Option (List Nat)} {A : T} (h : resT P ks nt (za7 f r) = some A) (hk : E.live n (3 * zeo (za7 f r)) = some ks) (hq : E.live n (3 * (zeo (za7 f r) + 1000000)) = pk) : RT P f n r nt ks pk A := by
 intro rnd pin st hs
 unfold resT at h
 split at h
 ·rename_i l hl
  rw [yae3 (some ks) pk hl hk hq]
  congr 1
  unfold cmpT at h
  split at h
  ·rename_i A1 σ hc
   split at h
   ·rename_i hall
    cases h
    simp only [Bool.and_eq_true, decide_eq_true_eq] at hs
    unfold dro
    cases hx : R3 P A st.env st.H with
    | none => simp only [Fr, hl]
    | some p =>
     obtain ⟨e1', H1⟩ := p
     obtain ⟨e1, hE, hR⟩ := yass hc ⟨fun t q hq => by cases hq; rfl, hs.1, hs.1, rfl, hs.2⟩ hx
     rw [hE]
     simp only [reg, yat1 hR hall]
   ·cases h
  ·cases h
 ·cases h
noncomputable def K5 (P : Program) (rest : T) (e : EV) (d : Option Nat) (v : AV) (H : Heap) : Ry := R3 P rest (zcw e d v) H
noncomputable def N5 (P : Program) (rest : T) (e : EV) (H : Heap) (_ : AV) : Ry := R3 P rest e H
noncomputable def B5 (P : Program) (body : T) (y : Q) (e : EV) (H : Heap) (_ : Unit) : Option (AV × Heap) := match R3 P body e H with | some (e1, H1) => same H1 (y.ev e1) | none => none
def A5 (alt : Q) (e : EV) (H : Heap) (_ : Unit) : Option (AV × Heap) := same H (alt.ev e)
def gu5 (y : Option AV) (b : Bool) (x z : Unit → Option (AV × Heap)) : Option (AV × Heap) := match y with | some (.bool c) => bif c == b then x () else z () | _ => none
@[congr] theorem yatg {y y' : Option AV} {b : Bool} {x z : Unit → Option (AV × Heap)} (h : y = y') : gu5 y b x z = gu5 y' b x z := by rw [h]
theorem gu5_bt {c : Bool} {x z : Unit → Option (AV × Heap)} : gu5 (some (.bool c)) true x z = bif c then x () else z () := by cases c <;> rfl
theorem gu5_bf {c : Bool} {x z : Unit → Option (AV × Heap)} : gu5 (some (.bool c)) false x z = bif c then z () else x () := by cases c <;> rfl
def val5 (r : Ry) (y : Q) : Option (AV × Heap) := match r with | some (e1, H1) => same H1 (y.ev e1) | none => none
@[congr] theorem yaq1 {r r' : Ry} {y : Q} (h : r = r') : val5 r y = val5 r' y := by rw [h]
theorem val5_some {e : EV} {H : Heap} {y : Q} : val5 (some (e, H)) y = same H (y.ev e) := id rfl
theorem val5_cond {c : Bool} {a b : Ry} {y : Q} : val5 (bif c then a else b) y = bif c then val5 a y else val5 b y := by cases c <;> rfl
def nd5 (x : Option AV) (k : AV → Ry) : Ry := match x with | some v => k v | none => none
@[congr] theorem yat9 {x x' : Option AV} {k : AV → Ry} (h : x = x') : nd5 x k = nd5 x' k := by rw [h]
theorem nd5_some {v : AV} {k : AV → Ry} : nd5 (some v) k = k v := id rfl
section
variable {d : Nat} {dd : Option Nat} {k : K} {b : Bool} {g y alt q : Q} {body rest : T} {e : EV} {H : Heap} {v : AV} {u : Unit}
theorem r3_nil : R3 P .nil e H = some (e, H) := rfl
theorem r3_op : R3 P (.op dd k rest) e H = opr (kA P (om P) e H k) (K5 P rest e dd) := by
 simp only [R3]; rfl
theorem r3_nd : R3 P (.nd q rest) e H = nd5 (q.ev e) (N5 P rest e H) := by
 simp only [R3]; rfl
theorem r3_br : R3 P (.br d g b body y alt rest) e H = opr (gu5 (g.ev e) b (B5 P body y e H) (A5 alt e H)) (K5 P rest e (some d)) := by
 simp only [R3, gu5, B5, A5, K5, zcw]
 generalize g.ev e = x
 cases x with
 | none => rfl
 | some w =>
  cases w <;> try rfl
  rename_i c
  have hb : opr (val5 (R3 P body e H) y) (K5 P rest e (some d)) = (match R3 P body e H with
    | some (e1, H1) => match y.ev e1 with
     | some v => R3 P rest (e.set d v) H1
     | none => none
    | none => none) := by
   generalize R3 P body e H = r
   cases r with
   | none => rfl
   | some p =>
    obtain ⟨e1, H1⟩ := p
    simp only [val5]
    generalize y.ev e1 = z
    cases z <;> rfl
  have ha : opr (same H (alt.ev e)) (K5 P rest e (some d)) = (match alt.ev e with
    | some v => R3 P rest (e.set d v) H
    | none => none) := by
   generalize alt.ev e = z
   cases z <;> rfl
  cases c <;> cases b
  ·exact hb.symm
  ·exact ha.symm
  ·exact ha.symm
  ·exact hb.symm
theorem k5 : K5 P rest e dd v H = R3 P rest (zcw e dd v) H := rfl
theorem n5 : N5 P rest e H v = R3 P rest e H := rfl
theorem b5 : B5 P body y e H u = val5 (R3 P body e H) y := rfl
theorem a5 : A5 alt e H u = same H (alt.ev e) := rfl
theorem opr_cond {c : Bool} {a a' : Option (AV × Heap)} {f : AV → Heap → Ry} : opr (bif c then a else a') f = bif c then opr a f else opr a' f := by cases c <;> rfl
theorem srt_nil : srt [] = true := rfl
theorem yaz1 {a : Nat} {v : AV} : srt [(a, v)] = true := rfl
end
def srt2 : Nat → List (Nat × AV) → Bool
 | _, [] => true
 | a, (b, _) :: l => decide (a < b) && srt2 b l
theorem zy8 : ∀ {l : List (Nat × AV)} {a : Nat}, srt2 a l = true → srt l = true ∧ l.all (fun p => decide (a < p.1)) = true
 | [], _, _ => ⟨rfl, rfl⟩
 | (b, v) :: l, a, h => by
  simp only [srt2, Bool.and_eq_true, decide_eq_true_eq] at h
  obtain ⟨h1, h2⟩ := zy8 h.2
  refine ⟨by simp only [srt, Bool.and_eq_true]; exact ⟨h2, h1⟩, ?_⟩
  simp only [List.all_cons, Bool.and_eq_true, decide_eq_true_eq]
  exact ⟨h.1, List.all_eq_true.2 fun p hp => decide_eq_true (by have := List.all_eq_true.1 h2 p hp; simp at this; omega)⟩
theorem srt_cons {a : Nat} {v : AV} {l : List (Nat × AV)} : srt ((a, v) :: l) = srt2 a l := by
 apply Bool.eq_iff_iff.2
 constructor
 ·intro h
  simp only [srt, Bool.and_eq_true] at h
  revert a v
  induction l with
  | nil => intro a v h; rfl
  | cons p l ih =>
   obtain ⟨b, w⟩ := p
   intro a v h
   simp only [srt, Bool.and_eq_true, List.all_cons, decide_eq_true_eq] at h
   simp only [srt2, Bool.and_eq_true, decide_eq_true_eq]
   exact ⟨h.1.1, ih (v := w) ⟨h.2.1, h.2.2⟩⟩
 ·intro h
  obtain ⟨h1, h2⟩ := zy8 h
  simp only [srt, Bool.and_eq_true]; exact ⟨h2, h1⟩
theorem srt2_nil {a : Nat} : srt2 a [] = true := rfl
theorem srt2_cons {a b : Nat} {v : AV} {l : List (Nat × AV)} : srt2 a ((b, v) :: l) = (decide (a < b) && srt2 b l) := rfl
end
end Go.Ab
