/- What the law's proof leans on, part 23. Conditions: in each statement. -/
import Derived.Test.YtibehelnfbcnjaaGreatDoorQ1
import Derived.Test.YtibehelnfbcnjaaGreatDoorQ3
set_option linter.all false
namespace Go.Proofs.YtibehelnfbcnjaaGreatDoor.v
open Go Go.Ab
set_option maxRecDepth 10000
set_option linter.unusedSimpArgs false
set_option linter.unusedVariables false
def tb (a : Int) (i : Nat) : Bool := (BitVec.ofInt 64 a).getLsbD i
theorem zmv (n : Nat) (h : n < 2 ^ 64) : IntKind.u64.wrap (n : Int) = (n : Int) := by
 simp only [IntKind.wrap, IntKind.bits, IntKind.signed]
 simp
 omega
theorem zvd (x : BitVec 64) : BitVec.ofInt 64 (IntKind.u64.wrap (x.toNat : Int)) = x := by
 rw [zmv _ x.isLt]
 simp
theorem ya17 (a b : Int) (i : Nat) : tb (andI a b) i = (tb a i && tb b i) := by
 unfold tb andI; rw [zvd, BitVec.getLsbD_and]
theorem yafx (a b : Int) (i : Nat) : tb (orI a b) i = (tb a i || tb b i) := by
 unfold tb orI; rw [zvd, BitVec.getLsbD_or]
theorem zqd {n : Nat} (h : n < 2 ^ 64) (i : Nat) : tb (n : Int) i = n.testBit i := by
 unfold tb
 rw [BitVec.ofInt_natCast, BitVec.getLsbD_ofNat]
 by_cases hi : i < 64
 ·simp [hi]
 ·have : n < 2 ^ i := Nat.lt_of_lt_of_le h (Nat.pow_le_pow_right (by decide) (by omega))
  simp [hi, Nat.testBit_lt_two_pow this]
theorem yaj1 (a b : Int) : decide (andI a b = 0) = true ↔ ∀ i, ¬ (tb a i = true ∧ tb b i = true) := by
 have e : andI a b = (((BitVec.ofInt 64 a &&& BitVec.ofInt 64 b).toNat : Nat) : Int) := by
  unfold andI; exact zmv _ (BitVec.isLt _)
 rw [decide_eq_true_iff, e]
 constructor
 ·intro h i ⟨h1, h2⟩
  have h0 : (BitVec.ofInt 64 a &&& BitVec.ofInt 64 b) = 0 := by
   apply BitVec.eq_of_toNat_eq; simpa using h
  have := congrArg (fun x : BitVec 64 => x.getLsbD i) h0
  simp only [BitVec.getLsbD_and] at this
  unfold tb at h1 h2
  rw [h1, h2] at this
  simp at this
 ·intro h
  have h0 : (BitVec.ofInt 64 a &&& BitVec.ofInt 64 b) = 0 := by
   apply BitVec.eq_of_getLsbD_eq
   intro i hi
   rw [BitVec.getLsbD_and]
   have := h i
   unfold tb at this
   simp
   intro h1
   cases h2 : (BitVec.ofInt 64 b).getLsbD i
   ·rfl
   ·exact absurd ⟨h1, h2⟩ this
  rw [h0]; rfl
theorem yajl {p : MPiece} (h0 : 0 ≤ p.at_) (h1 : 1 ≤ p.len) (h2 : p.at_ + p.len ≤ 64) (i : Nat) : tb (zn4 p) i = (decide (p.at_ ≤ (i : Int)) && decide ((i : Int) < p.at_ + p.len)) := by
 obtain ⟨a, ha⟩ := Int.eq_ofNat_of_zero_le h0
 obtain ⟨n, hn⟩ := Int.eq_ofNat_of_zero_le (show 0 ≤ p.len by omega)
 have hm : zi6 p.len = ((2 ^ n - 1 : Nat) : Int) := by
  unfold zi6
  rw [if_pos (by simp [inR]; omega), hn]
  rw [show (64 - (n : Int)).toNat = 64 - n by omega]
  have : 18446744073709551615 / 2 ^ (64 - n) = 2 ^ n - 1 := by
   have e : 18446744073709551615 = 2 ^ 64 - 1 := by decide
   have e2 : 2 ^ 64 = 2 ^ n * 2 ^ (64 - n) := by rw [← Nat.pow_add]; congr 1; omega
   have p1 : 0 < 2 ^ (64 - n) := Nat.two_pow_pos _
   have p2 : 0 < 2 ^ n := Nat.two_pow_pos _
   rw [e, e2]
   rw [show 2 ^ n * 2 ^ (64 - n) - 1 = (2 ^ n - 1) * 2 ^ (64 - n) + (2 ^ (64 - n) - 1) by
    rw [Nat.sub_mul, Nat.one_mul]
    have : 2 ^ (64 - n) ≤ 2 ^ n * 2 ^ (64 - n) := Nat.le_mul_of_pos_left _ p2
    omega]
   rw [Nat.add_comm, Nat.add_mul_div_right _ _ p1, Nat.div_eq_of_lt (by omega), Nat.zero_add]
  rw [← this, Int.natCast_ediv]; rfl
 have hp : zn4 p = (((2 ^ n - 1) * 2 ^ a : Nat) : Int) := by
  unfold zn4
  rw [hm, ha]
  have hle : a ≤ 64 := by omega
  rw [Int.toNat_natCast, Nat.min_eq_left hle]
  rw [show (((2 ^ n - 1 : Nat) : Int) * 2 ^ a) = (((2 ^ n - 1) * 2 ^ a : Nat) : Int) by rw [Int.natCast_mul, Int.natCast_pow]; rfl]
  refine zmv _ ?_
  have e2 : 2 ^ 64 = 2 ^ (64 - a) * 2 ^ a := by rw [← Nat.pow_add]; congr 1; omega
  rw [e2]
  refine Nat.mul_lt_mul_of_pos_right ?_ (Nat.two_pow_pos _)
  have : 2 ^ n ≤ 2 ^ (64 - a) := Nat.pow_le_pow_right (by decide) (by omega)
  have := Nat.two_pow_pos n
  omega
 have hb : (2 ^ n - 1) * 2 ^ a < 2 ^ 64 := by
  have e2 : 2 ^ 64 = 2 ^ (64 - a) * 2 ^ a := by rw [← Nat.pow_add]; congr 1; omega
  rw [e2]
  refine Nat.mul_lt_mul_of_pos_right ?_ (Nat.two_pow_pos _)
  have : 2 ^ n ≤ 2 ^ (64 - a) := Nat.pow_le_pow_right (by decide) (by omega)
  have := Nat.two_pow_pos n
  omega
 rw [hp, zqd hb, ← Nat.shiftLeft_eq, Nat.testBit_shiftLeft, Nat.testBit_two_pow_sub_one, ha, hn]
 rw [Bool.eq_iff_iff]
 simp only [Bool.and_eq_true, decide_eq_true_eq]
 omega
theorem zu7 {x : Int} (h0 : 0 ≤ x) (h1 : x < 2 ^ 64) (n : Nat) : bitS x n = if tb x n then 1 else 0 := by
 obtain ⟨k, rfl⟩ := Int.eq_ofNat_of_zero_le h0
 have hk : k < 2 ^ 64 := by omega
 rw [zqd hk, Nat.testBit_eq_decide_div_mod_eq]
 unfold bitS
 have e : ((k : Int) / ((2 ^ n : Nat) : Int) % 2) = ((k / 2 ^ n % 2 : Nat) : Int) := by push_cast; rfl
 rw [e]
 rcases Nat.mod_two_eq_zero_or_one (k / 2 ^ n) with h | h <;> simp [h]
def zy6 {α : Type} (nm : α → ByteArray) (q : Nat → α → Bool) : Nat → List α → List ByteArray → Bool
 | _, [], _ => true
 | i, u :: us, l => ((za3 (nm u) && !zlm l (nm u)) && q i u) && zy6 nm q (i + 1) us (l ++ [nm u])
theorem zdg {α : Type} {nm : α → ByteArray} {q : α → Bool} : ∀ {us : List α} {l : List ByteArray} {i : Nat}, zbj nm q us l = zy6 nm (fun _ => q) i us l
 | [], _, _ => rfl
 | u :: us, l, i => by rw [zbj, zy6, zdg (i := i + 1)]
def oneF {α : Type} (nm : α → ByteArray) (q : Nat → α → Bool) (us : List α) (acc : List ByteArray) (i : Nat) : Prop :=
 ∀ u, us[i]? = some u → za3 (nm u) = true ∧ q i u = true ∧ zlm acc (nm u) = false ∧ ∀ k v, k < i → us[k]? = some v → nm v ≠ nm u
theorem zfp {l : List ByteArray} {s : ByteArray} : zlm l s = false ↔ ∀ x ∈ l, x ≠ s := by
 simp only [zlm, List.any_eq_false, decide_eq_true_eq]
 exact ⟨fun h x hx e => h x hx e.symm, fun h x hx e => h x hx e.symm⟩
theorem zh8 {α : Type} {nm : α → ByteArray} : ∀ {us : List α} {q : Nat → α → Bool} {j : Nat} {acc : List ByteArray}, zy6 nm q j us acc = true ↔ ∀ i, oneF nm (fun i => q (j + i)) us acc i
 | [], q, j, acc => by simp [zy6, oneF]
 | u :: us, q, j, acc => by
  simp only [zy6, Bool.and_eq_true, zh8 (us := us)]
  constructor
  ·rintro ⟨⟨⟨h1, h2⟩, h3⟩, h4⟩ i v hv
   cases i with
   | zero =>
    simp only [List.getElem?_cons_zero, Option.some.injEq] at hv
    subst hv
    exact ⟨h1, by simpa using h3, by simpa using h2, fun k w hk => absurd hk (Nat.not_lt_zero _)⟩
   | succ i =>
    simp only [List.getElem?_cons_succ] at hv
    obtain ⟨g1, g2, g3, g4⟩ := h4 i v hv
    rw [zfp] at g3
    refine ⟨g1, ?_, zfp.2 fun x hx => g3 x (by simp [hx]), fun k w hk hw => ?_⟩
    ·show q (j + (i + 1)) v = true
     rw [show j + (i + 1) = j + 1 + i by omega]; exact g2
    ·cases k with
     | zero =>
      simp only [List.getElem?_cons_zero, Option.some.injEq] at hw
      subst hw
      exact g3 _ (by simp)
     | succ k => exact g4 k w (by omega) (by simpa using hw)
  ·intro h
   refine ⟨?_, fun i v hv => ?_⟩
   ·obtain ⟨h1, h2, h3, _⟩ := h 0 u rfl
    exact ⟨⟨h1, by simp [h3]⟩, by simpa using h2⟩
   ·obtain ⟨g1, g2, g3, g4⟩ := h (i + 1) v (by simpa using hv)
    rw [zfp] at g3
    refine ⟨g1, ?_, zfp.2 fun x hx => ?_, fun k w hk hw => g4 (k + 1) w (by omega) (by simpa using hw)⟩
    ·have g2' : q (j + (i + 1)) v = true := g2
     rw [show j + (i + 1) = j + 1 + i by omega] at g2'; exact g2'
    ·rcases List.mem_append.1 hx with hx | hx
     ·exact g3 x hx
     ·rw [List.mem_singleton] at hx
      subst hx
      exact g4 0 u (by omega) rfl
def newI {α : Type} (nm : α → ByteArray) (us : List α) (i : Nat) : Bool := match us[i]? with
 | some u => zb0 (fun k => match us[k]? with | some v => !decide (nm v = nm u) | none => true) 0 i
 | none => true
def atI {α : Type} (us : List α) (q : α → Bool) (i : Nat) : Bool := match us[i]? with | some u => q u | none => true
theorem zyd {α : Type} {nm : α → ByteArray} {us : List α} {i : Nat} : newI nm us i = true ↔ ∀ u, us[i]? = some u → ∀ k v, k < i → us[k]? = some v → nm v ≠ nm u := by
 unfold newI
 cases hu : us[i]? with
 | none => simp
 | some u =>
  simp only [za5, Option.some.injEq]
  constructor
  ·rintro h _ rfl k v hk hv
   have := h k (Nat.zero_le _) hk
   rw [hv] at this
   simpa using this
  ·intro h k _ hk
   cases hv : us[k]? with
   | none => rfl
   | some v => simpa using h u rfl k v hk hv
theorem zy7 {α : Type} {nm : α → ByteArray} {us : List α} {q : Nat → α → Bool} {acc : List ByteArray} :
  zy6 nm q 0 us acc = zb0 (fun i => (atI us (fun u => za3 (nm u) && q i u && !zlm acc (nm u)) i && newI nm us i)) 0 us.length := by
 rw [Bool.eq_iff_iff, zh8, za5]
 constructor
 ·intro h i _ hi
  have hu : us[i]? = some us[i] := List.getElem?_eq_getElem hi
  obtain ⟨h1, h2, h3, h4⟩ := h i _ hu
  simp only [Nat.zero_add] at h2
  rw [Bool.and_eq_true]
  refine ⟨by simp [atI, hu, h1, h2, h3], zyd.2 fun u e k v hk hv => ?_⟩
  rw [hu] at e; cases e
  exact h4 k v hk hv
 ·intro h i u hu
  obtain ⟨hi, rfl⟩ := List.getElem?_eq_some_iff.1 hu
  have := h i (Nat.zero_le _) hi
  rw [Bool.and_eq_true, zyd] at this
  simp [atI, hu] at this
  exact ⟨this.1.1.1, by simpa using this.1.1.2, this.1.2, fun k v hk hv => this.2 k v hk hv⟩
def pin (p : MPiece) (b : Nat) : Bool := decide (p.at_ ≤ (b : Int)) && decide ((b : Int) < p.at_ + p.len)
def zfl (l : List MPiece) (b : Nat) : Nat := l.countP fun p => pin p b
def one (b : Bool) : Nat := if b then 1 else 0
theorem zrl {w : Int} (h1 : 1 ≤ w) (h2 : w ≤ 4) : ∀ {l : List MPiece} {ok : Bool} {t : Int}, ((zje w l ok t).2.1 = true ↔ (ok = true ∧ l.all (zcp w) = true ∧ ∀ b, one (tb t b) + zfl l b ≤ 1)) ∧
  ((zje w l ok t).2.1 = true → (zje w l ok t).1 = false ∧ ∀ b, tb (zje w l ok t).2.2 b = (tb t b || decide (0 < zfl l b)))
 | [], ok, t => by
  refine ⟨?_, fun h => ⟨rfl, fun b => by simp [zje, zfl]⟩⟩
  simp only [zje, List.all_nil, zfl, List.countP_nil, true_and]
  exact ⟨fun h => ⟨h, fun b => by unfold one; split <;> omega⟩, fun h => h.1⟩
 | p :: l, ok, t => by
  simp only [zje]
  cases ok with
  | false => simp
  | true =>
   cases hw : zcp w p with
   | false => simp [hw]
   | true =>
    simp only [Bool.true_and, cond_true, List.all_cons, hw]
    obtain ⟨ih1, ih2⟩ := zrl h1 h2 (l := l) (ok := decide (andI t (zn4 p) = 0)) (t := orI t (zn4 p))
    have hp : 0 ≤ p.at_ ∧ 1 ≤ p.len ∧ p.at_ + p.len ≤ 64 := by
     have e8 : IntKind.i64.wrap (8 * w) = 8 * w := zdr (by omega) (by omega)
     simp only [zcp, inR, e8, Bool.and_eq_true, decide_eq_true_eq] at hw
     have e9 : IntKind.i64.wrap (8 * w - p.len) = 8 * w - p.len := zdr (by omega) (by omega)
     rw [e9] at hw
     omega
    have hb : ∀ b, tb (zn4 p) b = pin p b := fun b => yajl hp.1 hp.2.1 hp.2.2 b
    have hc : ∀ b, zfl (p :: l) b = zfl l b + one (pin p b) := fun b => by simp only [zfl, List.countP_cons, one]
    refine ⟨?_, fun h => ?_⟩
    ·rw [ih1, yaj1]
     simp only [true_and]
     constructor
     ·rintro ⟨g1, g2, g3⟩
      refine ⟨g2, fun b => ?_⟩
      have a1 := g1 b
      have a2 := g3 b
      rw [yafx, hb] at a2
      rw [hb] at a1
      rw [hc]
      revert a1 a2
      cases tb t b <;> cases pin p b <;> simp [one]
      all_goals omega
     ·rintro ⟨g1, g2⟩
      refine ⟨fun b => ?_, g1, fun b => ?_⟩
      ·have := g2 b
       rw [hc] at this
       rw [hb]
       revert this
       cases tb t b <;> cases pin p b <;> simp [one]
      ·have := g2 b
       rw [hc] at this
       rw [yafx, hb]
       revert this
       cases tb t b <;> cases pin p b <;> simp [one]
       all_goals omega
    ·obtain ⟨g1, g2⟩ := ih2 h
     refine ⟨g1, fun b => ?_⟩
     rw [g2, yafx, hb, hc]
     cases tb t b <;> cases pin p b <;> simp [one]
theorem tb_0 (b : Nat) : tb 0 b = false := by
 have := zqd (n := 0) (by decide) b
 simpa using this
def zbx (m : MMach) (s : MInstr) (i : Nat) (o : MOpd) : Bool :=
 bif decide (o.kind = 1) then (inR o.bank 0 ((m.banks.length : Int) - 1) && decide (o.scale = 0)) && bif decide (o.tied = -1) then znx m o else ziv s i o && yaax s o
 else bif decide (o.kind = 2) || (decide (o.kind = 3) || decide (o.kind = 4)) then zl9 m o else false
theorem yaac {m : MMach} {s : MInstr} {i : Nat} {o : MOpd} {ok : Bool} {t : Int} : ((ziu m s i o ok t).1 = (decide (o.kind = 1) && ok && zbx m s i o || (!decide (o.kind = 1) && ok && zbx m s i o))) ∧ ((ziu m s i o ok t).1 = true → (ziu m s i o ok t).2 = t) := by
 unfold ziu zbx yaef
 generalize znx m o = a
 generalize ziv s i o = b
 generalize yaax s o = c
 generalize zl9 m o = d
 generalize (inR o.bank 0 ((m.banks.length : Int) - 1) && decide (o.scale = 0)) = e
 generalize decide (o.kind = 1) = k1
 generalize (decide (o.kind = 2) || (decide (o.kind = 3) || decide (o.kind = 4))) = k2
 generalize decide (o.tied = -1) = f
 cases k1 <;> cases k2 <;> cases ok <;> cases e <;> cases f <;> cases a <;> cases b <;> cases c <;> cases d <;> simp
theorem yaee {m : MMach} {s : MInstr} {i : Nat} {o : MOpd} {ok : Bool} (h1 : 1 ≤ m.word) (h2 : m.word ≤ 4) :
  ((zid m s i o ok).1 = true ↔ (ok = true ∧ o.pieces.all (zcp m.word) = true ∧ (∀ b, zfl o.pieces b ≤ 1) ∧ zbx m s i o = true)) ∧
  ((zid m s i o ok).1 = true → ∀ b, tb (zid m s i o ok).2 b = decide (0 < zfl o.pieces b)) := by
 obtain ⟨p1, p2⟩ := zrl h1 h2 (l := o.pieces) (ok := ok) (t := 0)
 have p1' : (zje m.word o.pieces ok 0).2.1 = true ↔ (ok = true ∧ o.pieces.all (zcp m.word) = true ∧ ∀ b, zfl o.pieces b ≤ 1) := by
  rw [p1]; simp only [tb_0, one, Bool.false_eq_true, if_false, Nat.zero_add]
 unfold zid
 obtain ⟨r1, r2⟩ := yaac (m := m) (s := s) (i := i) (o := o) (ok := (zje m.word o.pieces ok 0).2.1) (t := (zje m.word o.pieces ok 0).2.2)
 cases hp : (zje m.word o.pieces ok 0).2.1 with
 | true =>
  obtain ⟨q1, q2⟩ := p2 hp
  rw [hp] at r1 r2
  rw [q1]
  simp only [cond_false]
  have e : (ziu m s i o true (zje m.word o.pieces ok 0).2.2).1 = zbx m s i o := by
   rw [r1]; cases decide (o.kind = 1) <;> simp
  refine ⟨?_, fun h b => ?_⟩
  ·rw [e]
   have := p1'.1 hp
   exact ⟨fun h => ⟨this.1, this.2.1, this.2.2, h⟩, fun h => h.2.2.2⟩
  ·rw [r2 h, q2, tb_0, Bool.false_or]
 | false =>
  have hn : ¬ (ok = true ∧ o.pieces.all (zcp m.word) = true ∧ ∀ b, zfl o.pieces b ≤ 1) := fun h => by rw [p1'.2 h] at hp; cases hp
  have e : (bif (zje m.word o.pieces ok 0).1 then ((false, 0) : Bool × Int) else ziu m s i o false (zje m.word o.pieces ok 0).2.2).1 = false := by
   cases (zje m.word o.pieces ok 0).1 with
   | true => rfl
   | false =>
    rw [hp] at r1
    simp only [cond_false]
    rw [r1]; cases decide (o.kind = 1) <;> simp
  rw [e]
  exact ⟨⟨fun h => (by cases h), fun h => absurd ⟨h.1, h.2.1, h.2.2.1⟩ hn⟩, fun h => (by cases h)⟩
def zwf (m : MMach) (s : MInstr) : Nat → List MOpd → Bool → List ByteArray → Int → Bool × Int
 | _, [], ok, _, t => (ok, t)
 | i, o :: l, ok, ns, t => zwf m s (i + 1) l ((zid m s i o (ok && (za3 o.name && !zlm ns o.name))).1 && decide (andI t (zid m s i o (ok && (za3 o.name && !zlm ns o.name))).2 = 0)) (ns ++ [o.name]) (orI t (zid m s i o (ok && (za3 o.name && !zlm ns o.name))).2)
def opQ (m : MMach) (s : MInstr) (i : Nat) (o : MOpd) : Bool := o.pieces.all (zcp m.word) && zbx m s i o
def zw6 (l : List MOpd) : List MPiece := l.flatMap MOpd.pieces
theorem zxo {a b : List MPiece} {k : Nat} : zfl (a ++ b) k = zfl a k + zfl b k := List.countP_append
theorem zh4 {m : MMach} {s : MInstr} (h1 : 1 ≤ m.word) (h2 : m.word ≤ 4) : ∀ {l : List MOpd} {i : Nat} {ok : Bool} {ns : List ByteArray} {t : Int}, (zwf m s i l ok ns t).1 = true ↔ (ok = true ∧ zy6 MOpd.name (opQ m s) i l ns = true ∧ ∀ b, one (tb t b) + zfl (zw6 l) b ≤ 1)
 | [], i, ok, ns, t => by
  simp only [zwf, zy6, zw6, List.flatMap_nil, zfl, List.countP_nil, true_and]
  exact ⟨fun h => ⟨h, fun b => by unfold one; split <;> omega⟩, fun h => h.1⟩
 | o :: l, i, ok, ns, t => by
  rw [zwf, zh4 h1 h2 (l := l)]
  obtain ⟨a1, a2⟩ := yaee (m := m) (s := s) (i := i) (o := o) (ok := ok && (za3 o.name && !zlm ns o.name)) h1 h2
  have hc : ∀ b, zfl (zw6 (o :: l)) b = zfl o.pieces b + zfl (zw6 l) b := fun b => by
   simp only [zw6, List.flatMap_cons, zxo]
  rw [Bool.and_eq_true, yaj1]
  constructor
  ·rintro ⟨⟨g1, g2⟩, g3, g4⟩
   have b1 := a1.1 g1
   have b2 := a2 g1
   obtain ⟨b3, b4, b5, b6⟩ := b1
   simp only [Bool.and_eq_true] at b3
   refine ⟨b3.1, ?_, fun b => ?_⟩
   ·simp only [zy6, opQ, b3.2.1, b3.2.2, b4, b6, g3, Bool.and_self]
   ·have x1 := g2 b
    have x2 := g4 b
    have x3 := b5 b
    rw [yafx, b2] at x2
    rw [b2] at x1
    rw [hc]
    revert x1 x2
    cases tb t b <;> by_cases hz : 0 < zfl o.pieces b <;> simp [one, hz] <;> omega
  ·rintro ⟨g1, g2, g3⟩
   simp only [zy6, opQ, Bool.and_eq_true] at g2
   obtain ⟨⟨⟨c1, c2⟩, c3, c4⟩, c5⟩ := g2
   have g : (zid m s i o (ok && (za3 o.name && !zlm ns o.name))).1 = true := by
    refine a1.2 ⟨by simp [g1, c1] ; simpa using c2, c3, fun b => ?_, c4⟩
    have := g3 b; rw [hc] at this; omega
   have b2 := a2 g
   refine ⟨⟨g, fun b => ?_⟩, c5, fun b => ?_⟩
   ·have := g3 b
    rw [hc] at this
    rw [b2]
    revert this
    cases tb t b <;> simp [one]
    omega
   ·have := g3 b
    rw [hc] at this
    rw [yafx, b2]
    revert this
    cases tb t b <;> by_cases hz : 0 < zfl o.pieces b <;> simp [one, hz] <;> omega
def pcN : ByteArray := ⟨#[112, 99]⟩
def yaqf (m : MMach) : List Bn := m.regs.foldl (fun t r => zoo (rDot ++ r.name) r.width t) [(pcN, m.address)]
def zzc (m : MMach) (s : MInstr) : List Bn := s.operands.foldl (fun t o => zoo o.name (zmb m o) t) (yaqf m)
def zo3 (T : List Bn) (adr : Int) (t : MTerm) : Bool := bif decide (t.kd = 2) then decide ((zdx t.nm T).getD 0 = t.wd) else bif decide (t.kd = 24) then decide (zgq t 0 = adr) else true
def zgm (m : MMach) (T : List Bn) (t : MTerm) : Bool := decide (zla t = 0) && t.nodes.all (zo3 T m.address)
def zlf (m : MMach) (s : MInstr) (x : MEff) : Bool := match s.operands[x.operand.toNat]? with | some o => decide (o.kind = 1) && decide (x.value.wd = zmb m o) | none => false
def zow (m : MMach) (s : MInstr) (T : List Bn) (x : MEff) : Bool :=
 (decide (x.kind = 1) || (decide (x.operand = 0) && decide (x.reg = 0))) && (zgm m T x.value && (
 bif decide (x.kind = 1) then (zmg x.addr && zmg x.cond) && (bif decide (x.operand = -1) && inR x.reg 0 ((m.regs.length : Int) - 1) then decide (x.value.wd = zfi m x.reg) else bif decide (x.reg = 0) && inR x.operand 0 ((s.operands.length : Int) - 1) then zlf m s x else false) else
 bif decide (x.kind = 2) then zgm m T x.addr && (zmg x.cond && (decide (x.addr.wd = m.address) && zl5 x.value.wd)) else
 bif decide (x.kind = 3) then (zmg x.addr && decide (x.value.wd = m.address)) && (zmg x.cond || (zgm m T x.cond && decide (x.cond.wd = 1))) else
 bif decide (x.kind = 4) then zmg x.addr && zmg x.cond else false))
def zov (k : Int) (s : MInstr) : Nat := s.effects.countP fun x => decide (x.kind = k)
def zpd (m : MMach) (s : MInstr) : Bool := decide ((zov 3 s : Int) ≤ 1) && ((decide ((zov 4 s : Int) = 0) || decide ((s.effects.length : Int) = 1)) && (inR s.unit 0 ((m.units.length : Int) - 1) && (inR s.busy 1 15 && (inR s.latency 1 15 && (inR s.slots 0 2 && (decide (s.slots = 0) || decide ((zov 3 s : Int) = 1)))))))
def zku (a b : Int) : Int := IntKind.u64.wrap ((BitVec.ofInt 64 a &&& ~~~ BitVec.ofInt 64 b).toNat)
def zfq (m : MMach) (s : MInstr) : Bool :=
 (decide (zku s.mask (zi6 (IntKind.i64.wrap (8 * m.word))) = 0) && decide (zku s.mat s.mask = 0)) && ((zwf m s 0 s.operands true [pcN] s.mask).1 && (s.effects.all (zow m s (zzc m s)) && zpd m s))
def zg8 (m : MMach) : Bool := zbj MInstr.name (zfq m) m.instrs []
def goodB (m : MMach) : Bool := (za3 m.name && (inR m.word 1 4 && (decide (m.address = 16) || decide (m.address = 32)))) && (zie m && (zdc m && (unitsB m && zg8 m)))
where unitsB (m : MMach) : Bool := decide (0 < (m.units.length : Int)) && zbj MUn.name zko m.units []
def zb3 (m : MMach) : Int := bif !zhq m then 4 else bif goodB m then 0 else 8
def vopF (m : MMach) (name : ByteArray) (w : Int) (z : Bool) : List MOpd → Bool
 | [] => z
 | o :: l => bif decide (o.name = name) then decide (w = zmb m o) else vopF m name w z l
def yajv (name : ByteArray) (w : Int) : List MReg → Bool
 | [] => false
 | r :: l => bif decide (rDot ++ r.name = name) then decide (w = r.width) else yajv name w l
def zfz (m : MMach) (s : MInstr) (name : ByteArray) (w : Int) : Bool := bif decide (name = pcN) then decide (w = m.address) else vopF m name w (yajv name w m.regs) s.operands
def zc5 (m : MMach) (s : MInstr) (t : MTerm) : Bool := (!decide (t.kd = 2) || zfz m s t.nm t.wd) && (!decide (t.kd = 24) || decide (zgq t 0 = m.address))
def zng (m : MMach) (s : MInstr) (t : MTerm) : Bool := decide (zr1 t = 0) && t.nodes.all (zc5 m s)
def zme (m : MMach) (s : MInstr) (x : MEff) : Bool :=
 bif decide (x.kind = 1) then zmg x.addr && (zmg x.cond && (zng m s x.value && (bif decide (x.operand = -1) then inR x.reg 0 ((m.regs.length : Int) - 1) && decide (x.value.wd = zfi m x.reg) else decide (x.reg = 0) && (inR x.operand 0 ((s.operands.length : Int) - 1) && zlf m s x)))) else
 bif decide (x.kind = 2) then decide (x.operand = 0) && (decide (x.reg = 0) && (zmg x.cond && (zng m s x.addr && (decide (x.addr.wd = m.address) && (zng m s x.value && zl5 x.value.wd))))) else
 bif decide (x.kind = 3) then decide (x.operand = 0) && (decide (x.reg = 0) && (zmg x.addr && (zng m s x.value && (decide (x.value.wd = m.address) && (zmg x.cond || (zng m s x.cond && decide (x.cond.wd = 1))))))) else
 bif decide (x.kind = 4) then decide (x.operand = 0) && (decide (x.reg = 0) && (zmg x.addr && (zmg x.cond && zng m s x.value))) else false
def Dis {α : Type} (nm : α → ByteArray) (l : List α) : Prop := l.Pairwise fun x y => nm x ≠ nm y
theorem zq0 {α : Type} {nm : α → ByteArray} {v : α → Int} {n : ByteArray} : ∀ {l : List α} {T : List Bn}, Dis nm l →
  zdx n (l.foldl (fun t x => zoo (nm x) (v x) t) T) = match l.find? (fun x => decide (nm x = n)) with | some x => some (v x) | none => zdx n T
 | [], T, _ => rfl
 | x :: l, T, h => by
  rw [Dis, List.pairwise_cons] at h
  rw [List.foldl_cons, zq0 h.2, List.find?_cons, zhr]
  by_cases e : nm x = n
  ·have hn : l.find? (fun x => decide (nm x = n)) = none := by
    rw [List.find?_eq_none]
    intro y hy
    have := h.1 y hy
    rw [e] at this
    simpa using fun q => this q.symm
   simp [e, hn]
  ·simp [e, show ¬ n = nm x from fun q => e q.symm]
theorem zwz {m : MMach} {n : ByteArray} {w : Int} {z : Bool} : ∀ {l : List MOpd}, vopF m n w z l = match l.find? (fun x => decide (x.name = n)) with | some o => decide (w = zmb m o) | none => z
 | [] => rfl
 | o :: l => by
  rw [vopF, List.find?_cons, zwz]
  by_cases e : o.name = n <;> simp [e]
theorem zr4 {n : ByteArray} {w : Int} : ∀ {l : List MReg}, yajv n w l = match l.find? (fun x => decide (rDot ++ x.name = n)) with | some r => decide (w = r.width) | none => false
 | [] => rfl
 | o :: l => by
  rw [yajv, List.find?_cons, zr4]
  by_cases e : rDot ++ o.name = n <;> simp [e]
theorem yan8 {a b : ByteArray} (h : rDot ++ a = rDot ++ b) : a = b := by
 have := congrArg ByteArray.data h
 simp only [ByteArray.data_append] at this
 exact ByteArray.ext (Array.append_right_inj _ |>.1 this)
theorem yasx {a : ByteArray} : rDot ++ a ≠ pcN := by
 intro h
 have := congrArg ByteArray.data h
 simp only [ByteArray.data_append] at this
 have h0 := congrArg (fun x : Array UInt8 => x.toList.head?) this
 simp [rDot, pcN] at h0
theorem yaoe (m : MMach) (s : MInstr) (n : ByteArray) (w : Int) (hw : 1 ≤ w) (ho : Dis MOpd.name s.operands) (hp : ∀ o ∈ s.operands, o.name ≠ pcN) (hr : Dis MReg.name m.regs) :
  decide ((zdx n (zzc m s)).getD 0 = w) = zfz m s n w := by
 unfold zzc yaqf zfz
 have hr' : Dis (fun r : MReg => rDot ++ r.name) m.regs := hr.imp fun h e => h (yan8 e)
 rw [zq0 ho, zq0 hr', zwz, zr4]
 by_cases e : n = pcN
 ·subst e
  have h1 : s.operands.find? (fun x => decide (x.name = pcN)) = none := by
   rw [List.find?_eq_none]; intro o hm; simpa using hp o hm
  have h2 : m.regs.find? (fun x => decide (rDot ++ x.name = pcN)) = none := by
   rw [List.find?_eq_none]; intro o hm; simpa using yasx
  rw [h1, h2]
  simp only [zdx, decide_true, cond_true, Option.getD_some]
  rw [Bool.eq_iff_iff, decide_eq_true_iff, decide_eq_true_iff]; exact eq_comm
 ·simp only [e, decide_false, cond_false]
  cases s.operands.find? (fun x => decide (x.name = n)) with
  | some o => simp only [Option.getD_some]; rw [Bool.eq_iff_iff, decide_eq_true_iff, decide_eq_true_iff]; exact eq_comm
  | none =>
   cases m.regs.find? (fun x => decide (rDot ++ x.name = n)) with
   | some r => simp only [Option.getD_some]; rw [Bool.eq_iff_iff, decide_eq_true_iff, decide_eq_true_iff]; exact eq_comm
   | none =>
    simp only [zdx, e, decide_false, cond_false, Option.getD_none]
    exact decide_eq_false (by omega)
theorem zvu (m : MMach) (s : MInstr) (t : MTerm) (hk : zha t) (ho : Dis MOpd.name s.operands) (hp : ∀ o ∈ s.operands, o.name ≠ pcN) (hr : Dis MReg.name m.regs) : zng m s t = zgm m (zzc m s) t := by
 unfold zng zgm
 rw [zzb t hk]
 cases h : decide (zla t = 0) with
 | false => rfl
 | true =>
  simp only [Bool.true_and]
  have hn : zb6 t = true := by
   have h' := of_decide_eq_true h
   unfold zla at h'
   cases hs : zpe t with
   | true => rw [hs] at h'; simp at h'
   | false =>
    cases hb : zb6 t with
    | true => rfl
    | false => rw [hs, hb] at h'; simp at h'
  rw [Bool.eq_iff_iff, List.all_eq_true, List.all_eq_true]
  have key : ∀ x ∈ t.nodes, zc5 m s x = zo3 (zzc m s) m.address x := by
   intro x hx
   have hb := List.all_eq_true.1 hn x hx
   have hw : 1 ≤ x.wd := by
    unfold zic at hb
    have := (Bool.and_eq_true_iff.1 hb).1
    simp [inR] at this
    exact this.1
   unfold zc5 zo3
   by_cases k2 : x.kd = 2
   ·have k24 : ¬ x.kd = 24 := by omega
    simp only [k2, decide_true, cond_true, Bool.not_true, Bool.false_or]
    rw [yaoe m s x.nm x.wd hw ho hp hr]
    simp
   ·by_cases k24 : x.kd = 24
    ·simp [k24]
    ·simp [k2, k24]
  exact ⟨fun h x hx => by rw [← key x hx]; exact h x hx, fun h x hx => by rw [key x hx]; exact h x hx⟩
structure EffK (x : MEff) : Prop where
 a : zha x.addr
 v : zha x.value
 c : zha x.cond
theorem yas4 (m : MMach) (s : MInstr) (x : MEff) (hk : EffK x) (ho : Dis MOpd.name s.operands) (hp : ∀ o ∈ s.operands, o.name ≠ pcN) (hr : Dis MReg.name m.regs) : zme m s x = zow m s (zzc m s) x := by
 unfold zme zow
 rw [zvu m s _ hk.a ho hp hr, zvu m s _ hk.v ho hp hr, zvu m s _ hk.c ho hp hr]
 generalize zgm m (zzc m s) x.addr = ta
 generalize zgm m (zzc m s) x.value = tv
 generalize zgm m (zzc m s) x.cond = tc
 generalize zmg x.addr = na
 generalize zmg x.cond = nc
 generalize decide (x.value.wd = zfi m x.reg) = wr
 generalize decide (x.addr.wd = m.address) = wa
 generalize decide (x.value.wd = m.address) = wv
 generalize zl5 x.value.wd = lb
 generalize decide (x.cond.wd = 1) = c1
 generalize inR x.reg 0 ((m.regs.length : Int) - 1) = ir
 generalize zlf m s x = wi
 have hio : inR (-1) 0 ((s.operands.length : Int) - 1) = false := by simp [inR]
 have h10 : x.operand = -1 → decide (x.operand = 0) = false := fun e => by simp [e]
 by_cases k1 : x.kind = 1
 ·by_cases o1 : x.operand = -1
  ·simp only [k1, o1, decide_true, cond_true, Bool.true_or, Bool.true_and, hio, Bool.and_false, cond_false]
   cases na <;> cases nc <;> cases tv <;> cases ir <;> cases wr <;> rfl
  ·simp only [k1, o1, decide_true, decide_false, cond_true, Bool.true_or, Bool.true_and, Bool.false_and, cond_false]
   generalize inR x.operand 0 ((s.operands.length : Int) - 1) = io
   generalize decide (x.reg = 0) = r0
   cases na <;> cases nc <;> cases tv <;> cases io <;> cases wi <;> cases r0 <;> rfl
 ·generalize decide (x.operand = 0) = o0
  generalize decide (x.reg = 0) = r0
  generalize decide (x.kind = 2) = k2
  generalize decide (x.kind = 3) = k3
  generalize decide (x.kind = 4) = k4
  simp only [k1, decide_false, cond_false, Bool.false_or]
  cases o0 <;> cases r0 <;> cases k2 <;> cases k3 <;> cases k4 <;> simp only [Bool.false_and, Bool.and_false, cond_true, cond_false, Bool.true_and, Bool.and_true] <;>
   cases na <;> cases nc <;> cases tv <;> cases ta <;> cases tc <;> cases wa <;> cases wv <;> cases lb <;> cases c1 <;> rfl
set_option maxRecDepth 100000
set_option maxHeartbeats 4000000
theorem yabe {a b : ByteArray} (h : a.size + b.size ≤ 1152921504606846976) : zdi Tryz.prog .add 9 (.str a) (.str b) = some (.str (a ++ b)) := by
 show zf1 .add a b = _
 simp only [zf1, if_pos h]
theorem zua : rDot.size = 2 := rfl
abbrev vH (m : MMach) (ok : Bool) (s : MInstr) (T : List Bn) : Heap := ⟨3, [some (.cells 130 (ckC m ok)), some (.cells 69 (zcq s)), some (zqb T)]⟩
theorem zs5 {α β : Type} {f : β → α → β} {l : List α} {i : Nat} {b : β} (h : i < l.length) : (l.drop i).foldl f b = (l.drop (i + 1)).foldl f (f b l[i]) := by rw [List.drop_eq_getElem_cons h]; rfl
theorem zuq (m : MMach) (hB : Bd m) (hN : ∀ r ∈ m.regs, r.name.size < 1000000) (ok : Bool) (s : MInstr) : ∀ i, i ≤ m.regs.length → ∀ T, lim (some [0, 3, 5]) 1 (blk 0 (om Tryz.prog ⟨86, none⟩ 1 (.loop (lpb Tryz.f86 0)) ⟨⟨52, [(0, .ptr 0 0), (3, .ptr 1 0), (5, .map (some 2)), (21, .rsl (slA m.pr m.regs) m.pr.cap 4 (m.regs.map zgp)), (22, .int .i64 m.regs.length), (23, .int .i64 i)]⟩, [], vH m ok s T⟩)) =
  some (.normal, ⟨⟨52, [(0, .ptr 0 0), (3, .ptr 1 0), (5, .map (some 2))]⟩, [], vH m ok s ((m.regs.drop i).foldl (fun t r => zoo (rDot ++ r.name) r.width t) T)⟩) := by
 have hu := hB.r
 refine zbl (fun T => ?_) (fun i h ih T => ?_) <;> rw [zac]
 ·simp (maxSteps := 1000000) -implicitDefEqProofs only [↓reduceIte, ↓cond_true, ↓cond_false, sr1, sr2, kA, seval, d86, zs8, n86, e86, vH, List.drop_length, List.foldl_nil, zan, zav]
 ·rw [zs5 h]
  have hn := hN _ (List.getElem_mem h)
  simp (maxSteps := 1000000) -implicitDefEqProofs only [↓reduceIte, ↓cond_true, ↓cond_false, sr1, sr2, kA, seval, d86, zs8, n86, e86, vH, dlt_t h, wi_nat (show i < 2 ^ 62 by omega), ix_sl zab h, zgp, zan, zav, zqc, yabe (show rDot.size + m.regs[i].name.size ≤ 1152921504606846976 by rw [zua]; omega), ih, show (ByteArray.mk #[114, 46]) = rDot from rfl]
  trace_state
theorem zur (m : MMach) (ok : Bool) (s : MInstr) (hs : s.operands.length < 1000000) (hB : ∀ o ∈ s.operands, o.kind = 1 → zet m o) : ∀ i, i ≤ s.operands.length → ∀ T, lim (some [5]) 1 (blk 2 (om Tryz.prog ⟨86, none⟩ 1 (.loop (lpb Tryz.f86 1)) ⟨⟨52, [(0, .ptr 0 0), (5, .map (some 1)), (35, .rsl (slA s.po s.operands) s.po.cap 6 (s.operands.map zaq)), (36, .int .i64 s.operands.length), (37, .int .i64 i)]⟩, [], ⟨2, [some (.cells 130 (ckC m ok)), some (zqb T)]⟩⟩)) =
  some (.normal, ⟨⟨52, [(5, .map (some 1))]⟩, [], ⟨2, [some (.cells 130 (ckC m ok)), some (zqb ((s.operands.drop i).foldl (fun t o => zoo o.name (zmb m o) t) T))]⟩⟩) := by
 refine zbl (fun T => ?_) (fun i h ih T => ?_) <;> rw [zac]
 ·simp (maxSteps := 1000000) -implicitDefEqProofs only [↓reduceIte, ↓cond_true, ↓cond_false, sr1, sr2, kA, seval, d86, zs8, n86, e86, List.drop_length, List.foldl_nil, zan, zav]
 ·rw [zs5 h]
  have hw := zzf m s.operands[i] (hB _ (List.getElem_mem h))
  simp only [zag, zae, zaq] at hw
  simp (maxSteps := 1000000) -implicitDefEqProofs only [↓reduceIte, ↓cond_true, ↓cond_false, sr1, sr2, kA, seval, d86, zs8, n86, e86, dlt_t h, wi_nat (show i < 2 ^ 62 by omega), ix_sl zab h, zaq, zan, zav, zqc, hw, ih]
  trace_state
theorem zr3 (m : MMach) (hB : Bd m) (hN : ∀ r ∈ m.regs, r.name.size < 1000000) (ok : Bool) (s : MInstr) (hs : s.operands.length < 1000000) (hW : ∀ o ∈ s.operands, o.kind = 1 → zet m o) : zas Tryz.prog (om Tryz.prog) 86 [.ptr 0 0, zad s] (ckH m ok) = some (.map (some 1), ⟨2, [some (.cells 130 (ckC m ok)), some (zqb (zzc m s))]⟩) := by
 have L0 := zuq m hB hN ok s 0 (Nat.zero_le _)
 have L1 := zur m ok s hs hW 0 (Nat.zero_le _)
 simp only [Int.natCast_zero, List.drop_zero, vH] at L0 L1
 rw [yasg _ _ (by simp)]
 simp (maxSteps := 1000000) -implicitDefEqProofs only [↓reduceIte, ↓cond_true, ↓cond_false, sr1, sr2, kA, seval, d86, zs8, n86, e86, zad, yawo, zan, zav, zqc, zoo, L0, L1, zzc, yaqf, pcN]
 trace_state
abbrev tvH (m : MMach) (ok : Bool) (T : List Bn) : Heap := ⟨2, [some (.cells 130 (ckC m ok)), some (zqb T)]⟩
theorem ztw {t : MTerm} (h : zic t = true) (hk : t.kd = 24) : 0 < t.sub.length := by
 unfold zic at h
 rw [hk] at h
 have e : zdh 24 = true := by decide
 have e2 : zer 24 = 1 := by decide
 rw [e, e2] at h
 simp only [cond_true, Bool.and_eq_true, decide_eq_true_eq] at h
 omega
theorem yah1 (m : MMach) (T : List Bn) (p : Pl) (l : List MTerm) (hl : l.length < 2 ^ 62) (hS : ∀ x ∈ l, ∀ ok, zas Tryz.prog (om Tryz.prog) 141 [.ptr 0 0, .map (some 1), zaf x] (tvH m ok T) = some (.tup [], tvH m (ok && x.nodes.all (zo3 T m.address)) T)) :
  ∀ i, i ≤ l.length → ∀ ok, lim (some []) 2 (blk 1 (om Tryz.prog ⟨141, none⟩ 2 (.loop (lpb Tryz.f141 0)) ⟨⟨50, [(0, .ptr 0 0), (1, .map (some 1)), (39, .rsl (slA p l) p.cap 6 (l.map zaf)), (40, .int .i64 l.length), (41, .int .i64 i)]⟩, [], tvH m ok T⟩)) = some (.normal, ⟨⟨50, []⟩, [], tvH m (ok && (l.drop i).all (fun x => x.nodes.all (zo3 T m.address))) T⟩) := by
 refine zbl (fun ok => ?_) (fun i h ih ok => ?_) <;> rw [zac]
 ·simp (maxSteps := 1000000) -implicitDefEqProofs only [↓reduceIte, ↓cond_true, ↓cond_false, sr1, sr2, kA, seval, d141, zs7, n141, e141, tvH, List.drop_length, zan, zav]
 ·rw [List.drop_eq_getElem_cons h, List.all_cons]
  have hx := hS l[i] (List.getElem_mem h) ok
  simp only [tvH, zaf, zah] at hx ih
  simp (maxSteps := 1000000) -implicitDefEqProofs only [↓reduceIte, ↓cond_true, ↓cond_false, sr1, sr2, kA, seval, d141, zs7, n141, e141, tvH, dlt_t h, wi_nat (show i < 2 ^ 62 by omega), ix_sl zab h, zaf, zah, zan, zav, hx, ih, Bool.and_assoc]
theorem zzw (m : MMach) (T : List Bn) (t : MTerm) (hz : t.sz < 2 ^ 62) (hn : zb6 t = true) : ∀ ok, zas Tryz.prog (om Tryz.prog) 141 [.ptr 0 0, .map (some 1), zaf t] (tvH m ok T) = some (.tup [], tvH m (ok && t.nodes.all (zo3 T m.address)) T) := by
 refine zcc (Q := fun t => t.sz < 2 ^ 62 → zb6 t = true → ∀ ok, zas Tryz.prog (om Tryz.prog) 141 [.ptr 0 0, .map (some 1), zaf t] (tvH m ok T) = some (.tup [], tvH m (ok && t.nodes.all (zo3 T m.address)) T)) (fun t ih hz hn ok => ?_) t hz hn
 have hs := zeq t
 have hn' := hn
 unfold zb6 at hn'
 rw [zcx, Bool.and_eq_true, List.all_eq_true] at hn'
 have L := yah1 m T t.pl t.sub (by omega) (fun x hx => ih x hx (by have := zix hx; omega) (hn'.2 x hx)) 0 (Nat.zero_le _)
 simp only [tvH, Int.natCast_zero, List.drop_zero] at L
 rw [zcx]
 rw [yam3 _ _ (by simp)]
 cases h2 : decide (t.kd = 2) with
 | true => simp (maxSteps := 1000000) -implicitDefEqProofs only [↓reduceIte, ↓cond_true, ↓cond_false, sr1, sr2, kA, seval, d141, zs7, n141, e141, tvH, zaf, zah, zan, zav, yawp, h2, zcv, L, zo3, Bool.and_assoc]
 | false =>
  cases h24 : decide (t.kd = 24) with
  | true =>
   have h0 := ztw hn'.1 (of_decide_eq_true h24)
   have i0 := zcu h0
   have w0 := zce h0
   simp only [Int.natCast_zero] at i0
   simp (maxSteps := 1000000) -implicitDefEqProofs only [↓reduceIte, ↓cond_true, ↓cond_false, sr1, sr2, kA, seval, d141, zs7, n141, e141, tvH, zaf, zah, zan, zav, h2, h24, i0, w0, zcv, L, zo3, Bool.and_assoc]
  | false => simp (maxSteps := 1000000) -implicitDefEqProofs only [↓reduceIte, ↓cond_true, ↓cond_false, sr1, sr2, kA, seval, d141, zs7, n141, e141, tvH, zaf, zah, zan, zav, h2, h24, L, zo3, Bool.and_assoc]
theorem zpv {b j n sz : Nat} {k : IntKind} {i : Int} (h : (decide (0 ≤ i) && decide (i < (n : Int))) = true) : ixA sz (.sl b j n sz) (.int k i) = some (.ptr b (j * sz + i.toNat * sz)) := by
 simp only [Bool.and_eq_true, decide_eq_true_eq] at h
 obtain ⟨i, rfl⟩ := Int.eq_ofNat_of_zero_le h.1
 exact Go.Ab.ix_sl (by omega)
abbrev fH (m : MMach) (ok : Bool) (T : List Bn) (t : MTerm) : Heap := ⟨3, [some (.cells 130 (ckC m ok)), some (zqb T), some (.cells 81 t.cs)]⟩
theorem zon {t : MTerm} (h : decide (zla t = 0) = true) : zb6 t = true := by
 have h' := of_decide_eq_true h
 unfold zla at h'
 cases hs : zpe t with
 | true => rw [hs] at h'; simp at h'
 | false =>
  cases hb : zb6 t with
  | true => rfl
  | false => rw [hs, hb] at h'; simp at h'
theorem zh0 (m : MMach) (T : List Bn) (t : MTerm) (ho : TOk t) (ok : Bool) : zas Tryz.prog (om Tryz.prog) 123 [.ptr 0 0, .map (some 1), .sl 2 0 1 6] (fH m ok T t) = some (.tup [], fH m (ok && zgm m T t) T t) := by
 have hc := yaaw t ho
 simp only [zaf, zah] at hc
 rw [yamv _ _ (by simp)]
 rw [fH, zah]
 cases h : decide (zla t = 0) with
 | true =>
  have hl := zzw m T t ho.sz (zon h)
  simp only [tvH, zaf, zah] at hl
  cases ok with
  | true => simp (maxSteps := 1000000) -implicitDefEqProofs only [↓reduceIte, ↓cond_true, ↓cond_false, sr1, sr2, kA, seval, d123, n123, e123, fH, zac, zpv, zaf, zah, zan, zav, hc, h, zcv, hl, zgm]
  | false => simp (maxSteps := 1000000) -implicitDefEqProofs only [↓reduceIte, ↓cond_true, ↓cond_false, sr1, sr2, kA, seval, d123, n123, e123, fH, zac, zpv, zaf, zah, zan, zav, hc, h, zcv, hl, zgm]
 | false =>
  simp (maxSteps := 1000000) -implicitDefEqProofs only [↓reduceIte, ↓cond_true, ↓cond_false, sr1, sr2, kA, seval, d123, n123, e123, fH, zac, zpv, zaf, zah, zan, zav, hc, h, zcv, zgm]
theorem noN (t : MTerm) : (!decide (t.kd = 0) || !decide (t.wd = 0) || !decide (t.bt = 0) || !decide (t.nm = ByteArray.empty) || !decide (t.lo = 0) || decide (0 < (t.sub.length : Int))) = !zmg t := by
 obtain ⟨k, w, b, n, l, p, sub⟩ := t
 have e : decide (0 < (sub.length : Int)) = !decide ((sub.length : Int) = 0) := by
  by_cases q : (sub.length : Int) = 0
  ·rw [q]; rfl
  ·rw [decide_eq_false q, decide_eq_true (show 0 < (sub.length : Int) by omega)]; rfl
 show (!decide (k = 0) || !decide (w = 0) || !decide (b = 0) || !decide (n = ByteArray.empty) || !decide (l = 0) || decide (0 < (sub.length : Int))) = !(decide (k = 0) && decide (w = 0) && decide (b = 0) && decide (n = ByteArray.empty) && decide (l = 0) && decide ((sub.length : Int) = 0))
 rw [e]
 simp only [Bool.not_and]
theorem zrf (t : MTerm) : zas Tryz.prog (om Tryz.prog) 124 [.sl 0 0 1 6] ⟨1, [some (.cells 81 t.cs)]⟩ = some (.bool (zmg t), ⟨1, [some (.cells 81 t.cs)]⟩) := by
 rw [yab5 _ _ (by simp)]
 simp (maxSteps := 1000000) -implicitDefEqProofs only [↓reduceIte, ↓cond_true, ↓cond_false, sr1, sr2, kA, seval, d124, n124, e124, zac, zpv, zah, noN, Bool.not_not]
theorem ztx (a b : MTerm) : zas Tryz.prog (om Tryz.prog) 124 [.sl 0 0 2 6] ⟨1, [some (.cells 81 (a.cs ++ b.cs))]⟩ = some (.bool (zmg a && zmg b), ⟨1, [some (.cells 81 (a.cs ++ b.cs))]⟩) := by
 rw [yab5 _ _ (by simp)]
 cases ha : zmg a with
 | true => simp (maxSteps := 1000000) -implicitDefEqProofs only [↓reduceIte, ↓cond_true, ↓cond_false, sr1, sr2, kA, seval, d124, n124, e124, zac, zpv, zah, noN, Bool.not_not, ha]
 | false => simp (maxSteps := 1000000) -implicitDefEqProofs only [↓reduceIte, ↓cond_true, ↓cond_false, sr1, sr2, kA, seval, d124, n124, e124, zac, zpv, zah, noN, Bool.not_not, ha]
structure EOk (x : MEff) : Prop where
 a : TOk x.addr
 v : TOk x.value
 c : TOk x.cond
theorem zbr (x : MEff) : zr9 x = .agg [.int .u8 x.kind, .int .i64 x.operand, .int .i64 x.reg, .int .u8 x.addr.kd, .int .i64 x.addr.wd, .int .u64 x.addr.bt, .str x.addr.nm, .int .i64 x.addr.lo, .rsl (slA x.addr.pl x.addr.sub) x.addr.pl.cap 6 (x.addr.sub.map zaf), .int .u8 x.value.kd, .int .i64 x.value.wd, .int .u64 x.value.bt, .str x.value.nm, .int .i64 x.value.lo, .rsl (slA x.value.pl x.value.sub) x.value.pl.cap 6 (x.value.sub.map zaf), .int .u8 x.cond.kd, .int .i64 x.cond.wd, .int .u64 x.cond.bt, .str x.cond.nm, .int .i64 x.cond.lo, .rsl (slA x.cond.pl x.cond.sub) x.cond.pl.cap 6 (x.cond.sub.map zaf)] := by
 simp only [zr9, effC, zah]; rfl
theorem yayu (m : MMach) (s : MInstr) (x : MEff) (T : List Bn) (ho : EOk x) (h1 : decide (x.kind = 1) = false) (h2 : decide (x.kind = 2) = false) (h3 : decide (x.kind = 3) = false) (ok : Bool) :
  zas Tryz.prog (om Tryz.prog) 87 [.ptr 0 0, zad s, zr9 x, .map (some 1)] (tvH m ok T) = some (.tup [], tvH m (ok && zow m s T x) T) := by
 have hF := fun ok => zh0 m T x.value ho.v ok
 have hN := ztx x.addr x.cond
 simp only [fH, zah, List.cons_append, List.nil_append] at hF hN
 rw [zbr]
 rw [zso _ _ (by simp)]
 cases h4 : decide (x.kind = 4) with
 | true => simp (maxSteps := 1000000) -implicitDefEqProofs only [↓reduceIte, ↓cond_true, ↓cond_false, sr1, sr2, kA, seval, d87, zoy, zik, zil, zim, zin, n87, zo6, zo7, tvH, zad, zan, zav, h1, h2, h3, h4, hF, hN, zcv, zc7, zow, Bool.and_assoc]
 | false => simp (maxSteps := 1000000) -implicitDefEqProofs only [↓reduceIte, ↓cond_true, ↓cond_false, sr1, sr2, kA, seval, d87, zoy, zik, zil, zim, zin, n87, zo6, zo7, tvH, zad, zan, zav, h1, h2, h3, h4, hF, hN, zcv, zc7, zow, Bool.and_assoc]
theorem yayt (m : MMach) (s : MInstr) (x : MEff) (T : List Bn) (ho : EOk x) (h3 : x.kind = 3) (ok : Bool) :
  zas Tryz.prog (om Tryz.prog) 87 [.ptr 0 0, zad s, zr9 x, .map (some 1)] (tvH m ok T) = some (.tup [], tvH m (ok && zow m s T x) T) := by
 have hF := fun ok => zh0 m T x.value ho.v ok
 have hG := fun ok => zh0 m T x.cond ho.c ok
 have hN := zrf x.addr
 have hM := zrf x.cond
 simp only [fH, zah, List.cons_append, List.nil_append] at hF hG hN hM
 rw [zbr]
 rw [zso _ _ (by simp)]
 cases hc : zmg x.cond with
 | true => simp (maxSteps := 1000000) -implicitDefEqProofs only [↓reduceIte, ↓cond_true, ↓cond_false, sr1, sr2, kA, seval, d87, zoy, zik, zil, zim, zin, n87, zo6, zo7, tvH, zad, zan, zav, h3, hF, hN, hM, hc, zcv, zc7, zow, Bool.and_assoc]
 | false => simp (maxSteps := 1000000) -implicitDefEqProofs only [↓reduceIte, ↓cond_true, ↓cond_false, sr1, sr2, kA, seval, d87, zoy, zik, zil, zim, zin, n87, zo6, zo7, tvH, zad, zan, zav, h3, hF, hG, hN, hM, hc, zcv, zc7, zow, Bool.and_assoc]
theorem yax0 (w : Int) (a : Option Addr) (c : Nat) (h : okS a ([8, 16, 32, 64].map zat) = true) : zas Tryz.prog (om Tryz.prog) 70 [.rsl a c 1 [.int .i64 8, .int .i64 16, .int .i64 32, .int .i64 64], .int .i64 w] ⟨0, []⟩ = some (.bool (zl5 w), ⟨0, []⟩) := by
 have := zf3 a c [8, 16, 32, 64] w h (by decide)
 simpa [zv0, zl5, zat] using this
theorem yays (m : MMach) (s : MInstr) (x : MEff) (T : List Bn) (ho : EOk x) (h2 : x.kind = 2) (ok : Bool) :
  zas Tryz.prog (om Tryz.prog) 87 [.ptr 0 0, zad s, zr9 x, .map (some 1)] (tvH m ok T) = some (.tup [], tvH m (ok && zow m s T x) T) := by
 have hF := fun ok => zh0 m T x.value ho.v ok
 have hG := fun ok => zh0 m T x.addr ho.a ok
 have hM := zrf x.cond
 have hC := fun a c => yax0 x.value.wd (some a) c rfl
 simp only [fH, zah, List.cons_append, List.nil_append] at hF hG hM
 rw [zbr]
 rw [zso _ _ (by simp)]
 simp (maxSteps := 1000000) -implicitDefEqProofs only [↓reduceIte, ↓cond_true, ↓cond_false, sr1, sr2, kA, seval, d87, zoy, zik, zil, zim, zin, n87, zo6, zo7, tvH, zad, zan, zav, h2, hF, hG, hM, hC, zcv, zc7, zo5, zow, Bool.and_assoc]
theorem yayr (m : MMach) (hB : Bd m) (s : MInstr) (hs : s.operands.length < 1000000) (hW : ∀ o ∈ s.operands, o.kind = 1 → zet m o) (x : MEff) (T : List Bn) (ho : EOk x) (h1 : x.kind = 1) (ok : Bool) :
  zas Tryz.prog (om Tryz.prog) 87 [.ptr 0 0, zad s, zr9 x, .map (some 1)] (tvH m ok T) = some (.tup [], tvH m (ok && zow m s T x) T) := by
 have hF := fun ok => zh0 m T x.value ho.v ok
 have hN := ztx x.addr x.cond
 simp only [fH, zah, List.cons_append, List.nil_append] at hF hN
 rw [zbr]
 cases c1 : (decide (x.operand = -1) && inR x.reg 0 ((m.regs.length : Int) - 1)) with
 | true =>
  rw [Bool.and_eq_true] at c1
  obtain ⟨z0, z1⟩ := zc4 c1.2
  rw [zso _ _ (by simp)]
  simp (maxSteps := 1000000) -implicitDefEqProofs only [↓reduceIte, ↓cond_true, ↓cond_false, sr1, sr2, kA, seval, d87, zoy, zik, zil, zim, zin, n87, zo6, zo7, tvH, zad, zan, zav, h1, hF, hN, c1.1, c1.2, zai, zam hB.r, ix_z zab z0 z1, zgp, zcv, zow, Bool.and_assoc, zct z1]
 | false =>
  have c1' := c1
  rw [zso _ _ (by simp)]
  cases d1 : decide (x.operand = -1) with
  | true =>
   have e1 := of_decide_eq_true d1
   rw [d1, Bool.true_and] at c1'
   have c4 : inR (-1) 0 ((s.operands.length : Int) - 1) = false := by simp [inR]
   simp (maxSteps := 1000000) -implicitDefEqProofs only [↓reduceIte, ↓cond_true, ↓cond_false, sr1, sr2, kA, seval, d87, zoy, zik, zil, zim, zin, n87, zo6, zo7, tvH, zad, zan, zav, h1, hF, hN, e1, c1', zai, zam hB.r, zam hs, c4, zcv, zow, Bool.and_assoc]
  | false =>
   cases c3 : (decide (x.reg = 0) && inR x.operand 0 ((s.operands.length : Int) - 1)) with
   | true =>
    rw [Bool.and_eq_true] at c3
    obtain ⟨z0, z1⟩ := zc4 c3.2
    have hw := zzf m s.operands[x.operand.toNat] (hW _ (List.getElem_mem z1))
    simp only [zag, zae, zaq] at hw
    simp (maxSteps := 1000000) -implicitDefEqProofs only [↓reduceIte, ↓cond_true, ↓cond_false, sr1, sr2, kA, seval, d87, zoy, zik, zil, zim, zin, n87, zo6, zo7, tvH, zad, zan, zav, h1, hF, hN, d1, c3.1, c3.2, zai, zam hs, ix_z zab z0 z1, zaq, hw, zcv, zc7, zow, zlf, zi4 z1, Bool.and_assoc]
   | false =>
    cases d3 : decide (x.reg = 0) with
    | true =>
     rw [d3, Bool.true_and] at c3
     simp (maxSteps := 1000000) -implicitDefEqProofs only [↓reduceIte, ↓cond_true, ↓cond_false, sr1, sr2, kA, seval, d87, zoy, zik, zil, zim, zin, n87, zo6, zo7, tvH, zad, zan, zav, h1, hF, hN, d1, d3, c3, zai, zam hs, zcv, zow, Bool.and_assoc]
    | false =>
     simp (maxSteps := 1000000) -implicitDefEqProofs only [↓reduceIte, ↓cond_true, ↓cond_false, sr1, sr2, kA, seval, d87, zoy, zik, zil, zim, zin, n87, zo6, zo7, tvH, zad, zan, zav, h1, hF, hN, d1, d3, zcv, zow, Bool.and_assoc]
theorem zzo (m : MMach) (hB : Bd m) (s : MInstr) (hs : s.operands.length < 1000000) (hW : ∀ o ∈ s.operands, o.kind = 1 → zet m o) (x : MEff) (T : List Bn) (ho : EOk x) (ok : Bool) :
  zas Tryz.prog (om Tryz.prog) 87 [.ptr 0 0, zad s, zr9 x, .map (some 1)] (tvH m ok T) = some (.tup [], tvH m (ok && zow m s T x) T) := by
 by_cases h1 : x.kind = 1
 ·exact yayr m hB s hs hW x T ho h1 ok
 by_cases h2 : x.kind = 2
 ·exact yays m s x T ho h2 ok
 by_cases h3 : x.kind = 3
 ·exact yayt m s x T ho h3 ok
 exact yayu m s x T ho (decide_eq_false h1) (decide_eq_false h2) (decide_eq_false h3) ok
theorem zjg {a b : Int} : zb8 .andNot .u64 a b = some (.int .u64 (zku a b)) := rfl
abbrev iH (m : MMach) (ok : Bool) (s : MInstr) (l : List ByteArray) : Heap := ⟨4, [some (.cells 130 (ckC m ok)), some (.cells 69 (zcq s)), some (.cells 136 [.sl 3 0 l.length 1]), some (.cells 9 (l.map AV.str))]⟩
theorem zs0 : ∀ {l : List MPiece} {a : Int}, 0 ≤ a → (∀ p ∈ l, 0 ≤ p.len ∧ p.len ≤ 1000) → a + 1000 * l.length ≤ 1000000000000 → a ≤ zfm a l
 | [], a, h0, _, _ => Int.le_refl a
 | p :: l, a, h0, hp, hb => by
  have hq := hp p (by simp)
  simp only [List.length_cons] at hb
  have e : IntKind.i64.wrap (a + p.len) = a + p.len := zdr (by omega) (by omega)
  have := zs0 (l := l) (a := a + p.len) (by omega) (fun q hq => hp q (by simp [hq])) (by omega)
  show a ≤ zfm (IntKind.i64.wrap (a + p.len)) l
  rw [e]; omega
theorem yahf {m : MMach} (h1 : 1 ≤ m.word) (h2 : m.word ≤ 4) {o : MOpd} (ho : o.pieces.length < 1000000) {ok : Bool} (h : (zje m.word o.pieces ok 0).2.1 = true) : 0 ≤ zao o := by
 obtain ⟨_, ha, _⟩ := (zrl h1 h2).1.1 h
 refine zs0 (Int.le_refl 0) (fun p hp => ?_) (by omega)
 have := List.all_eq_true.1 ha p hp
 have e8 : IntKind.i64.wrap (8 * m.word) = 8 * m.word := zdr (by omega) (by omega)
 simp only [zcp, inR, e8, Bool.and_eq_true, decide_eq_true_eq] at this
 omega
structure IOk (s : MInstr) : Prop where
 o : s.operands.length < 100000
 p : ∀ o ∈ s.operands, o.pieces.length < 1000000
 n : ∀ o ∈ s.operands, o.name.size < 2 ^ 62
 e : s.effects.length < 1000000
 t : ∀ x ∈ s.effects, EOk x
theorem yaem {m : MMach} {s : MInstr} {i : Nat} (h : i < s.operands.length) {ok : Bool} {ns : List ByteArray} {t : Int} : zwf m s i (s.operands.drop i) ok ns t =
  zwf m s (i + 1) (s.operands.drop (i + 1)) ((zid m s i s.operands[i] (ok && (za3 s.operands[i].name && !zlm ns s.operands[i].name))).1 && decide (andI t (zid m s i s.operands[i] (ok && (za3 s.operands[i].name && !zlm ns s.operands[i].name))).2 = 0)) (ns ++ [s.operands[i].name]) (orI t (zid m s i s.operands[i] (ok && (za3 s.operands[i].name && !zlm ns s.operands[i].name))).2) := by
 rw [List.drop_eq_getElem_cons h]; rfl
theorem yahu (m : MMach) (hB : Bd m) (h1 : 1 ≤ m.word) (h2 : m.word ≤ 4) (s : MInstr) (hs : IOk s) : ∀ i, i ≤ s.operands.length → ∀ ok l t, l.length + (s.operands.length - i) < 1000000 →
  lim (some [0, 3]) 1 (blk 0 (om Tryz.prog ⟨60, none⟩ 1 (.loop (lpb Tryz.f60 0)) ⟨⟨136, [(0, .ptr 0 0), (3, .ptr 1 0), (4, .ptr 2 0), (5, .int .u64 t), (39, .rsl (slA s.po s.operands) s.po.cap 6 (s.operands.map zaq)), (40, .int .i64 s.operands.length), (41, .int .i64 i)]⟩, [], iH m ok s l⟩)) =
  some (.normal, ⟨⟨136, [(0, .ptr 0 0), (3, .ptr 1 0)]⟩, [], ⟨2, [some (.cells 130 (ckC m (zwf m s i (s.operands.drop i) ok l t).1)), some (.cells 69 (zcq s))]⟩⟩) := by
 have hu : s.operands.length < 1000000 := by have := hs.o; omega
 refine zbl (fun ok l t hl => ?_) (fun i h ih ok l t hl => ?_) <;> rw [zac]
 ·simp (maxSteps := 1000000) -implicitDefEqProofs only [↓reduceIte, ↓cond_true, ↓cond_false, sr1, sr2, kA, seval, d60, zq6, zjt, n60, zre, e60, iH, List.drop_length, zwf]
 ·have hm := List.getElem_mem h
  have L := fun ok t => ih ok (l ++ [s.operands[i].name]) t (by simp; omega)
  have hq := zgy l _ (hs.n _ hm) (by omega)
  have hO := zwe m hB s i h hu (hs.p _ hm) (ok && (za3 s.operands[i].name && !zlm l s.operands[i].name)) (fun e => yahf h1 h2 (hs.p _ hm) e)
  rw [yaem h]
  generalize zid m s i s.operands[i] (ok && (za3 s.operands[i].name && !zlm l s.operands[i].name)) = r at hO ⊢
  simp only [iH, List.length_append, List.length_cons, List.length_nil, List.map_append, List.map_cons, List.map_nil, Nat.zero_add, zad] at L hO
  simp (maxSteps := 1000000) -implicitDefEqProofs only [↓reduceIte, ↓cond_true, ↓cond_false, sr1, sr2, kA, seval, d60, zq6, zjt, n60, zre, e60, iH, dlt_t h, wi_nat (show i < 2 ^ 62 by omega), ix_sl zab h, zaq, zcv, hq, hO, yabt, yalo, L, Bool.and_assoc]
def tabU (T : List (Int × Int)) : Blk := .map (zjc (AV.int .u8) (AV.int .i64) 0 T) T.length
theorem zza : Blk.map [] 0 = tabU [] := rfl
theorem zfy {T : List (Int × Int)} : (tabU T).refs = [] := zqv (fun _ => rfl) (fun _ => rfl)
theorem zia {T : List (Int × Int)} {ρ : Nat → Nat} : (tabU T).ren ρ = tabU T := yacp (fun _ => rfl) (fun _ => rfl)
theorem zom {T : List (Int × Int)} {n z : Int} : lkK .int (.int .i64 z) (.int .u8 n) false (entB (some (tabU T))) = some (.int .i64 ((zdx n T).getD z)) := by
 unfold tabU; rw [entB_some, lk_some kf_int]; exact yald (yadq .u8)
theorem yap9 {T : List (Int × Int)} {n w : Int} {H : Heap} {b : Nat} : muO .int H b (.int .u8 n) (.int .i64 w) (some (tabU T)) = some (H.set b (tabU (zoo n w T))) := by
 unfold tabU; rw [mu_some kf_int]; exact yalh (yadq .u8) rfl
def kst (T : List (Int × Int)) (x : MEff) : List (Int × Int) := zoo x.kind (IntKind.i64.wrap ((zdx x.kind T).getD 0 + 1)) T
def ztm (l : List MEff) (T : List (Int × Int)) : List (Int × Int) := l.foldl kst T
theorem ztn {k : Int} : ∀ {l : List MEff} {T : List (Int × Int)}, (∀ j, 0 ≤ (zdx j T).getD 0 ∧ (zdx j T).getD 0 + l.length ≤ 1000000) → (zdx k (ztm l T)).getD 0 = (zdx k T).getD 0 + (l.countP fun x => decide (x.kind = k) : Nat)
 | [], T, _ => by simp [ztm]
 | x :: l, T, h => by
  have hx := h x.kind
  simp only [List.length_cons] at hx h
  have e : IntKind.i64.wrap ((zdx x.kind T).getD 0 + 1) = (zdx x.kind T).getD 0 + 1 := zdr (by omega) (by omega)
  have h' : ∀ j, 0 ≤ (zdx j (kst T x)).getD 0 ∧ (zdx j (kst T x)).getD 0 + l.length ≤ 1000000 := by
   intro j
   unfold kst
   rw [zhr, e]
   by_cases q : j = x.kind
   ·simp only [q, decide_true, cond_true, Option.getD_some]; omega
   ·simp only [q, decide_false, cond_false]; have := h j; omega
  have ih := ztn (k := k) h'
  unfold ztm at ih ⊢
  rw [List.foldl_cons, ih, List.countP_cons]
  unfold kst
  rw [zhr, e]
  by_cases q : k = x.kind
  ·subst q; simp; omega
  ·simp [q, show ¬ x.kind = k from fun q' => q q'.symm]
theorem yahv (m : MMach) (hB : Bd m) (s : MInstr) (hs : IOk s) (hW : ∀ o ∈ s.operands, o.kind = 1 → zet m o) (T : List Bn) : ∀ i, i ≤ s.effects.length → ∀ ok K, lim (some [0, 3, 10]) 1 (blk 2 (om Tryz.prog ⟨60, none⟩ 1 (.loop (lpb Tryz.f60 1)) ⟨⟨136, [(0, .ptr 0 0), (3, .ptr 1 0), (9, .map (some 2)), (10, .map (some 3)), (77, .rsl (slA s.pe s.effects) s.pe.cap 21 (s.effects.map zr9)), (78, .int .i64 s.effects.length), (79, .int .i64 i)]⟩, [], ⟨4, [some (.cells 130 (ckC m ok)), some (.cells 69 (zcq s)), some (zqb T), some (tabU K)]⟩⟩)) =
  some (.normal, ⟨⟨136, [(0, .ptr 0 0), (3, .ptr 1 0), (10, .map (some 2))]⟩, [], ⟨3, [some (.cells 130 (ckC m (ok && (s.effects.drop i).all (zow m s T)))), some (.cells 69 (zcq s)), some (tabU (ztm (s.effects.drop i) K))]⟩⟩) := by
 have hu := hs.e
 refine zbl (fun ok K => ?_) (fun i h ih ok K => ?_) <;> rw [zac]
 ·simp (maxSteps := 1000000) -implicitDefEqProofs only [↓reduceIte, ↓cond_true, ↓cond_false, sr1, sr2, kA, seval, d60, zq6, zjt, n60, zre, e60, List.drop_length, ztm, List.foldl_nil, zan, zav, zfy, zia]
 ·have hE := zzo m hB s (by have := hs.o; omega) hW s.effects[i] T (hs.t _ (List.getElem_mem h)) ok
  have ek : ztm (s.effects.drop i) K = ztm (s.effects.drop (i + 1)) (kst K s.effects[i]) := by rw [List.drop_eq_getElem_cons h]; rfl
  rw [ek, List.drop_eq_getElem_cons h, List.all_cons, kst]
  simp only [tvH, zad, zbr] at hE
  simp (maxSteps := 1000000) -implicitDefEqProofs only [↓reduceIte, ↓cond_true, ↓cond_false, sr1, sr2, kA, seval, d60, zq6, zjt, n60, zre, e60, dlt_t h, wi_nat (show i < 2 ^ 62 by omega), ix_sl zab h, zbr, zan, zav, zfy, zia, zom, yap9, hE, ih, Bool.and_assoc]
theorem zft {α : Type} {nm : α → ByteArray} {q : α → Bool} {us : List α} (h : zbj nm q us [] = true) {u : α} (hu : u ∈ us) : za3 (nm u) = true ∧ q u = true := by
 rw [zdg (i := 0), zh8] at h
 obtain ⟨i, hi, rfl⟩ := List.getElem_of_mem hu
 obtain ⟨h1, h2, _⟩ := h i us[i] (List.getElem?_eq_getElem hi)
 exact ⟨h1, h2⟩
theorem ztu {s : ByteArray} (h : za3 s = true) : s.size ≤ 24 := by
 unfold za3 at h
 simp only [Bool.and_eq_true, Bool.not_eq_true', Bool.or_eq_false_iff, decide_eq_false_iff_not] at h
 omega
theorem zu6 {m : MMach} (hb : zdc m = true) {o : MOpd} (h : inR o.bank 0 ((m.banks.length : Int) - 1) = true) : zet m o := by
 obtain ⟨z0, z1⟩ := zc4 h
 obtain ⟨_, hq⟩ := zft hb (List.getElem_mem z1)
 simp only [zm1, Bool.and_eq_true, decide_eq_true_eq] at hq
 have h0 : 0 < m.banks[o.bank.toNat].regs.length := by omega
 have hp := za5.1 hq.2 0 (Nat.zero_le _) h0
 simp only [zsd, Bool.and_eq_true] at hp
 have hr := hp.1.1
 rw [za2 h0] at hr
 obtain ⟨r0, r1⟩ := zc4 hr
 exact ⟨z1, z0, h0, r0, r1⟩
theorem yaum {m : MMach} {s : MInstr} (h1 : 1 ≤ m.word) (h2 : m.word ≤ 4) (hb : zdc m = true) {ok : Bool} {l : List ByteArray} {t : Int} (h : (zwf m s 0 s.operands ok l t).1 = true) : ∀ o ∈ s.operands, o.kind = 1 → zet m o := by
 intro o ho hk
 obtain ⟨_, hq, _⟩ := (zh4 h1 h2).1 h
 rw [zh8] at hq
 obtain ⟨i, hi, rfl⟩ := List.getElem_of_mem ho
 obtain ⟨_, q2, _⟩ := hq i _ (List.getElem?_eq_getElem hi)
 simp only [opQ, zbx, Bool.and_eq_true, hk, decide_true, cond_true] at q2
 exact zu6 hb q2.2.1.1
theorem yapl {m : MMach} {s : MInstr} (h1 : 1 ≤ m.word) (h2 : m.word ≤ 4) {ok : Bool} {ns : List ByteArray} {t : Int} : (zwf m s 0 s.operands ok ns t).1 = (ok && (zwf m s 0 s.operands true ns t).1) := by
 rw [Bool.eq_iff_iff, Bool.and_eq_true, zh4 h1 h2, zh4 h1 h2]
 simp
theorem yaxn (m : MMach) (hB : Bd m) (s : MInstr) : zpd m s = (decide ((zov 3 s : Int) ≤ 1) && ((decide ((zov 4 s : Int) = 0) || decide ((s.effects.length : Int) = 1)) && (inR s.unit 0 ((m.units.length : Int) - 1) && (inR s.busy 1 15 && (inR s.latency 1 15 && (inR s.slots 0 2 && (decide (s.slots = 0) || decide ((zov 3 s : Int) = 1)))))))) := rfl
theorem zth (m : MMach) (hB : Bd m) (h1 : 1 ≤ m.word) (h2 : m.word ≤ 4) (hr : zie m = true) (hb : zdc m = true) (s : MInstr) (hs : IOk s) (ok : Bool) : zas Tryz.prog (om Tryz.prog) 60 [.ptr 0 0, zad s] (ckH m ok) = some (.tup [], ckH m (ok && zfq m s)) := by
 have hN : ∀ r ∈ m.regs, r.name.size < 1000000 := fun r hm => by
  unfold zie at hr
  rw [Bool.and_eq_true] at hr
  have := ztu (zft hr.2 hm).1
  omega
 have L0 := fun ok => yahu m hB h1 h2 s hs 0 (Nat.zero_le _) ok [pcN] s.mask (by have := hs.o; simp; omega)
 simp only [iH, Int.natCast_zero, List.drop_zero, List.length_cons, List.length_nil, List.map_cons, List.map_nil, Nat.zero_add] at L0
 have hp : (ByteArray.mk #[112, 99]) = pcN := rfl
 have hm := zrd (IntKind.i64.wrap (8 * m.word))
 generalize ea : decide (zku s.mask (zi6 (IntKind.i64.wrap (8 * m.word))) = 0) = a
 generalize eb : decide (zku s.mat s.mask = 0) = b
 have eo := yapl (m := m) (s := s) h1 h2 (ok := ok && (a && b)) (ns := [pcN]) (t := s.mask)
 cases ho : (zwf m s 0 s.operands (ok && (a && b)) [pcN] s.mask).1 with
 | false =>
  rw [ho] at eo
  have hz : (ok && zfq m s) = false := by
   unfold zfq
   rw [ea, eb, ← Bool.and_assoc, ← Bool.and_assoc, ← eo]; rfl
  rw [hz]
  rw [yaj7 _ _ (by simp)]
  simp (maxSteps := 1000000) -implicitDefEqProofs only [↓reduceIte, ↓cond_true, ↓cond_false, sr1, sr2, kA, seval, d60, zq6, zjt, n60, zre, e60, zad, hm, zjg, ea, eb, zc7, hp, L0, ho]
 | true =>
  rw [ho] at eo
  have hx : ok = true ∧ a = true ∧ b = true ∧ (zwf m s 0 s.operands true [pcN] s.mask).1 = true := by simpa [Bool.and_assoc] using eo.symm
  obtain ⟨rfl, rfl, rfl, ht⟩ := hx
  have hW := yaum h1 h2 hb ht
  have hV := zr3 m hB hN true s (by have := hs.o; omega) hW
  have L1 := yahv m hB s hs hW (zzc m s) 0 (Nat.zero_le _) true []
  have hk : ∀ k, (zdx k (ztm s.effects [])).getD 0 = (zov k s : Int) := fun k => by
   have := ztn (k := k) (l := s.effects) (T := []) (fun j => by have := hs.e; simp [zdx]; omega)
   rw [this]; simp [zdx, zov]
  simp only [Int.natCast_zero, List.drop_zero, zad, vH] at L1 hV
  have hI : zfq m s = (s.effects.all (zow m s (zzc m s)) && zpd m s) := by
   unfold zfq; rw [ea, eb, ht]; rfl
  rw [hI]
  rw [yaj7 _ _ (by simp)]
  cases c1 : decide ((zov 4 s : Int) = 0) with
  | true =>
   cases c2 : decide (s.slots = 0) with
   | true => simp (maxSteps := 1000000) -implicitDefEqProofs only [↓reduceIte, ↓cond_true, ↓cond_false, sr1, sr2, kA, seval, d60, zq6, zjt, n60, zre, e60, zad, hm, zjg, ea, eb, zc7, hp, L0, ht, hV, zza, zan, zav, zfy, zia, zom, L1, hk, c1, c2, zai, zam hB.u, yaid, zpd, Bool.and_assoc]
   | false => simp (maxSteps := 1000000) -implicitDefEqProofs only [↓reduceIte, ↓cond_true, ↓cond_false, sr1, sr2, kA, seval, d60, zq6, zjt, n60, zre, e60, zad, hm, zjg, ea, eb, zc7, hp, L0, ht, hV, zza, zan, zav, zfy, zia, zom, L1, hk, c1, c2, zai, zam hB.u, yaid, zpd, Bool.and_assoc]
  | false =>
   cases c2 : decide (s.slots = 0) with
   | true => simp (maxSteps := 1000000) -implicitDefEqProofs only [↓reduceIte, ↓cond_true, ↓cond_false, sr1, sr2, kA, seval, d60, zq6, zjt, n60, zre, e60, zad, hm, zjg, ea, eb, zc7, hp, L0, ht, hV, zza, zan, zav, zfy, zia, zom, L1, hk, c1, c2, zai, zam hB.u, yaid, zpd, Bool.and_assoc]
   | false => simp (maxSteps := 1000000) -implicitDefEqProofs only [↓reduceIte, ↓cond_true, ↓cond_false, sr1, sr2, kA, seval, d60, zq6, zjt, n60, zre, e60, zad, hm, zjg, ea, eb, zc7, hp, L0, ht, hV, zza, zan, zav, zfy, zia, zom, L1, hk, c1, c2, zai, zam hB.u, yaid, zpd, Bool.and_assoc]
end Go.Proofs.YtibehelnfbcnjaaGreatDoor.v
