/- What the law's proof leans on, part 23. Conditions: in each statement. -/
import Derived.Test.YtcfcphhamfhfcaaGreatDoorQ1
import Derived.Test.YtcfcphhamfhfcaaGreatDoorQ3
set_option linter.all false
namespace Go.Proofs.YtcfcphhamfhfcaaGreatDoor.v
open Go Go.Ab
set_option maxRecDepth 10000
set_option linter.unusedSimpArgs false
set_option linter.unusedVariables false
def tb (a : Int) (i : Nat) : Bool := (BitVec.ofInt 64 a).getLsbD i
theorem zh5 (n : Nat) (h : n < 2 ^ 64) : IntKind.u64.wrap (n : Int) = (n : Int) := by
 simp only [IntKind.wrap, IntKind.bits, IntKind.signed]
 simp
 omega
theorem zxy (x : BitVec 64) : BitVec.ofInt 64 (IntKind.u64.wrap (x.toNat : Int)) = x := by
 rw [zh5 _ x.isLt]
 simp
theorem ya8z (a b : Int) (i : Nat) : tb (zzo a b) i = (tb a i && tb b i) := by
 unfold tb zzo; rw [zxy, BitVec.getLsbD_and]
theorem yaiw (a b : Int) (i : Nat) : tb (orI a b) i = (tb a i || tb b i) := by
 unfold tb orI; rw [zxy, BitVec.getLsbD_or]
theorem zsu {n : Nat} (h : n < 2 ^ 64) (i : Nat) : tb (n : Int) i = n.testBit i := by
 unfold tb
 rw [BitVec.ofInt_natCast, BitVec.getLsbD_ofNat]
 by_cases hi : i < 64
 ·simp [hi]
 ·have : n < 2 ^ i := Nat.lt_of_lt_of_le h (Nat.pow_le_pow_right (by decide) (by omega))
  simp [hi, Nat.testBit_lt_two_pow this]
theorem yan3 (a b : Int) : decide (zzo a b = 0) = true ↔ ∀ i, ¬ (tb a i = true ∧ tb b i = true) := by
 have e : zzo a b = (((BitVec.ofInt 64 a &&& BitVec.ofInt 64 b).toNat : Nat) : Int) := by
  unfold zzo; exact zh5 _ (BitVec.isLt _)
 rw [decide_eq_true_iff, e]
 constructor
 ·intro h i ⟨h1, h2⟩
  have h0 : (BitVec.ofInt 64 a &&& BitVec.ofInt 64 b) = 0 := by
   apply BitVec.eq_of_toNat_eq; simpa using h
  have := congrArg (fun x : BitVec 64 => x.getLsbD i) h0
  simp only [BitVec.getLsbD_and] at this
  unfold tb at h1 h2
  rw [h1, h2] at this
  simp at this
 ·intro h
  have h0 : (BitVec.ofInt 64 a &&& BitVec.ofInt 64 b) = 0 := by
   apply BitVec.eq_of_getLsbD_eq
   intro i hi
   rw [BitVec.getLsbD_and]
   have := h i
   unfold tb at this
   simp
   intro h1
   cases h2 : (BitVec.ofInt 64 b).getLsbD i
   ·rfl
   ·exact absurd ⟨h1, h2⟩ this
  rw [h0]; rfl
theorem yang {p : MPiece} (h0 : 0 ≤ p.at_) (h1 : 1 ≤ p.len) (h2 : p.at_ + p.len ≤ 64) (i : Nat) : tb (zqt p) i = (decide (p.at_ ≤ (i : Int)) && decide ((i : Int) < p.at_ + p.len)) := by
 obtain ⟨a, ha⟩ := Int.eq_ofNat_of_zero_le h0
 obtain ⟨n, hn⟩ := Int.eq_ofNat_of_zero_le (show 0 ≤ p.len by omega)
 have hm : zcb p.len = ((2 ^ n - 1 : Nat) : Int) := by
  unfold zcb
  rw [if_pos (by simp [inR]; omega), hn]
  rw [show (64 - (n : Int)).toNat = 64 - n by omega]
  have : 18446744073709551615 / 2 ^ (64 - n) = 2 ^ n - 1 := by
   have e : 18446744073709551615 = 2 ^ 64 - 1 := by decide
   have e2 : 2 ^ 64 = 2 ^ n * 2 ^ (64 - n) := by rw [← Nat.pow_add]; congr 1; omega
   have p1 : 0 < 2 ^ (64 - n) := Nat.two_pow_pos _
   have p2 : 0 < 2 ^ n := Nat.two_pow_pos _
   rw [e, e2]
   rw [show 2 ^ n * 2 ^ (64 - n) - 1 = (2 ^ n - 1) * 2 ^ (64 - n) + (2 ^ (64 - n) - 1) by
    rw [Nat.sub_mul, Nat.one_mul]
    have : 2 ^ (64 - n) ≤ 2 ^ n * 2 ^ (64 - n) := Nat.le_mul_of_pos_left _ p2
    omega]
   rw [Nat.add_comm, Nat.add_mul_div_right _ _ p1, Nat.div_eq_of_lt (by omega), Nat.zero_add]
  rw [← this, Int.natCast_ediv]; rfl
 have hp : zqt p = (((2 ^ n - 1) * 2 ^ a : Nat) : Int) := by
  unfold zqt
  rw [hm, ha]
  have hle : a ≤ 64 := by omega
  rw [Int.toNat_natCast, Nat.min_eq_left hle]
  rw [show (((2 ^ n - 1 : Nat) : Int) * 2 ^ a) = (((2 ^ n - 1) * 2 ^ a : Nat) : Int) by rw [Int.natCast_mul, Int.natCast_pow]; rfl]
  refine zh5 _ ?_
  have e2 : 2 ^ 64 = 2 ^ (64 - a) * 2 ^ a := by rw [← Nat.pow_add]; congr 1; omega
  rw [e2]
  refine Nat.mul_lt_mul_of_pos_right ?_ (Nat.two_pow_pos _)
  have : 2 ^ n ≤ 2 ^ (64 - a) := Nat.pow_le_pow_right (by decide) (by omega)
  have := Nat.two_pow_pos n
  omega
 have hb : (2 ^ n - 1) * 2 ^ a < 2 ^ 64 := by
  have e2 : 2 ^ 64 = 2 ^ (64 - a) * 2 ^ a := by rw [← Nat.pow_add]; congr 1; omega
  rw [e2]
  refine Nat.mul_lt_mul_of_pos_right ?_ (Nat.two_pow_pos _)
  have : 2 ^ n ≤ 2 ^ (64 - a) := Nat.pow_le_pow_right (by decide) (by omega)
  have := Nat.two_pow_pos n
  omega
 rw [hp, zsu hb, ← Nat.shiftLeft_eq, Nat.testBit_shiftLeft, Nat.testBit_two_pow_sub_one, ha, hn]
 rw [Bool.eq_iff_iff]
 simp only [Bool.and_eq_true, decide_eq_true_eq]
 omega
theorem zxt {x : Int} (h0 : 0 ≤ x) (h1 : x < 2 ^ 64) (n : Nat) : zu3 x n = if tb x n then 1 else 0 := by
 obtain ⟨k, rfl⟩ := Int.eq_ofNat_of_zero_le h0
 have hk : k < 2 ^ 64 := by omega
 rw [zsu hk, Nat.testBit_eq_decide_div_mod_eq]
 unfold zu3
 have e : ((k : Int) / ((2 ^ n : Nat) : Int) % 2) = ((k / 2 ^ n % 2 : Nat) : Int) := by push_cast; rfl
 rw [e]
 rcases Nat.mod_two_eq_zero_or_one (k / 2 ^ n) with h | h <;> simp [h]
def seqF {α : Type} (nm : α → ByteArray) (q : Nat → α → Bool) : Nat → List α → List ByteArray → Bool
 | _, [], _ => true
 | i, u :: us, l => ((zbm (nm u) && !zn3 l (nm u)) && q i u) && seqF nm q (i + 1) us (l ++ [nm u])
theorem zeq {α : Type} {nm : α → ByteArray} {q : α → Bool} : ∀ {us : List α} {l : List ByteArray} {i : Nat}, zcg nm q us l = seqF nm (fun _ => q) i us l
 | [], _, _ => rfl
 | u :: us, l, i => by rw [zcg, seqF, zeq (i := i + 1)]
def oneF {α : Type} (nm : α → ByteArray) (q : Nat → α → Bool) (us : List α) (acc : List ByteArray) (i : Nat) : Prop :=
 ∀ u, us[i]? = some u → zbm (nm u) = true ∧ q i u = true ∧ zn3 acc (nm u) = false ∧ ∀ k v, k < i → us[k]? = some v → nm v ≠ nm u
theorem zg2 {l : List ByteArray} {s : ByteArray} : zn3 l s = false ↔ ∀ x ∈ l, x ≠ s := by
 simp only [zn3, List.any_eq_false, decide_eq_true_eq]
 exact ⟨fun h x hx e => h x hx e.symm, fun h x hx e => h x hx e.symm⟩
theorem zmv {α : Type} {nm : α → ByteArray} : ∀ {us : List α} {q : Nat → α → Bool} {j : Nat} {acc : List ByteArray}, seqF nm q j us acc = true ↔ ∀ i, oneF nm (fun i => q (j + i)) us acc i
 | [], q, j, acc => by simp [seqF, oneF]
 | u :: us, q, j, acc => by
  simp only [seqF, Bool.and_eq_true, zmv (us := us)]
  constructor
  ·rintro ⟨⟨⟨h1, h2⟩, h3⟩, h4⟩ i v hv
   cases i with
   | zero =>
    simp only [List.getElem?_cons_zero, Option.some.injEq] at hv
    subst hv
    exact ⟨h1, by simpa using h3, by simpa using h2, fun k w hk => absurd hk (Nat.not_lt_zero _)⟩
   | succ i =>
    simp only [List.getElem?_cons_succ] at hv
    obtain ⟨g1, g2, g3, g4⟩ := h4 i v hv
    rw [zg2] at g3
    refine ⟨g1, ?_, zg2.2 fun x hx => g3 x (by simp [hx]), fun k w hk hw => ?_⟩
    ·show q (j + (i + 1)) v = true
     rw [show j + (i + 1) = j + 1 + i by omega]; exact g2
    ·cases k with
     | zero =>
      simp only [List.getElem?_cons_zero, Option.some.injEq] at hw
      subst hw
      exact g3 _ (by simp)
     | succ k => exact g4 k w (by omega) (by simpa using hw)
  ·intro h
   refine ⟨?_, fun i v hv => ?_⟩
   ·obtain ⟨h1, h2, h3, _⟩ := h 0 u rfl
    exact ⟨⟨h1, by simp [h3]⟩, by simpa using h2⟩
   ·obtain ⟨g1, g2, g3, g4⟩ := h (i + 1) v (by simpa using hv)
    rw [zg2] at g3
    refine ⟨g1, ?_, zg2.2 fun x hx => ?_, fun k w hk hw => g4 (k + 1) w (by omega) (by simpa using hw)⟩
    ·have g2' : q (j + (i + 1)) v = true := g2
     rw [show j + (i + 1) = j + 1 + i by omega] at g2'; exact g2'
    ·rcases List.mem_append.1 hx with hx | hx
     ·exact g3 x hx
     ·rw [List.mem_singleton] at hx
      subst hx
      exact g4 0 u (by omega) rfl
def newI {α : Type} (nm : α → ByteArray) (us : List α) (i : Nat) : Bool := match us[i]? with
 | some u => zb9 (fun k => match us[k]? with | some v => !decide (nm v = nm u) | none => true) 0 i
 | none => true
def atI {α : Type} (us : List α) (q : α → Bool) (i : Nat) : Bool := match us[i]? with | some u => q u | none => true
theorem yaay {α : Type} {nm : α → ByteArray} {us : List α} {i : Nat} : newI nm us i = true ↔ ∀ u, us[i]? = some u → ∀ k v, k < i → us[k]? = some v → nm v ≠ nm u := by
 unfold newI
 cases hu : us[i]? with
 | none => simp
 | some u =>
  simp only [zbe, Option.some.injEq]
  constructor
  ·rintro h _ rfl k v hk hv
   have := h k (Nat.zero_le _) hk
   rw [hv] at this
   simpa using this
  ·intro h k _ hk
   cases hv : us[k]? with
   | none => rfl
   | some v => simpa using h u rfl k v hk hv
theorem yaby {α : Type} {nm : α → ByteArray} {us : List α} {q : Nat → α → Bool} {acc : List ByteArray} :
  seqF nm q 0 us acc = zb9 (fun i => (atI us (fun u => zbm (nm u) && q i u && !zn3 acc (nm u)) i && newI nm us i)) 0 us.length := by
 rw [Bool.eq_iff_iff, zmv, zbe]
 constructor
 ·intro h i _ hi
  have hu : us[i]? = some us[i] := List.getElem?_eq_getElem hi
  obtain ⟨h1, h2, h3, h4⟩ := h i _ hu
  simp only [Nat.zero_add] at h2
  rw [Bool.and_eq_true]
  refine ⟨by simp [atI, hu, h1, h2, h3], yaay.2 fun u e k v hk hv => ?_⟩
  rw [hu] at e; cases e
  exact h4 k v hk hv
 ·intro h i u hu
  obtain ⟨hi, rfl⟩ := List.getElem?_eq_some_iff.1 hu
  have := h i (Nat.zero_le _) hi
  rw [Bool.and_eq_true, yaay] at this
  simp [atI, hu] at this
  exact ⟨this.1.1.1, by simpa using this.1.1.2, this.1.2, fun k v hk hv => this.2 k v hk hv⟩
def pin (p : MPiece) (b : Nat) : Bool := decide (p.at_ ≤ (b : Int)) && decide ((b : Int) < p.at_ + p.len)
def zgz (l : List MPiece) (b : Nat) : Nat := l.countP fun p => pin p b
def one (b : Bool) : Nat := if b then 1 else 0
theorem zue {w : Int} (h1 : 1 ≤ w) (h2 : w ≤ 4) : ∀ {l : List MPiece} {ok : Bool} {t : Int}, ((zlk w l ok t).2.1 = true ↔ (ok = true ∧ l.all (zej w) = true ∧ ∀ b, one (tb t b) + zgz l b ≤ 1)) ∧
  ((zlk w l ok t).2.1 = true → (zlk w l ok t).1 = false ∧ ∀ b, tb (zlk w l ok t).2.2 b = (tb t b || decide (0 < zgz l b)))
 | [], ok, t => by
  refine ⟨?_, fun h => ⟨rfl, fun b => by simp [zlk, zgz]⟩⟩
  simp only [zlk, List.all_nil, zgz, List.countP_nil, true_and]
  exact ⟨fun h => ⟨h, fun b => by unfold one; split <;> omega⟩, fun h => h.1⟩
 | p :: l, ok, t => by
  simp only [zlk]
  cases ok with
  | false => simp
  | true =>
   cases hw : zej w p with
   | false => simp [hw]
   | true =>
    simp only [Bool.true_and, cond_true, List.all_cons, hw]
    obtain ⟨ih1, ih2⟩ := zue h1 h2 (l := l) (ok := decide (zzo t (zqt p) = 0)) (t := orI t (zqt p))
    have hp : 0 ≤ p.at_ ∧ 1 ≤ p.len ∧ p.at_ + p.len ≤ 64 := by
     have e8 : IntKind.i64.wrap (8 * w) = 8 * w := zjp (by omega) (by omega)
     simp only [zej, inR, e8, Bool.and_eq_true, decide_eq_true_eq] at hw
     have e9 : IntKind.i64.wrap (8 * w - p.len) = 8 * w - p.len := zjp (by omega) (by omega)
     rw [e9] at hw
     omega
    have hb : ∀ b, tb (zqt p) b = pin p b := fun b => yang hp.1 hp.2.1 hp.2.2 b
    have hc : ∀ b, zgz (p :: l) b = zgz l b + one (pin p b) := fun b => by simp only [zgz, List.countP_cons, one]
    refine ⟨?_, fun h => ?_⟩
    ·rw [ih1, yan3]
     simp only [true_and]
     constructor
     ·rintro ⟨g1, g2, g3⟩
      refine ⟨g2, fun b => ?_⟩
      have a1 := g1 b
      have a2 := g3 b
      rw [yaiw, hb] at a2
      rw [hb] at a1
      rw [hc]
      revert a1 a2
      cases tb t b <;> cases pin p b <;> simp [one]
      all_goals omega
     ·rintro ⟨g1, g2⟩
      refine ⟨fun b => ?_, g1, fun b => ?_⟩
      ·have := g2 b
       rw [hc] at this
       rw [hb]
       revert this
       cases tb t b <;> cases pin p b <;> simp [one]
      ·have := g2 b
       rw [hc] at this
       rw [yaiw, hb]
       revert this
       cases tb t b <;> cases pin p b <;> simp [one]
       all_goals omega
    ·obtain ⟨g1, g2⟩ := ih2 h
     refine ⟨g1, fun b => ?_⟩
     rw [g2, yaiw, hb, hc]
     cases tb t b <;> cases pin p b <;> simp [one]
theorem tb_0 (b : Nat) : tb 0 b = false := by
 have := zsu (n := 0) (by decide) b
 simpa using this
def zc4 (m : MMach) (s : MInstr) (i : Nat) (o : MOpd) : Bool :=
 bif decide (o.kind = 1) then (inR o.bank 0 ((m.banks.length : Int) - 1) && decide (o.scale = 0)) && bif decide (o.tied = -1) then zqk m o else zmk s i o && yady s o
 else bif decide (o.kind = 2) || (decide (o.kind = 3) || decide (o.kind = 4)) then zql m o else false
theorem yadi {m : MMach} {s : MInstr} {i : Nat} {o : MOpd} {ok : Bool} {t : Int} : ((zk0 m s i o ok t).1 = (decide (o.kind = 1) && ok && zc4 m s i o || (!decide (o.kind = 1) && ok && zc4 m s i o))) ∧ ((zk0 m s i o ok t).1 = true → (zk0 m s i o ok t).2 = t) := by
 unfold zk0 zc4 yag9
 generalize zqk m o = a
 generalize zmk s i o = b
 generalize yady s o = c
 generalize zql m o = d
 generalize (inR o.bank 0 ((m.banks.length : Int) - 1) && decide (o.scale = 0)) = e
 generalize decide (o.kind = 1) = k1
 generalize (decide (o.kind = 2) || (decide (o.kind = 3) || decide (o.kind = 4))) = k2
 generalize decide (o.tied = -1) = f
 cases k1 <;> cases k2 <;> cases ok <;> cases e <;> cases f <;> cases a <;> cases b <;> cases c <;> cases d <;> simp
theorem yag8 {m : MMach} {s : MInstr} {i : Nat} {o : MOpd} {ok : Bool} (h1 : 1 ≤ m.word) (h2 : m.word ≤ 4) :
  ((zkf m s i o ok).1 = true ↔ (ok = true ∧ o.pieces.all (zej m.word) = true ∧ (∀ b, zgz o.pieces b ≤ 1) ∧ zc4 m s i o = true)) ∧
  ((zkf m s i o ok).1 = true → ∀ b, tb (zkf m s i o ok).2 b = decide (0 < zgz o.pieces b)) := by
 obtain ⟨p1, p2⟩ := zue h1 h2 (l := o.pieces) (ok := ok) (t := 0)
 have p1' : (zlk m.word o.pieces ok 0).2.1 = true ↔ (ok = true ∧ o.pieces.all (zej m.word) = true ∧ ∀ b, zgz o.pieces b ≤ 1) := by
  rw [p1]; simp only [tb_0, one, Bool.false_eq_true, if_false, Nat.zero_add]
 unfold zkf
 obtain ⟨r1, r2⟩ := yadi (m := m) (s := s) (i := i) (o := o) (ok := (zlk m.word o.pieces ok 0).2.1) (t := (zlk m.word o.pieces ok 0).2.2)
 cases hp : (zlk m.word o.pieces ok 0).2.1 with
 | true =>
  obtain ⟨q1, q2⟩ := p2 hp
  rw [hp] at r1 r2
  rw [q1]
  simp only [cond_false]
  have e : (zk0 m s i o true (zlk m.word o.pieces ok 0).2.2).1 = zc4 m s i o := by
   rw [r1]; cases decide (o.kind = 1) <;> simp
  refine ⟨?_, fun h b => ?_⟩
  ·rw [e]
   have := p1'.1 hp
   exact ⟨fun h => ⟨this.1, this.2.1, this.2.2, h⟩, fun h => h.2.2.2⟩
  ·rw [r2 h, q2, tb_0, Bool.false_or]
 | false =>
  have hn : ¬ (ok = true ∧ o.pieces.all (zej m.word) = true ∧ ∀ b, zgz o.pieces b ≤ 1) := fun h => by rw [p1'.2 h] at hp; cases hp
  have e : (bif (zlk m.word o.pieces ok 0).1 then ((false, 0) : Bool × Int) else zk0 m s i o false (zlk m.word o.pieces ok 0).2.2).1 = false := by
   cases (zlk m.word o.pieces ok 0).1 with
   | true => rfl
   | false =>
    rw [hp] at r1
    simp only [cond_false]
    rw [r1]; cases decide (o.kind = 1) <;> simp
  rw [e]
  exact ⟨⟨fun h => (by cases h), fun h => absurd ⟨h.1, h.2.1, h.2.2.1⟩ hn⟩, fun h => (by cases h)⟩
def zyt (m : MMach) (s : MInstr) : Nat → List MOpd → Bool → List ByteArray → Int → Bool × Int
 | _, [], ok, _, t => (ok, t)
 | i, o :: l, ok, ns, t => zyt m s (i + 1) l ((zkf m s i o (ok && (zbm o.name && !zn3 ns o.name))).1 && decide (zzo t (zkf m s i o (ok && (zbm o.name && !zn3 ns o.name))).2 = 0)) (ns ++ [o.name]) (orI t (zkf m s i o (ok && (zbm o.name && !zn3 ns o.name))).2)
def opQ (m : MMach) (s : MInstr) (i : Nat) (o : MOpd) : Bool := o.pieces.all (zej m.word) && zc4 m s i o
def zzj (l : List MOpd) : List MPiece := l.flatMap MOpd.pieces
theorem zz2 {a b : List MPiece} {k : Nat} : zgz (a ++ b) k = zgz a k + zgz b k := List.countP_append
theorem zmm {m : MMach} {s : MInstr} (h1 : 1 ≤ m.word) (h2 : m.word ≤ 4) : ∀ {l : List MOpd} {i : Nat} {ok : Bool} {ns : List ByteArray} {t : Int}, (zyt m s i l ok ns t).1 = true ↔ (ok = true ∧ seqF MOpd.name (opQ m s) i l ns = true ∧ ∀ b, one (tb t b) + zgz (zzj l) b ≤ 1)
 | [], i, ok, ns, t => by
  simp only [zyt, seqF, zzj, List.flatMap_nil, zgz, List.countP_nil, true_and]
  exact ⟨fun h => ⟨h, fun b => by unfold one; split <;> omega⟩, fun h => h.1⟩
 | o :: l, i, ok, ns, t => by
  rw [zyt, zmm h1 h2 (l := l)]
  obtain ⟨a1, a2⟩ := yag8 (m := m) (s := s) (i := i) (o := o) (ok := ok && (zbm o.name && !zn3 ns o.name)) h1 h2
  have hc : ∀ b, zgz (zzj (o :: l)) b = zgz o.pieces b + zgz (zzj l) b := fun b => by
   simp only [zzj, List.flatMap_cons, zz2]
  rw [Bool.and_eq_true, yan3]
  constructor
  ·rintro ⟨⟨g1, g2⟩, g3, g4⟩
   have b1 := a1.1 g1
   have b2 := a2 g1
   obtain ⟨b3, b4, b5, b6⟩ := b1
   simp only [Bool.and_eq_true] at b3
   refine ⟨b3.1, ?_, fun b => ?_⟩
   ·simp only [seqF, opQ, b3.2.1, b3.2.2, b4, b6, g3, Bool.and_self]
   ·have x1 := g2 b
    have x2 := g4 b
    have x3 := b5 b
    rw [yaiw, b2] at x2
    rw [b2] at x1
    rw [hc]
    revert x1 x2
    cases tb t b <;> by_cases hz : 0 < zgz o.pieces b <;> simp [one, hz] <;> omega
  ·rintro ⟨g1, g2, g3⟩
   simp only [seqF, opQ, Bool.and_eq_true] at g2
   obtain ⟨⟨⟨c1, c2⟩, c3, c4⟩, c5⟩ := g2
   have g : (zkf m s i o (ok && (zbm o.name && !zn3 ns o.name))).1 = true := by
    refine a1.2 ⟨by simp [g1, c1] ; simpa using c2, c3, fun b => ?_, c4⟩
    have := g3 b; rw [hc] at this; omega
   have b2 := a2 g
   refine ⟨⟨g, fun b => ?_⟩, c5, fun b => ?_⟩
   ·have := g3 b
    rw [hc] at this
    rw [b2]
    revert this
    cases tb t b <;> simp [one]
    omega
   ·have := g3 b
    rw [hc] at this
    rw [yaiw, b2]
    revert this
    cases tb t b <;> by_cases hz : 0 < zgz o.pieces b <;> simp [one, hz] <;> omega
def pcN : ByteArray := ⟨#[112, 99]⟩
def yavj (m : MMach) : List Bn := m.regs.foldl (fun t r => zog (rDot ++ r.name) r.width t) [(pcN, m.address)]
def varT (m : MMach) (s : MInstr) : List Bn := s.operands.foldl (fun t o => zog o.name (zoo m o) t) (yavj m)
def zrt (T : List Bn) (adr : Int) (t : MTerm) : Bool := bif decide (t.kd = 2) then decide ((zek t.nm T).getD 0 = t.wd) else bif decide (t.kd = 24) then decide (zij t 0 = adr) else true
def zig (m : MMach) (T : List Bn) (t : MTerm) : Bool := decide (znp t = 0) && t.nodes.all (zrt T m.address)
def znv (m : MMach) (s : MInstr) (x : MEff) : Bool := match s.operands[x.operand.toNat]? with | some o => decide (o.kind = 1) && decide (x.value.wd = zoo m o) | none => false
def zrm (m : MMach) (s : MInstr) (T : List Bn) (x : MEff) : Bool :=
 (decide (x.kind = 1) || (decide (x.operand = 0) && decide (x.reg = 0))) && (zig m T x.value && (
 bif decide (x.kind = 1) then (zov x.addr && zov x.cond) && (bif decide (x.operand = -1) && inR x.reg 0 ((m.regs.length : Int) - 1) then decide (x.value.wd = ze3 m x.reg) else bif decide (x.reg = 0) && inR x.operand 0 ((s.operands.length : Int) - 1) then znv m s x else false) else
 bif decide (x.kind = 2) then zig m T x.addr && (zov x.cond && (decide (x.addr.wd = m.address) && zg4 x.value.wd)) else
 bif decide (x.kind = 3) then (zov x.addr && decide (x.value.wd = m.address)) && (zov x.cond || (zig m T x.cond && decide (x.cond.wd = 1))) else
 bif decide (x.kind = 4) then zov x.addr && zov x.cond else false))
def zrj (k : Int) (s : MInstr) : Nat := s.effects.countP fun x => decide (x.kind = k)
def zui (m : MMach) (s : MInstr) : Bool := decide ((zrj 3 s : Int) ≤ 1) && ((decide ((zrj 4 s : Int) = 0) || decide ((s.effects.length : Int) = 1)) && (inR s.unit 0 ((m.units.length : Int) - 1) && (inR s.busy 1 15 && (inR s.latency 1 15 && (inR s.slots 0 2 && (decide (s.slots = 0) || decide ((zrj 3 s : Int) = 1)))))))
def zm7 (a b : Int) : Int := IntKind.u64.wrap ((BitVec.ofInt 64 a &&& ~~~ BitVec.ofInt 64 b).toNat)
def zia (m : MMach) (s : MInstr) : Bool :=
 (decide (zm7 s.mask (zcb (IntKind.i64.wrap (8 * m.word))) = 0) && decide (zm7 s.mat s.mask = 0)) && ((zyt m s 0 s.operands true [pcN] s.mask).1 && (s.effects.all (zrm m s (varT m s)) && zui m s))
def zi5 (m : MMach) : Bool := zcg MInstr.name (zia m) m.instrs []
def goodB (m : MMach) : Bool := (zbm m.name && (inR m.word 1 4 && (decide (m.address = 16) || decide (m.address = 32)))) && (zhx m && (zev m && (unitsB m && zi5 m)))
where unitsB (m : MMach) : Bool := decide (0 < (m.units.length : Int)) && zcg MUn.name znr m.units []
def zb1 (m : MMach) : Int := bif !zk2 m then 4 else bif goodB m then 0 else 8
def vopF (m : MMach) (name : ByteArray) (w : Int) (z : Bool) : List MOpd → Bool
 | [] => z
 | o :: l => bif decide (o.name = name) then decide (w = zoo m o) else vopF m name w z l
def yanv (name : ByteArray) (w : Int) : List MReg → Bool
 | [] => false
 | r :: l => bif decide (rDot ++ r.name = name) then decide (w = r.width) else yanv name w l
def zhd (m : MMach) (s : MInstr) (name : ByteArray) (w : Int) : Bool := bif decide (name = pcN) then decide (w = m.address) else vopF m name w (yanv name w m.regs) s.operands
def zd9 (m : MMach) (s : MInstr) (t : MTerm) : Bool := (!decide (t.kd = 2) || zhd m s t.nm t.wd) && (!decide (t.kd = 24) || decide (zij t 0 = m.address))
def zp1 (m : MMach) (s : MInstr) (t : MTerm) : Bool := decide (zut t = 0) && t.nodes.all (zd9 m s)
def zos (m : MMach) (s : MInstr) (x : MEff) : Bool :=
 bif decide (x.kind = 1) then zov x.addr && (zov x.cond && (zp1 m s x.value && (bif decide (x.operand = -1) then inR x.reg 0 ((m.regs.length : Int) - 1) && decide (x.value.wd = ze3 m x.reg) else decide (x.reg = 0) && (inR x.operand 0 ((s.operands.length : Int) - 1) && znv m s x)))) else
 bif decide (x.kind = 2) then decide (x.operand = 0) && (decide (x.reg = 0) && (zov x.cond && (zp1 m s x.addr && (decide (x.addr.wd = m.address) && (zp1 m s x.value && zg4 x.value.wd))))) else
 bif decide (x.kind = 3) then decide (x.operand = 0) && (decide (x.reg = 0) && (zov x.addr && (zp1 m s x.value && (decide (x.value.wd = m.address) && (zov x.cond || (zp1 m s x.cond && decide (x.cond.wd = 1))))))) else
 bif decide (x.kind = 4) then decide (x.operand = 0) && (decide (x.reg = 0) && (zov x.addr && (zov x.cond && zp1 m s x.value))) else false
def Dis {α : Type} (nm : α → ByteArray) (l : List α) : Prop := l.Pairwise fun x y => nm x ≠ nm y
theorem ztp {α : Type} {nm : α → ByteArray} {v : α → Int} {n : ByteArray} : ∀ {l : List α} {T : List Bn}, Dis nm l →
  zek n (l.foldl (fun t x => zog (nm x) (v x) t) T) = match l.find? (fun x => decide (nm x = n)) with | some x => some (v x) | none => zek n T
 | [], T, _ => rfl
 | x :: l, T, h => by
  rw [Dis, List.pairwise_cons] at h
  rw [List.foldl_cons, ztp h.2, List.find?_cons, zhc]
  by_cases e : nm x = n
  ·have hn : l.find? (fun x => decide (nm x = n)) = none := by
    rw [List.find?_eq_none]
    intro y hy
    have := h.1 y hy
    rw [e] at this
    simpa using fun q => this q.symm
   simp [e, hn]
  ·simp [e, show ¬ n = nm x from fun q => e q.symm]
theorem zzd {m : MMach} {n : ByteArray} {w : Int} {z : Bool} : ∀ {l : List MOpd}, vopF m n w z l = match l.find? (fun x => decide (x.name = n)) with | some o => decide (w = zoo m o) | none => z
 | [] => rfl
 | o :: l => by
  rw [vopF, List.find?_cons, zzd]
  by_cases e : o.name = n <;> simp [e]
theorem zuy {n : ByteArray} {w : Int} : ∀ {l : List MReg}, yanv n w l = match l.find? (fun x => decide (rDot ++ x.name = n)) with | some r => decide (w = r.width) | none => false
 | [] => rfl
 | o :: l => by
  rw [yanv, List.find?_cons, zuy]
  by_cases e : rDot ++ o.name = n <;> simp [e]
theorem yas5 {a b : ByteArray} (h : rDot ++ a = rDot ++ b) : a = b := by
 have := congrArg ByteArray.data h
 simp only [ByteArray.data_append] at this
 exact ByteArray.ext (Array.append_right_inj _ |>.1 this)
theorem yayo {a : ByteArray} : rDot ++ a ≠ pcN := by
 intro h
 have := congrArg ByteArray.data h
 simp only [ByteArray.data_append] at this
 have h0 := congrArg (fun x : Array UInt8 => x.toList.head?) this
 simp [rDot, pcN] at h0
theorem yatd (m : MMach) (s : MInstr) (n : ByteArray) (w : Int) (hw : 1 ≤ w) (ho : Dis MOpd.name s.operands) (hp : ∀ o ∈ s.operands, o.name ≠ pcN) (hr : Dis MReg.name m.regs) :
  decide ((zek n (varT m s)).getD 0 = w) = zhd m s n w := by
 unfold varT yavj zhd
 have hr' : Dis (fun r : MReg => rDot ++ r.name) m.regs := hr.imp fun h e => h (yas5 e)
 rw [ztp ho, ztp hr', zzd, zuy]
 by_cases e : n = pcN
 ·subst e
  have h1 : s.operands.find? (fun x => decide (x.name = pcN)) = none := by
   rw [List.find?_eq_none]; intro o hm; simpa using hp o hm
  have h2 : m.regs.find? (fun x => decide (rDot ++ x.name = pcN)) = none := by
   rw [List.find?_eq_none]; intro o hm; simpa using yayo
  rw [h1, h2]
  simp only [zek, decide_true, cond_true, Option.getD_some]
  rw [Bool.eq_iff_iff, decide_eq_true_iff, decide_eq_true_iff]; exact eq_comm
 ·simp only [e, decide_false, cond_false]
  cases s.operands.find? (fun x => decide (x.name = n)) with
  | some o => simp only [Option.getD_some]; rw [Bool.eq_iff_iff, decide_eq_true_iff, decide_eq_true_iff]; exact eq_comm
  | none =>
   cases m.regs.find? (fun x => decide (rDot ++ x.name = n)) with
   | some r => simp only [Option.getD_some]; rw [Bool.eq_iff_iff, decide_eq_true_iff, decide_eq_true_iff]; exact eq_comm
   | none =>
    simp only [zek, e, decide_false, cond_false, Option.getD_none]
    exact decide_eq_false (by omega)
theorem zyd (m : MMach) (s : MInstr) (t : MTerm) (hk : zi7 t) (ho : Dis MOpd.name s.operands) (hp : ∀ o ∈ s.operands, o.name ≠ pcN) (hr : Dis MReg.name m.regs) : zp1 m s t = zig m (varT m s) t := by
 unfold zp1 zig
 rw [yab3 t hk]
 cases h : decide (znp t = 0) with
 | false => rfl
 | true =>
  simp only [Bool.true_and]
  have hn : zc2 t = true := by
   have h' := of_decide_eq_true h
   unfold znp at h'
   cases hs : zrz t with
   | true => rw [hs] at h'; simp at h'
   | false =>
    cases hb : zc2 t with
    | true => rfl
    | false => rw [hs, hb] at h'; simp at h'
  rw [Bool.eq_iff_iff, List.all_eq_true, List.all_eq_true]
  have key : ∀ x ∈ t.nodes, zd9 m s x = zrt (varT m s) m.address x := by
   intro x hx
   have hb := List.all_eq_true.1 hn x hx
   have hw : 1 ≤ x.wd := by
    unfold zke at hb
    have := (Bool.and_eq_true_iff.1 hb).1
    simp [inR] at this
    exact this.1
   unfold zd9 zrt
   by_cases k2 : x.kd = 2
   ·have k24 : ¬ x.kd = 24 := by omega
    simp only [k2, decide_true, cond_true, Bool.not_true, Bool.false_or]
    rw [yatd m s x.nm x.wd hw ho hp hr]
    simp
   ·by_cases k24 : x.kd = 24
    ·simp [k24]
    ·simp [k2, k24]
  exact ⟨fun h x hx => by rw [← key x hx]; exact h x hx, fun h x hx => by rw [key x hx]; exact h x hx⟩
structure EffK (x : MEff) : Prop where
 a : zi7 x.addr
 v : zi7 x.value
 c : zi7 x.cond
theorem yayy (m : MMach) (s : MInstr) (x : MEff) (hk : EffK x) (ho : Dis MOpd.name s.operands) (hp : ∀ o ∈ s.operands, o.name ≠ pcN) (hr : Dis MReg.name m.regs) : zos m s x = zrm m s (varT m s) x := by
 unfold zos zrm
 rw [zyd m s _ hk.a ho hp hr, zyd m s _ hk.v ho hp hr, zyd m s _ hk.c ho hp hr]
 generalize zig m (varT m s) x.addr = ta
 generalize zig m (varT m s) x.value = tv
 generalize zig m (varT m s) x.cond = tc
 generalize zov x.addr = na
 generalize zov x.cond = nc
 generalize decide (x.value.wd = ze3 m x.reg) = wr
 generalize decide (x.addr.wd = m.address) = wa
 generalize decide (x.value.wd = m.address) = wv
 generalize zg4 x.value.wd = lb
 generalize decide (x.cond.wd = 1) = c1
 generalize inR x.reg 0 ((m.regs.length : Int) - 1) = ir
 generalize znv m s x = wi
 have hio : inR (-1) 0 ((s.operands.length : Int) - 1) = false := by simp [inR]
 have h10 : x.operand = -1 → decide (x.operand = 0) = false := fun e => by simp [e]
 by_cases k1 : x.kind = 1
 ·by_cases o1 : x.operand = -1
  ·simp only [k1, o1, decide_true, cond_true, Bool.true_or, Bool.true_and, hio, Bool.and_false, cond_false]
   cases na <;> cases nc <;> cases tv <;> cases ir <;> cases wr <;> rfl
  ·simp only [k1, o1, decide_true, decide_false, cond_true, Bool.true_or, Bool.true_and, Bool.false_and, cond_false]
   generalize inR x.operand 0 ((s.operands.length : Int) - 1) = io
   generalize decide (x.reg = 0) = r0
   cases na <;> cases nc <;> cases tv <;> cases io <;> cases wi <;> cases r0 <;> rfl
 ·generalize decide (x.operand = 0) = o0
  generalize decide (x.reg = 0) = r0
  generalize decide (x.kind = 2) = k2
  generalize decide (x.kind = 3) = k3
  generalize decide (x.kind = 4) = k4
  simp only [k1, decide_false, cond_false, Bool.false_or]
  cases o0 <;> cases r0 <;> cases k2 <;> cases k3 <;> cases k4 <;> simp only [Bool.false_and, Bool.and_false, cond_true, cond_false, Bool.true_and, Bool.and_true] <;>
   cases na <;> cases nc <;> cases tv <;> cases ta <;> cases tc <;> cases wa <;> cases wv <;> cases lb <;> cases c1 <;> rfl
set_option maxRecDepth 100000
set_option maxHeartbeats 4000000
theorem yaeg {a b : ByteArray} (h : a.size + b.size ≤ 1152921504606846976) : zeg Tryz.prog .add 9 (.str a) (.str b) = some (.str (a ++ b)) := by
 show zhf .add a b = _
 simp only [zhf, if_pos h]
theorem zwz : rDot.size = 2 := rfl
abbrev vH (m : MMach) (ok : Bool) (s : MInstr) (T : List Bn) : Heap := ⟨3, [some (.cells 129 (ckC m ok)), some (.cells 113 (zi4 s)), some (zsr T)]⟩
theorem zv2 {α β : Type} {f : β → α → β} {l : List α} {i : Nat} {b : β} (h : i < l.length) : (l.drop i).foldl f b = (l.drop (i + 1)).foldl f (f b l[i]) := by rw [List.drop_eq_getElem_cons h]; rfl
theorem zxd (m : MMach) (hB : Bd m) (hN : ∀ r ∈ m.regs, r.name.size < 1000000) (ok : Bool) (s : MInstr) : ∀ i, i ≤ m.regs.length → ∀ T, lim (some [0, 3, 5]) 1 (blk 0 (om Tryz.prog ⟨138, none⟩ 1 (.loop (lpb Tryz.f138 0)) ⟨⟨52, [(0, .ptr 0 0), (3, .ptr 1 0), (5, .map (some 2)), (21, .rsl (slA m.pr m.regs) m.pr.cap 4 (m.regs.map zei)), (22, .int .i64 m.regs.length), (23, .int .i64 i)]⟩, [], vH m ok s T⟩)) =
  some (.normal, ⟨⟨52, [(0, .ptr 0 0), (3, .ptr 1 0), (5, .map (some 2))]⟩, [], vH m ok s ((m.regs.drop i).foldl (fun t r => zog (rDot ++ r.name) r.width t) T)⟩) := by
 have hu := hB.r
 refine zb8 (fun T => ?_) (fun i h ih T => ?_) <;> rw [zae]
 ·simp (maxSteps := 1000000) -implicitDefEqProofs only [↓reduceIte, ↓cond_true, ↓cond_false, sr1, sr2, kA, seval, d138, zp3, n138, e138, vH, List.drop_length, List.foldl_nil, zau, za6]
 ·rw [zv2 h]
  have hn := hN _ (List.getElem_mem h)
  simp (maxSteps := 1000000) -implicitDefEqProofs only [↓reduceIte, ↓cond_true, ↓cond_false, sr1, sr2, kA, seval, d138, zp3, n138, e138, vH, dlt_t h, wi_nat (show i < 2 ^ 62 by omega), ix_sl zab h, zei, zau, za6, zss, yaeg (show rDot.size + m.regs[i].name.size ≤ 1152921504606846976 by rw [zwz]; omega), ih, show (ByteArray.mk #[114, 46]) = rDot from rfl]
  trace_state
theorem zxe (m : MMach) (ok : Bool) (s : MInstr) (hs : s.operands.length < 1000000) (hB : ∀ o ∈ s.operands, o.kind = 1 → zgx m o) : ∀ i, i ≤ s.operands.length → ∀ T, lim (some [5]) 1 (blk 2 (om Tryz.prog ⟨138, none⟩ 1 (.loop (lpb Tryz.f138 1)) ⟨⟨52, [(0, .ptr 0 0), (5, .map (some 1)), (35, .rsl (slA s.po s.operands) s.po.cap 6 (s.operands.map zbj)), (36, .int .i64 s.operands.length), (37, .int .i64 i)]⟩, [], ⟨2, [some (.cells 129 (ckC m ok)), some (zsr T)]⟩⟩)) =
  some (.normal, ⟨⟨52, [(5, .map (some 1))]⟩, [], ⟨2, [some (.cells 129 (ckC m ok)), some (zsr ((s.operands.drop i).foldl (fun t o => zog o.name (zoo m o) t) T))]⟩⟩) := by
 refine zb8 (fun T => ?_) (fun i h ih T => ?_) <;> rw [zae]
 ·simp (maxSteps := 1000000) -implicitDefEqProofs only [↓reduceIte, ↓cond_true, ↓cond_false, sr1, sr2, kA, seval, d138, zp3, n138, e138, List.drop_length, List.foldl_nil, zau, za6]
 ·rw [zv2 h]
  have hw := yab8 m s.operands[i] (hB _ (List.getElem_mem h))
  simp only [zac, zad, zbj] at hw
  simp (maxSteps := 1000000) -implicitDefEqProofs only [↓reduceIte, ↓cond_true, ↓cond_false, sr1, sr2, kA, seval, d138, zp3, n138, e138, dlt_t h, wi_nat (show i < 2 ^ 62 by omega), ix_sl zab h, zbj, zau, za6, zss, hw, ih]
  trace_state
theorem zux (m : MMach) (hB : Bd m) (hN : ∀ r ∈ m.regs, r.name.size < 1000000) (ok : Bool) (s : MInstr) (hs : s.operands.length < 1000000) (hW : ∀ o ∈ s.operands, o.kind = 1 → zgx m o) : zaq Tryz.prog (om Tryz.prog) 138 [.ptr 0 0, zaf s] (ckH m ok) = some (.map (some 1), ⟨2, [some (.cells 129 (ckC m ok)), some (zsr (varT m s))]⟩) := by
 have L0 := zxd m hB hN ok s 0 (Nat.zero_le _)
 have L1 := zxe m ok s hs hW 0 (Nat.zero_le _)
 simp only [Int.natCast_zero, List.drop_zero, vH] at L0 L1
 rw [yarp _ _ (by simp)]
 simp (maxSteps := 1000000) -implicitDefEqProofs only [↓reduceIte, ↓cond_true, ↓cond_false, sr1, sr2, kA, seval, d138, zp3, n138, e138, zaf, ya17, zau, za6, zss, zog, L0, L1, varT, yavj, pcN]
 trace_state
abbrev tvH (m : MMach) (ok : Bool) (T : List Bn) : Heap := ⟨2, [some (.cells 129 (ckC m ok)), some (zsr T)]⟩
theorem zwq {t : MTerm} (h : zke t = true) (hk : t.kd = 24) : 0 < t.sub.length := by
 unfold zke at h
 rw [hk] at h
 have e : zes 24 = true := by decide
 have e2 : zf4 24 = 1 := by decide
 rw [e, e2] at h
 simp only [cond_true, Bool.and_eq_true, decide_eq_true_eq] at h
 omega
theorem yall (m : MMach) (T : List Bn) (p : Pl) (l : List MTerm) (hl : l.length < 2 ^ 62) (hS : ∀ x ∈ l, ∀ ok, zaq Tryz.prog (om Tryz.prog) 171 [.ptr 0 0, .map (some 1), zag x] (tvH m ok T) = some (.tup [], tvH m (ok && x.nodes.all (zrt T m.address)) T)) :
  ∀ i, i ≤ l.length → ∀ ok, lim (some []) 2 (blk 1 (om Tryz.prog ⟨171, none⟩ 2 (.loop (lpb Tryz.f171 0)) ⟨⟨50, [(0, .ptr 0 0), (1, .map (some 1)), (39, .rsl (slA p l) p.cap 6 (l.map zag)), (40, .int .i64 l.length), (41, .int .i64 i)]⟩, [], tvH m ok T⟩)) = some (.normal, ⟨⟨50, []⟩, [], tvH m (ok && (l.drop i).all (fun x => x.nodes.all (zrt T m.address))) T⟩) := by
 refine zb8 (fun ok => ?_) (fun i h ih ok => ?_) <;> rw [zae]
 ·simp (maxSteps := 1000000) -implicitDefEqProofs only [↓reduceIte, ↓cond_true, ↓cond_false, sr1, sr2, kA, seval, d171, zv4, n171, e171, tvH, List.drop_length, zau, za6]
 ·rw [List.drop_eq_getElem_cons h, List.all_cons]
  have hx := hS l[i] (List.getElem_mem h) ok
  simp only [tvH, zag, zah] at hx ih
  simp (maxSteps := 1000000) -implicitDefEqProofs only [↓reduceIte, ↓cond_true, ↓cond_false, sr1, sr2, kA, seval, d171, zv4, n171, e171, tvH, dlt_t h, wi_nat (show i < 2 ^ 62 by omega), ix_sl zab h, zag, zah, zau, za6, hx, ih, Bool.and_assoc]
theorem yac1 (m : MMach) (T : List Bn) (t : MTerm) (hz : t.sz < 2 ^ 62) (hn : zc2 t = true) : ∀ ok, zaq Tryz.prog (om Tryz.prog) 171 [.ptr 0 0, .map (some 1), zag t] (tvH m ok T) = some (.tup [], tvH m (ok && t.nodes.all (zrt T m.address)) T) := by
 refine zda (Q := fun t => t.sz < 2 ^ 62 → zc2 t = true → ∀ ok, zaq Tryz.prog (om Tryz.prog) 171 [.ptr 0 0, .map (some 1), zag t] (tvH m ok T) = some (.tup [], tvH m (ok && t.nodes.all (zrt T m.address)) T)) (fun t ih hz hn ok => ?_) t hz hn
 have hs := zfz t
 have hn' := hn
 unfold zc2 at hn'
 rw [zdv, Bool.and_eq_true, List.all_eq_true] at hn'
 have L := yall m T t.pl t.sub (by omega) (fun x hx => ih x hx (by have := zk3 hx; omega) (hn'.2 x hx)) 0 (Nat.zero_le _)
 simp only [tvH, Int.natCast_zero, List.drop_zero] at L
 rw [zdv]
 rw [yar9 _ _ (by simp)]
 cases h2 : decide (t.kd = 2) with
 | true => simp (maxSteps := 1000000) -implicitDefEqProofs only [↓reduceIte, ↓cond_true, ↓cond_false, sr1, sr2, kA, seval, d171, zv4, n171, e171, tvH, zag, zah, zau, za6, ya18, h2, zds, L, zrt, Bool.and_assoc]
 | false =>
  cases h24 : decide (t.kd = 24) with
  | true =>
   have h0 := zwq hn'.1 (of_decide_eq_true h24)
   have i0 := zdq h0
   have w0 := zdb h0
   simp only [Int.natCast_zero] at i0
   simp (maxSteps := 1000000) -implicitDefEqProofs only [↓reduceIte, ↓cond_true, ↓cond_false, sr1, sr2, kA, seval, d171, zv4, n171, e171, tvH, zag, zah, zau, za6, h2, h24, i0, w0, zds, L, zrt, Bool.and_assoc]
  | false => simp (maxSteps := 1000000) -implicitDefEqProofs only [↓reduceIte, ↓cond_true, ↓cond_false, sr1, sr2, kA, seval, d171, zv4, n171, e171, tvH, zag, zah, zau, za6, h2, h24, L, zrt, Bool.and_assoc]
theorem zsf {b j n sz : Nat} {k : IntKind} {i : Int} (h : (decide (0 ≤ i) && decide (i < (n : Int))) = true) : ixA sz (.sl b j n sz) (.int k i) = some (.ptr b (j * sz + i.toNat * sz)) := by
 simp only [Bool.and_eq_true, decide_eq_true_eq] at h
 obtain ⟨i, rfl⟩ := Int.eq_ofNat_of_zero_le h.1
 exact Go.Ab.ix_sl (by omega)
abbrev fH (m : MMach) (ok : Bool) (T : List Bn) (t : MTerm) : Heap := ⟨3, [some (.cells 129 (ckC m ok)), some (zsr T), some (.cells 120 t.cs)]⟩
theorem zq8 {t : MTerm} (h : decide (znp t = 0) = true) : zc2 t = true := by
 have h' := of_decide_eq_true h
 unfold znp at h'
 cases hs : zrz t with
 | true => rw [hs] at h'; simp at h'
 | false =>
  cases hb : zc2 t with
  | true => rfl
  | false => rw [hs, hb] at h'; simp at h'
theorem zjx (m : MMach) (T : List Bn) (t : MTerm) (ho : TOk t) (ok : Bool) : zaq Tryz.prog (om Tryz.prog) 162 [.ptr 0 0, .map (some 1), .sl 2 0 1 6] (fH m ok T t) = some (.tup [], fH m (ok && zig m T t) T t) := by
 have hc := yadx t ho
 simp only [zag, zah] at hc
 rw [yar4 _ _ (by simp)]
 rw [fH, zah]
 cases h : decide (znp t = 0) with
 | true =>
  have hl := yac1 m T t ho.sz (zq8 h)
  simp only [tvH, zag, zah] at hl
  cases ok with
  | true => simp (maxSteps := 1000000) -implicitDefEqProofs only [↓reduceIte, ↓cond_true, ↓cond_false, sr1, sr2, kA, seval, d162, n162, e162, fH, zae, zsf, zag, zah, zau, za6, hc, h, zds, hl, zig]
  | false => simp (maxSteps := 1000000) -implicitDefEqProofs only [↓reduceIte, ↓cond_true, ↓cond_false, sr1, sr2, kA, seval, d162, n162, e162, fH, zae, zsf, zag, zah, zau, za6, hc, h, zds, hl, zig]
 | false =>
  simp (maxSteps := 1000000) -implicitDefEqProofs only [↓reduceIte, ↓cond_true, ↓cond_false, sr1, sr2, kA, seval, d162, n162, e162, fH, zae, zsf, zag, zah, zau, za6, hc, h, zds, zig]
theorem noN (t : MTerm) : (!decide (t.kd = 0) || !decide (t.wd = 0) || !decide (t.bt = 0) || !decide (t.nm = ByteArray.empty) || !decide (t.lo = 0) || decide (0 < (t.sub.length : Int))) = !zov t := by
 obtain ⟨k, w, b, n, l, p, sub⟩ := t
 have e : decide (0 < (sub.length : Int)) = !decide ((sub.length : Int) = 0) := by
  by_cases q : (sub.length : Int) = 0
  ·rw [q]; rfl
  ·rw [decide_eq_false q, decide_eq_true (show 0 < (sub.length : Int) by omega)]; rfl
 show (!decide (k = 0) || !decide (w = 0) || !decide (b = 0) || !decide (n = ByteArray.empty) || !decide (l = 0) || decide (0 < (sub.length : Int))) = !(decide (k = 0) && decide (w = 0) && decide (b = 0) && decide (n = ByteArray.empty) && decide (l = 0) && decide ((sub.length : Int) = 0))
 rw [e]
 simp only [Bool.not_and]
theorem zt8 (t : MTerm) : zaq Tryz.prog (om Tryz.prog) 163 [.sl 0 0 1 6] ⟨1, [some (.cells 120 t.cs)]⟩ = some (.bool (zov t), ⟨1, [some (.cells 120 t.cs)]⟩) := by
 rw [yae5 _ _ (by simp)]
 simp (maxSteps := 1000000) -implicitDefEqProofs only [↓reduceIte, ↓cond_true, ↓cond_false, sr1, sr2, kA, seval, d163, n163, e163, zae, zsf, zah, noN, Bool.not_not]
theorem zwr (a b : MTerm) : zaq Tryz.prog (om Tryz.prog) 163 [.sl 0 0 2 6] ⟨1, [some (.cells 120 (a.cs ++ b.cs))]⟩ = some (.bool (zov a && zov b), ⟨1, [some (.cells 120 (a.cs ++ b.cs))]⟩) := by
 rw [yae5 _ _ (by simp)]
 cases ha : zov a with
 | true => simp (maxSteps := 1000000) -implicitDefEqProofs only [↓reduceIte, ↓cond_true, ↓cond_false, sr1, sr2, kA, seval, d163, n163, e163, zae, zsf, zah, noN, Bool.not_not, ha]
 | false => simp (maxSteps := 1000000) -implicitDefEqProofs only [↓reduceIte, ↓cond_true, ↓cond_false, sr1, sr2, kA, seval, d163, n163, e163, zae, zsf, zah, noN, Bool.not_not, ha]
structure EOk (x : MEff) : Prop where
 a : TOk x.addr
 v : TOk x.value
 c : TOk x.cond
theorem zcp (x : MEff) : zu4 x = .agg [.int .u8 x.kind, .int .i64 x.operand, .int .i64 x.reg, .int .u8 x.addr.kd, .int .i64 x.addr.wd, .int .u64 x.addr.bt, .str x.addr.nm, .int .i64 x.addr.lo, .rsl (slA x.addr.pl x.addr.sub) x.addr.pl.cap 6 (x.addr.sub.map zag), .int .u8 x.value.kd, .int .i64 x.value.wd, .int .u64 x.value.bt, .str x.value.nm, .int .i64 x.value.lo, .rsl (slA x.value.pl x.value.sub) x.value.pl.cap 6 (x.value.sub.map zag), .int .u8 x.cond.kd, .int .i64 x.cond.wd, .int .u64 x.cond.bt, .str x.cond.nm, .int .i64 x.cond.lo, .rsl (slA x.cond.pl x.cond.sub) x.cond.pl.cap 6 (x.cond.sub.map zag)] := by
 simp only [zu4, effC, zah]; rfl
theorem ya4n (m : MMach) (s : MInstr) (x : MEff) (T : List Bn) (ho : EOk x) (h1 : decide (x.kind = 1) = false) (h2 : decide (x.kind = 2) = false) (h3 : decide (x.kind = 3) = false) (ok : Bool) :
  zaq Tryz.prog (om Tryz.prog) 139 [.ptr 0 0, zaf s, zu4 x, .map (some 1)] (tvH m ok T) = some (.tup [], tvH m (ok && zrm m s T x) T) := by
 have hF := fun ok => zjx m T x.value ho.v ok
 have hN := zwr x.addr x.cond
 simp only [fH, zah, List.cons_append, List.nil_append] at hF hN
 rw [zcp]
 rw [zpk _ _ (by simp)]
 cases h4 : decide (x.kind = 4) with
 | true => simp (maxSteps := 1000000) -implicitDefEqProofs only [↓reduceIte, ↓cond_true, ↓cond_false, sr1, sr2, kA, seval, d139, zkn, zgo, zgp, zgq, zgr, n139, zkx, zky, tvH, zaf, zau, za6, h1, h2, h3, h4, hF, hN, zds, zec, zrm, Bool.and_assoc]
 | false => simp (maxSteps := 1000000) -implicitDefEqProofs only [↓reduceIte, ↓cond_true, ↓cond_false, sr1, sr2, kA, seval, d139, zkn, zgo, zgp, zgq, zgr, n139, zkx, zky, tvH, zaf, zau, za6, h1, h2, h3, h4, hF, hN, zds, zec, zrm, Bool.and_assoc]
theorem ya4m (m : MMach) (s : MInstr) (x : MEff) (T : List Bn) (ho : EOk x) (h3 : x.kind = 3) (ok : Bool) :
  zaq Tryz.prog (om Tryz.prog) 139 [.ptr 0 0, zaf s, zu4 x, .map (some 1)] (tvH m ok T) = some (.tup [], tvH m (ok && zrm m s T x) T) := by
 have hF := fun ok => zjx m T x.value ho.v ok
 have hG := fun ok => zjx m T x.cond ho.c ok
 have hN := zt8 x.addr
 have hM := zt8 x.cond
 simp only [fH, zah, List.cons_append, List.nil_append] at hF hG hN hM
 rw [zcp]
 rw [zpk _ _ (by simp)]
 cases hc : zov x.cond with
 | true => simp (maxSteps := 1000000) -implicitDefEqProofs only [↓reduceIte, ↓cond_true, ↓cond_false, sr1, sr2, kA, seval, d139, zkn, zgo, zgp, zgq, zgr, n139, zkx, zky, tvH, zaf, zau, za6, h3, hF, hN, hM, hc, zds, zec, zrm, Bool.and_assoc]
 | false => simp (maxSteps := 1000000) -implicitDefEqProofs only [↓reduceIte, ↓cond_true, ↓cond_false, sr1, sr2, kA, seval, d139, zkn, zgo, zgp, zgq, zgr, n139, zkx, zky, tvH, zaf, zau, za6, h3, hF, hG, hN, hM, hc, zds, zec, zrm, Bool.and_assoc]
theorem ya3j (w : Int) (a : Option Addr) (c : Nat) (h : okS a ([8, 16, 32, 64].map zdt) = true) : zaq Tryz.prog (om Tryz.prog) 135 [.rsl a c 1 [.int .i64 8, .int .i64 16, .int .i64 32, .int .i64 64], .int .i64 w] ⟨0, []⟩ = some (.bool (zg4 w), ⟨0, []⟩) := by
 have := zlr a c [8, 16, 32, 64] w h (by decide)
 simpa [hasI, zg4, zdt] using this
theorem ya4l (m : MMach) (s : MInstr) (x : MEff) (T : List Bn) (ho : EOk x) (h2 : x.kind = 2) (ok : Bool) :
  zaq Tryz.prog (om Tryz.prog) 139 [.ptr 0 0, zaf s, zu4 x, .map (some 1)] (tvH m ok T) = some (.tup [], tvH m (ok && zrm m s T x) T) := by
 have hF := fun ok => zjx m T x.value ho.v ok
 have hG := fun ok => zjx m T x.addr ho.a ok
 have hM := zt8 x.cond
 have hC := fun a c => ya3j x.value.wd (some a) c rfl
 simp only [fH, zah, List.cons_append, List.nil_append] at hF hG hM
 rw [zcp]
 rw [zpk _ _ (by simp)]
 simp (maxSteps := 1000000) -implicitDefEqProofs only [↓reduceIte, ↓cond_true, ↓cond_false, sr1, sr2, kA, seval, d139, zkn, zgo, zgp, zgq, zgr, n139, zkx, zky, tvH, zaf, zau, za6, h2, hF, hG, hM, hC, zds, zec, zrv, zrm, Bool.and_assoc]
theorem ya4k (m : MMach) (hB : Bd m) (s : MInstr) (hs : s.operands.length < 1000000) (hW : ∀ o ∈ s.operands, o.kind = 1 → zgx m o) (x : MEff) (T : List Bn) (ho : EOk x) (h1 : x.kind = 1) (ok : Bool) :
  zaq Tryz.prog (om Tryz.prog) 139 [.ptr 0 0, zaf s, zu4 x, .map (some 1)] (tvH m ok T) = some (.tup [], tvH m (ok && zrm m s T x) T) := by
 have hF := fun ok => zjx m T x.value ho.v ok
 have hN := zwr x.addr x.cond
 simp only [fH, zah, List.cons_append, List.nil_append] at hF hN
 rw [zcp]
 cases c1 : (decide (x.operand = -1) && inR x.reg 0 ((m.regs.length : Int) - 1)) with
 | true =>
  rw [Bool.and_eq_true] at c1
  obtain ⟨z0, z1⟩ := zd7 c1.2
  rw [zpk _ _ (by simp)]
  simp (maxSteps := 1000000) -implicitDefEqProofs only [↓reduceIte, ↓cond_true, ↓cond_false, sr1, sr2, kA, seval, d139, zkn, zgo, zgp, zgq, zgr, n139, zkx, zky, tvH, zaf, zau, za6, h1, hF, hN, c1.1, c1.2, zal, zas hB.r, ix_z zab z0 z1, zei, zds, zrm, Bool.and_assoc, zcf z1]
 | false =>
  have c1' := c1
  rw [zpk _ _ (by simp)]
  cases d1 : decide (x.operand = -1) with
  | true =>
   have e1 := of_decide_eq_true d1
   rw [d1, Bool.true_and] at c1'
   have c4 : inR (-1) 0 ((s.operands.length : Int) - 1) = false := by simp [inR]
   simp (maxSteps := 1000000) -implicitDefEqProofs only [↓reduceIte, ↓cond_true, ↓cond_false, sr1, sr2, kA, seval, d139, zkn, zgo, zgp, zgq, zgr, n139, zkx, zky, tvH, zaf, zau, za6, h1, hF, hN, e1, c1', zal, zas hB.r, zas hs, c4, zds, zrm, Bool.and_assoc]
  | false =>
   cases c3 : (decide (x.reg = 0) && inR x.operand 0 ((s.operands.length : Int) - 1)) with
   | true =>
    rw [Bool.and_eq_true] at c3
    obtain ⟨z0, z1⟩ := zd7 c3.2
    have hw := yab8 m s.operands[x.operand.toNat] (hW _ (List.getElem_mem z1))
    simp only [zac, zad, zbj] at hw
    simp (maxSteps := 1000000) -implicitDefEqProofs only [↓reduceIte, ↓cond_true, ↓cond_false, sr1, sr2, kA, seval, d139, zkn, zgo, zgp, zgq, zgr, n139, zkx, zky, tvH, zaf, zau, za6, h1, hF, hN, d1, c3.1, c3.2, zal, zas hs, ix_z zab z0 z1, zbj, hw, zds, zec, zrm, znv, zlb z1, Bool.and_assoc]
   | false =>
    cases d3 : decide (x.reg = 0) with
    | true =>
     rw [d3, Bool.true_and] at c3
     simp (maxSteps := 1000000) -implicitDefEqProofs only [↓reduceIte, ↓cond_true, ↓cond_false, sr1, sr2, kA, seval, d139, zkn, zgo, zgp, zgq, zgr, n139, zkx, zky, tvH, zaf, zau, za6, h1, hF, hN, d1, d3, c3, zal, zas hs, zds, zrm, Bool.and_assoc]
    | false =>
     simp (maxSteps := 1000000) -implicitDefEqProofs only [↓reduceIte, ↓cond_true, ↓cond_false, sr1, sr2, kA, seval, d139, zkn, zgo, zgp, zgq, zgr, n139, zkx, zky, tvH, zaf, zau, za6, h1, hF, hN, d1, d3, zds, zrm, Bool.and_assoc]
theorem yack (m : MMach) (hB : Bd m) (s : MInstr) (hs : s.operands.length < 1000000) (hW : ∀ o ∈ s.operands, o.kind = 1 → zgx m o) (x : MEff) (T : List Bn) (ho : EOk x) (ok : Bool) :
  zaq Tryz.prog (om Tryz.prog) 139 [.ptr 0 0, zaf s, zu4 x, .map (some 1)] (tvH m ok T) = some (.tup [], tvH m (ok && zrm m s T x) T) := by
 by_cases h1 : x.kind = 1
 ·exact ya4k m hB s hs hW x T ho h1 ok
 by_cases h2 : x.kind = 2
 ·exact ya4l m s x T ho h2 ok
 by_cases h3 : x.kind = 3
 ·exact ya4m m s x T ho h3 ok
 exact ya4n m s x T ho (decide_eq_false h1) (decide_eq_false h2) (decide_eq_false h3) ok
theorem zlm {a b : Int} : zc6 .andNot .u64 a b = some (.int .u64 (zm7 a b)) := rfl
abbrev iH (m : MMach) (ok : Bool) (s : MInstr) (l : List ByteArray) : Heap := ⟨4, [some (.cells 129 (ckC m ok)), some (.cells 113 (zi4 s)), some (.cells 133 [.sl 3 0 l.length 1]), some (.cells 9 (l.map AV.str))]⟩
theorem zvz : ∀ {l : List MPiece} {a : Int}, 0 ≤ a → (∀ p ∈ l, 0 ≤ p.len ∧ p.len ≤ 1000) → a + 1000 * l.length ≤ 1000000000000 → a ≤ zn2 a l
 | [], a, h0, _, _ => Int.le_refl a
 | p :: l, a, h0, hp, hb => by
  have hq := hp p (by simp)
  simp only [List.length_cons] at hb
  have e : IntKind.i64.wrap (a + p.len) = a + p.len := zjp (by omega) (by omega)
  have := zvz (l := l) (a := a + p.len) (by omega) (fun q hq => hp q (by simp [hq])) (by omega)
  show a ≤ zn2 (IntKind.i64.wrap (a + p.len)) l
  rw [e]; omega
theorem yakv {m : MMach} (h1 : 1 ≤ m.word) (h2 : m.word ≤ 4) {o : MOpd} (ho : o.pieces.length < 1000000) {ok : Bool} (h : (zlk m.word o.pieces ok 0).2.1 = true) : 0 ≤ zdx o := by
 obtain ⟨_, ha, _⟩ := (zue h1 h2).1.1 h
 refine zvz (Int.le_refl 0) (fun p hp => ?_) (by omega)
 have := List.all_eq_true.1 ha p hp
 have e8 : IntKind.i64.wrap (8 * m.word) = 8 * m.word := zjp (by omega) (by omega)
 simp only [zej, inR, e8, Bool.and_eq_true, decide_eq_true_eq] at this
 omega
structure IOk (s : MInstr) : Prop where
 o : s.operands.length < 100000
 p : ∀ o ∈ s.operands, o.pieces.length < 1000000
 n : ∀ o ∈ s.operands, o.name.size < 2 ^ 62
 e : s.effects.length < 1000000
 t : ∀ x ∈ s.effects, EOk x
theorem yahi {m : MMach} {s : MInstr} {i : Nat} (h : i < s.operands.length) {ok : Bool} {ns : List ByteArray} {t : Int} : zyt m s i (s.operands.drop i) ok ns t =
  zyt m s (i + 1) (s.operands.drop (i + 1)) ((zkf m s i s.operands[i] (ok && (zbm s.operands[i].name && !zn3 ns s.operands[i].name))).1 && decide (zzo t (zkf m s i s.operands[i] (ok && (zbm s.operands[i].name && !zn3 ns s.operands[i].name))).2 = 0)) (ns ++ [s.operands[i].name]) (orI t (zkf m s i s.operands[i] (ok && (zbm s.operands[i].name && !zn3 ns s.operands[i].name))).2) := by
 rw [List.drop_eq_getElem_cons h]; rfl
theorem yalg (m : MMach) (hB : Bd m) (h1 : 1 ≤ m.word) (h2 : m.word ≤ 4) (s : MInstr) (hs : IOk s) : ∀ i, i ≤ s.operands.length → ∀ ok l t, l.length + (s.operands.length - i) < 1000000 →
  lim (some [0, 3]) 1 (blk 0 (om Tryz.prog ⟨92, none⟩ 1 (.loop (lpb Tryz.f92 0)) ⟨⟨136, [(0, .ptr 0 0), (3, .ptr 1 0), (4, .ptr 2 0), (5, .int .u64 t), (39, .rsl (slA s.po s.operands) s.po.cap 6 (s.operands.map zbj)), (40, .int .i64 s.operands.length), (41, .int .i64 i)]⟩, [], iH m ok s l⟩)) =
  some (.normal, ⟨⟨136, [(0, .ptr 0 0), (3, .ptr 1 0)]⟩, [], ⟨2, [some (.cells 129 (ckC m (zyt m s i (s.operands.drop i) ok l t).1)), some (.cells 113 (zi4 s))]⟩⟩) := by
 have hu : s.operands.length < 1000000 := by have := hs.o; omega
 refine zb8 (fun ok l t hl => ?_) (fun i h ih ok l t hl => ?_) <;> rw [zae]
 ·simp (maxSteps := 1000000) -implicitDefEqProofs only [↓reduceIte, ↓cond_true, ↓cond_false, sr1, sr2, kA, seval, d92, ztv, zl2, n92, zt6, e92, iH, List.drop_length, zyt]
 ·have hm := List.getElem_mem h
  have L := fun ok t => ih ok (l ++ [s.operands[i].name]) t (by simp; omega)
  have hq := ziu l _ (hs.n _ hm) (by omega)
  have hO := zys m hB s i h hu (hs.p _ hm) (ok && (zbm s.operands[i].name && !zn3 l s.operands[i].name)) (fun e => yakv h1 h2 (hs.p _ hm) e)
  rw [yahi h]
  generalize zkf m s i s.operands[i] (ok && (zbm s.operands[i].name && !zn3 l s.operands[i].name)) = r at hO ⊢
  simp only [iH, List.length_append, List.length_cons, List.length_nil, List.map_append, List.map_cons, List.map_nil, Nat.zero_add, zaf] at L hO
  simp (maxSteps := 1000000) -implicitDefEqProofs only [↓reduceIte, ↓cond_true, ↓cond_false, sr1, sr2, kA, seval, d92, ztv, zl2, n92, zt6, e92, iH, dlt_t h, wi_nat (show i < 2 ^ 62 by omega), ix_sl zab h, zbj, zds, hq, hO, zm6, yahj, L, Bool.and_assoc]
def tabU (T : List (Int × Int)) : Blk := .map (zk7 (AV.int .u8) (AV.int .i64) 0 T) T.length
theorem yab2 : Blk.map [] 0 = tabU [] := rfl
theorem zhb {T : List (Int × Int)} : (tabU T).refs = [] := zot (fun _ => rfl) (fun _ => rfl)
theorem zka {T : List (Int × Int)} {ρ : Nat → Nat} : (tabU T).ren ρ = tabU T := zyb (fun _ => rfl) (fun _ => rfl)
theorem zq7 {T : List (Int × Int)} {n z : Int} : lkK .int (.int .i64 z) (.int .u8 n) false (entB (some (tabU T))) = some (.int .i64 ((zek n T).getD z)) := by
 unfold tabU; rw [entB_some, lk_some kf_int]; exact yagr (zt1 .u8)
theorem yau6 {T : List (Int × Int)} {n w : Int} {H : Heap} {b : Nat} : muO .int H b (.int .u8 n) (.int .i64 w) (some (tabU T)) = some (H.set b (tabU (zog n w T))) := by
 unfold tabU; rw [mu_some kf_int]; exact yagw (zt1 .u8) rfl
def kst (T : List (Int × Int)) (x : MEff) : List (Int × Int) := zog x.kind (IntKind.i64.wrap ((zek x.kind T).getD 0 + 1)) T
def zwj (l : List MEff) (T : List (Int × Int)) : List (Int × Int) := l.foldl kst T
theorem zwk {k : Int} : ∀ {l : List MEff} {T : List (Int × Int)}, (∀ j, 0 ≤ (zek j T).getD 0 ∧ (zek j T).getD 0 + l.length ≤ 1000000) → (zek k (zwj l T)).getD 0 = (zek k T).getD 0 + (l.countP fun x => decide (x.kind = k) : Nat)
 | [], T, _ => by simp [zwj]
 | x :: l, T, h => by
  have hx := h x.kind
  simp only [List.length_cons] at hx h
  have e : IntKind.i64.wrap ((zek x.kind T).getD 0 + 1) = (zek x.kind T).getD 0 + 1 := zjp (by omega) (by omega)
  have h' : ∀ j, 0 ≤ (zek j (kst T x)).getD 0 ∧ (zek j (kst T x)).getD 0 + l.length ≤ 1000000 := by
   intro j
   unfold kst
   rw [zhc, e]
   by_cases q : j = x.kind
   ·simp only [q, decide_true, cond_true, Option.getD_some]; omega
   ·simp only [q, decide_false, cond_false]; have := h j; omega
  have ih := zwk (k := k) h'
  unfold zwj at ih ⊢
  rw [List.foldl_cons, ih, List.countP_cons]
  unfold kst
  rw [zhc, e]
  by_cases q : k = x.kind
  ·subst q; simp; omega
  ·simp [q, show ¬ x.kind = k from fun q' => q q'.symm]
theorem yalh (m : MMach) (hB : Bd m) (s : MInstr) (hs : IOk s) (hW : ∀ o ∈ s.operands, o.kind = 1 → zgx m o) (T : List Bn) : ∀ i, i ≤ s.effects.length → ∀ ok K, lim (some [0, 3, 10]) 1 (blk 2 (om Tryz.prog ⟨92, none⟩ 1 (.loop (lpb Tryz.f92 1)) ⟨⟨136, [(0, .ptr 0 0), (3, .ptr 1 0), (9, .map (some 2)), (10, .map (some 3)), (77, .rsl (slA s.pe s.effects) s.pe.cap 21 (s.effects.map zu4)), (78, .int .i64 s.effects.length), (79, .int .i64 i)]⟩, [], ⟨4, [some (.cells 129 (ckC m ok)), some (.cells 113 (zi4 s)), some (zsr T), some (tabU K)]⟩⟩)) =
  some (.normal, ⟨⟨136, [(0, .ptr 0 0), (3, .ptr 1 0), (10, .map (some 2))]⟩, [], ⟨3, [some (.cells 129 (ckC m (ok && (s.effects.drop i).all (zrm m s T)))), some (.cells 113 (zi4 s)), some (tabU (zwj (s.effects.drop i) K))]⟩⟩) := by
 have hu := hs.e
 refine zb8 (fun ok K => ?_) (fun i h ih ok K => ?_) <;> rw [zae]
 ·simp (maxSteps := 1000000) -implicitDefEqProofs only [↓reduceIte, ↓cond_true, ↓cond_false, sr1, sr2, kA, seval, d92, ztv, zl2, n92, zt6, e92, List.drop_length, zwj, List.foldl_nil, zau, za6, zhb, zka]
 ·have hE := yack m hB s (by have := hs.o; omega) hW s.effects[i] T (hs.t _ (List.getElem_mem h)) ok
  have ek : zwj (s.effects.drop i) K = zwj (s.effects.drop (i + 1)) (kst K s.effects[i]) := by rw [List.drop_eq_getElem_cons h]; rfl
  rw [ek, List.drop_eq_getElem_cons h, List.all_cons, kst]
  simp only [tvH, zaf, zcp] at hE
  simp (maxSteps := 1000000) -implicitDefEqProofs only [↓reduceIte, ↓cond_true, ↓cond_false, sr1, sr2, kA, seval, d92, ztv, zl2, n92, zt6, e92, dlt_t h, wi_nat (show i < 2 ^ 62 by omega), ix_sl zab h, zcp, zau, za6, zhb, zka, zq7, yau6, hE, ih, Bool.and_assoc]
theorem zg7 {α : Type} {nm : α → ByteArray} {q : α → Bool} {us : List α} (h : zcg nm q us [] = true) {u : α} (hu : u ∈ us) : zbm (nm u) = true ∧ q u = true := by
 rw [zeq (i := 0), zmv] at h
 obtain ⟨i, hi, rfl⟩ := List.getElem_of_mem hu
 obtain ⟨h1, h2, _⟩ := h i us[i] (List.getElem?_eq_getElem hi)
 exact ⟨h1, h2⟩
theorem zwo {s : ByteArray} (h : zbm s = true) : s.size ≤ 24 := by
 unfold zbm at h
 simp only [Bool.and_eq_true, Bool.not_eq_true', Bool.or_eq_false_iff, decide_eq_false_iff_not] at h
 omega
theorem yaew {m : MMach} (hb : zev m = true) {o : MOpd} (h : inR o.bank 0 ((m.banks.length : Int) - 1) = true) : zgx m o := by
 obtain ⟨z0, z1⟩ := zd7 h
 obtain ⟨_, hq⟩ := zg7 hb (List.getElem_mem z1)
 simp only [zpi, Bool.and_eq_true, decide_eq_true_eq] at hq
 have h0 : 0 < m.banks[o.bank.toNat].regs.length := by omega
 have hp := zbe.1 hq.2 0 (Nat.zero_le _) h0
 simp only [zvb, Bool.and_eq_true] at hp
 have hr := hp.1.1
 rw [zcq h0] at hr
 obtain ⟨r0, r1⟩ := zd7 hr
 exact ⟨z1, z0, h0, r0, r1⟩
theorem ya0i {m : MMach} {s : MInstr} (h1 : 1 ≤ m.word) (h2 : m.word ≤ 4) (hb : zev m = true) {ok : Bool} {l : List ByteArray} {t : Int} (h : (zyt m s 0 s.operands ok l t).1 = true) : ∀ o ∈ s.operands, o.kind = 1 → zgx m o := by
 intro o ho hk
 obtain ⟨_, hq, _⟩ := (zmm h1 h2).1 h
 rw [zmv] at hq
 obtain ⟨i, hi, rfl⟩ := List.getElem_of_mem ho
 obtain ⟨_, q2, _⟩ := hq i _ (List.getElem?_eq_getElem hi)
 simp only [opQ, zc4, Bool.and_eq_true, hk, decide_true, cond_true] at q2
 exact yaew hb q2.2.1.1
theorem yaug {m : MMach} {s : MInstr} (h1 : 1 ≤ m.word) (h2 : m.word ≤ 4) {ok : Bool} {ns : List ByteArray} {t : Int} : (zyt m s 0 s.operands ok ns t).1 = (ok && (zyt m s 0 s.operands true ns t).1) := by
 rw [Bool.eq_iff_iff, Bool.and_eq_true, zmm h1 h2, zmm h1 h2]
 simp
theorem ya29 (m : MMach) (hB : Bd m) (s : MInstr) : zui m s = (decide ((zrj 3 s : Int) ≤ 1) && ((decide ((zrj 4 s : Int) = 0) || decide ((s.effects.length : Int) = 1)) && (inR s.unit 0 ((m.units.length : Int) - 1) && (inR s.busy 1 15 && (inR s.latency 1 15 && (inR s.slots 0 2 && (decide (s.slots = 0) || decide ((zrj 3 s : Int) = 1)))))))) := rfl
theorem zwd (m : MMach) (hB : Bd m) (h1 : 1 ≤ m.word) (h2 : m.word ≤ 4) (hr : zhx m = true) (hb : zev m = true) (s : MInstr) (hs : IOk s) (ok : Bool) : zaq Tryz.prog (om Tryz.prog) 92 [.ptr 0 0, zaf s] (ckH m ok) = some (.tup [], ckH m (ok && zia m s)) := by
 have hN : ∀ r ∈ m.regs, r.name.size < 1000000 := fun r hm => by
  unfold zhx at hr
  rw [Bool.and_eq_true] at hr
  have := zwo (zg7 hr.2 hm).1
  omega
 have L0 := fun ok => yalg m hB h1 h2 s hs 0 (Nat.zero_le _) ok [pcN] s.mask (by have := hs.o; simp; omega)
 simp only [iH, Int.natCast_zero, List.drop_zero, List.length_cons, List.length_nil, List.map_cons, List.map_nil, Nat.zero_add] at L0
 have hp : (ByteArray.mk #[112, 99]) = pcN := rfl
 have hm := zhq (IntKind.i64.wrap (8 * m.word))
 generalize ea : decide (zm7 s.mask (zcb (IntKind.i64.wrap (8 * m.word))) = 0) = a
 generalize eb : decide (zm7 s.mat s.mask = 0) = b
 have eo := yaug (m := m) (s := s) h1 h2 (ok := ok && (a && b)) (ns := [pcN]) (t := s.mask)
 cases ho : (zyt m s 0 s.operands (ok && (a && b)) [pcN] s.mask).1 with
 | false =>
  rw [ho] at eo
  have hz : (ok && zia m s) = false := by
   unfold zia
   rw [ea, eb, ← Bool.and_assoc, ← Bool.and_assoc, ← eo]; rfl
  rw [hz]
  rw [yaoe _ _ (by simp)]
  simp (maxSteps := 1000000) -implicitDefEqProofs only [↓reduceIte, ↓cond_true, ↓cond_false, sr1, sr2, kA, seval, d92, ztv, zl2, n92, zt6, e92, zaf, hm, zlm, ea, eb, zec, hp, L0, ho]
 | true =>
  rw [ho] at eo
  have hx : ok = true ∧ a = true ∧ b = true ∧ (zyt m s 0 s.operands true [pcN] s.mask).1 = true := by simpa [Bool.and_assoc] using eo.symm
  obtain ⟨rfl, rfl, rfl, ht⟩ := hx
  have hW := ya0i h1 h2 hb ht
  have hV := zux m hB hN true s (by have := hs.o; omega) hW
  have L1 := yalh m hB s hs hW (varT m s) 0 (Nat.zero_le _) true []
  have hk : ∀ k, (zek k (zwj s.effects [])).getD 0 = (zrj k s : Int) := fun k => by
   have := zwk (k := k) (l := s.effects) (T := []) (fun j => by have := hs.e; simp [zek]; omega)
   rw [this]; simp [zek, zrj]
  simp only [Int.natCast_zero, List.drop_zero, zaf, vH] at L1 hV
  have hI : zia m s = (s.effects.all (zrm m s (varT m s)) && zui m s) := by
   unfold zia; rw [ea, eb, ht]; rfl
  rw [hI]
  rw [yaoe _ _ (by simp)]
  cases c1 : decide ((zrj 4 s : Int) = 0) with
  | true =>
   cases c2 : decide (s.slots = 0) with
   | true => simp (maxSteps := 1000000) -implicitDefEqProofs only [↓reduceIte, ↓cond_true, ↓cond_false, sr1, sr2, kA, seval, d92, ztv, zl2, n92, zt6, e92, zaf, hm, zlm, ea, eb, zec, hp, L0, ht, hV, yab2, zau, za6, zhb, zka, zq7, L1, hk, c1, c2, zal, zas hB.u, yalz, zui, Bool.and_assoc]
   | false => simp (maxSteps := 1000000) -implicitDefEqProofs only [↓reduceIte, ↓cond_true, ↓cond_false, sr1, sr2, kA, seval, d92, ztv, zl2, n92, zt6, e92, zaf, hm, zlm, ea, eb, zec, hp, L0, ht, hV, yab2, zau, za6, zhb, zka, zq7, L1, hk, c1, c2, zal, zas hB.u, yalz, zui, Bool.and_assoc]
  | false =>
   cases c2 : decide (s.slots = 0) with
   | true => simp (maxSteps := 1000000) -implicitDefEqProofs only [↓reduceIte, ↓cond_true, ↓cond_false, sr1, sr2, kA, seval, d92, ztv, zl2, n92, zt6, e92, zaf, hm, zlm, ea, eb, zec, hp, L0, ht, hV, yab2, zau, za6, zhb, zka, zq7, L1, hk, c1, c2, zal, zas hB.u, yalz, zui, Bool.and_assoc]
   | false => simp (maxSteps := 1000000) -implicitDefEqProofs only [↓reduceIte, ↓cond_true, ↓cond_false, sr1, sr2, kA, seval, d92, ztv, zl2, n92, zt6, e92, zaf, hm, zlm, ea, eb, zec, hp, L0, ht, hV, yab2, zau, za6, zhb, zka, zq7, L1, hk, c1, c2, zal, zas hB.u, yalz, zui, Bool.and_assoc]
end Go.Proofs.YtcfcphhamfhfcaaGreatDoor.v
