/- What the law's proof leans on, part 20. Conditions: in each statement. -/
import Derived.Test.YtibehelnfbcnjaaGreatDoorQC2
import Derived.Test.YtibehelnfbcnjaaGreatDoorQC3
import Derived.Test.YtibehelnfbcnjaaGreatDoorQC4
import Derived.Test.YtibehelnfbcnjaaGreatDoorQC5
import Derived.Test.YtibehelnfbcnjaaGreatDoorQVX
set_option linter.all false
namespace Go.Proofs.YtibehelnfbcnjaaGreatDoor.v
open Go Go.Ab
set_option maxRecDepth 100000
set_option linter.unusedSimpArgs false
set_option linter.unusedVariables false
theorem agI : ze1 Tryz.prog 3 = some false := by kernel_rfl
theorem szI : za0 Tryz.prog 3 = some 1 := by kernel_rfl
theorem agS : ze1 Tryz.prog 9 = some false := by kernel_rfl
theorem szS : za0 Tryz.prog 9 = some 1 := by kernel_rfl
structure Pl where
 a : Addr
 z : Bool
 cap : Nat
def slA {α : Type} (p : Pl) (l : List α) : Option Addr := if l.isEmpty && p.z then none else some p.a
theorem yaxq {α : Type} {p : Pl} {l : List α} {i : Nat} (h : i < l.length) : slA p l = some p.a := by
 cases l with
 | nil => cases h
 | cons x l => rfl
theorem zab {α β : Type} {p : Pl} {l : List α} {f : α → β} : okS (slA p l) (l.map f) = true := by
 cases l with
 | nil => simp [okS]
 | cons x l => rfl
def zb0 (p : Nat → Bool) (i n : Nat) : Bool := (List.range' i (n - i)).all p
theorem za4 {p : Nat → Bool} {n : Nat} : zb0 p n n = true := by simp [zb0]
theorem zbq {p : Nat → Bool} {i n : Nat} (h : i < n) : zb0 p i n = (p i && zb0 p (i + 1) n) := by
 unfold zb0
 rw [show n - i = (n - (i + 1)) + 1 by omega, List.range'_succ, List.all_cons]
theorem za5 {p : Nat → Bool} {i n : Nat} : zb0 p i n = true ↔ ∀ j, i ≤ j → j < n → p j = true := by
 simp only [zb0, List.all_eq_true, List.mem_range'_1]
 constructor
 ·intro h j h1 h2; exact h j ⟨h1, by omega⟩
 ·intro h j hj; exact h j hj.1 (by omega)
theorem yag3 {α : Type} {a b : Bool} {x y : α} : (bif a && b then x else y) = bif a then (bif b then x else y) else y := by cases a <;> rfl
theorem yanz {α : Type} {a b : Bool} {x y : α} : (bif a || b then x else y) = bif a then x else (bif b then x else y) := by cases a <;> rfl
theorem zcy {α β : Type} {l : List α} {i : Nat} {p : α → Bool} {A B : β} (h : i < l.length) : (bif (l.drop i).all (fun x => !p x) then A else B) = bif p l[i] then B else (bif (l.drop (i + 1)).all (fun x => !p x) then A else B) := by
 rw [List.drop_eq_getElem_cons h, List.all_cons]; cases p l[i] <;> rfl
theorem yagq {α β : Type} {l : List α} {i : Nat} {p : α → Bool} {A B : β} (h : i < l.length) : (bif (l.drop i).any p then A else B) = bif p l[i] then A else (bif (l.drop (i + 1)).any p then A else B) := by
 rw [List.drop_eq_getElem_cons h, List.any_cons]; cases p l[i] <;> rfl
theorem zch {β : Type} {i n : Nat} {p : Nat → Bool} {A B : β} (h : i < n) : (bif zb0 (fun x => !p x) i n then A else B) = bif p i then B else (bif zb0 (fun x => !p x) (i + 1) n then A else B) := by
 rw [zbq h]; cases p i <;> rfl
structure MReg where
 name : ByteArray
 width : Int
 of_ : Int
 low : Int
structure MBank where
 name : ByteArray
 p : Pl
 regs : List Int
structure MUn where
 name : ByteArray
 count : Int
structure MPiece where
 at_ : Int
 len : Int
structure MOpd where
 name : ByteArray
 kind : Int
 bank : Int
 scale : Int
 p : Pl
 pieces : List MPiece
 tied : Int
inductive MTerm where
 | mk (kind width bits : Int) (name : ByteArray) (low : Int) (p : Pl) (sub : List MTerm)
structure MEff where
 kind : Int
 operand : Int
 reg : Int
 addr : MTerm
 value : MTerm
 cond : MTerm
structure MInstr where
 name : ByteArray
 mask : Int
 mat : Int
 po : Pl
 operands : List MOpd
 pe : Pl
 effects : List MEff
 unit : Int
 busy : Int
 latency : Int
 slots : Int
structure MMach where
 name : ByteArray
 word : Int
 address : Int
 pr : Pl
 regs : List MReg
 pb : Pl
 banks : List MBank
 pu : Pl
 units : List MUn
 pi : Pl
 instrs : List MInstr
def zgp (r : MReg) : AV := .agg [.str r.name, .int .i64 r.width, .int .i64 r.of_, .int .i64 r.low]
def zat (n : Int) : AV := .int .i64 n
def zbv (b : MBank) : AV := .agg [.str b.name, .rsl (slA b.p b.regs) b.p.cap 1 (b.regs.map zat)]
def unV (u : MUn) : AV := .agg [.str u.name, .int .i64 u.count]
def ze4 (x : MPiece) : AV := .agg [.int .i64 x.at_, .int .i64 x.len]
def zaq (o : MOpd) : AV := .agg [.str o.name, .int .u8 o.kind, .int .i64 o.bank, .int .i64 o.scale, .rsl (slA o.p o.pieces) o.p.cap 2 (o.pieces.map ze4), .int .i64 o.tied]
mutual
def MTerm.cs : MTerm → List AV
 | .mk k w b n l p sub => [.int .u8 k, .int .i64 w, .int .u64 b, .str n, .int .i64 l, .rsl (slA p sub) p.cap 6 (MTerm.csL sub)]
def MTerm.csL : List MTerm → List AV
 | [] => []
 | t :: l => .agg t.cs :: MTerm.csL l
end
def zaf (t : MTerm) : AV := .agg t.cs
theorem zm9 : ∀ l : List MTerm, MTerm.csL l = l.map zaf
 | [] => rfl
 | t :: l => by rw [MTerm.csL, zm9 l]; rfl
def effC (x : MEff) : List AV := [.int .u8 x.kind, .int .i64 x.operand, .int .i64 x.reg] ++ x.addr.cs ++ x.value.cs ++ x.cond.cs
def zr9 (x : MEff) : AV := .agg (effC x)
def zad (s : MInstr) : AV := .agg [.str s.name, .int .u64 s.mask, .int .u64 s.mat, .rsl (slA s.po s.operands) s.po.cap 6 (s.operands.map zaq), .rsl (slA s.pe s.effects) s.pe.cap 21 (s.effects.map zr9), .int .i64 s.unit, .int .i64 s.busy, .int .i64 s.latency, .int .i64 s.slots]
abbrev zae (m : MMach) : List AV := [.str m.name, .int .i64 m.word, .int .i64 m.address, .rsl (slA m.pr m.regs) m.pr.cap 4 (m.regs.map zgp), .rsl (slA m.pb m.banks) m.pb.cap 2 (m.banks.map zbv), .rsl (slA m.pu m.units) m.pu.cap 2 (m.units.map unV), .rsl (slA m.pi m.instrs) m.pi.cap 9 (m.instrs.map zad)]
def zag (m : MMach) : AV := .agg (zae m)
theorem ya0e (t : MTerm) : t.cs.length = 6 := by cases t; rfl
theorem sr2 :
  (type_of% (@yako)) ∧
  (type_of% (@inlT.eq_1)) ∧
  (type_of% (@condKey.eq_1)) ∧
  (type_of% (@Heap.empty.eq_1)) ∧
  (type_of% (@undefA.eq_1)) ∧
  (type_of% (@Nat.zero_add)) ∧
  (type_of% (@Nat.add_zero)) ∧
  (type_of% (@List.getElem?_cons_succ.{0})) ∧
  (type_of% (@List.getElem?_cons_zero.{0})) ∧
  (type_of% (@List.length_cons.{0})) ∧
  (type_of% (@List.length_nil.{0})) ∧
  (type_of% (@List.cons_append.{0})) ∧
  (type_of% (@List.nil_append.{0})) ∧
  (type_of% (@List.append_nil.{0})) ∧
  (type_of% (@List.drop_succ_cons.{0})) ∧
  (type_of% (@List.drop_zero.{0})) ∧
  (type_of% (@List.take_succ_cons.{0})) ∧
  (type_of% (@List.take_zero.{0})) ∧
  (type_of% (@List.take_nil.{0})) ∧
  (type_of% (@List.drop_nil.{0})) ∧
  (type_of% (@List.set_cons_zero.{0})) ∧
  (type_of% (@List.set_cons_succ.{0})) ∧
  (type_of% (@List.map_cons.{0,0})) ∧
  (type_of% (@List.map_nil.{0,0})) ∧
  (type_of% (@List.contains_cons.{0})) ∧
  (type_of% (@List.contains_nil.{0})) ∧
  (type_of% (@List.all_cons.{0})) ∧
  (type_of% (@List.all_nil.{0})) ∧
  (type_of% (@List.range_zero)) ∧
  (type_of% (@List.range_succ)) ∧
  (type_of% (@List.getD_cons_zero.{0})) ∧
  (type_of% (@List.getD_cons_succ.{0})) ∧
  (type_of% (@List.flatMap_nil.{0,0})) ∧
  (type_of% (@List.flatMap_cons.{0,0})) ∧
  (type_of% (@List.filter_nil.{0})) ∧
  (type_of% (@List.filter_cons.{0})) ∧
  (type_of% (@Option.bind_some.{0,0})) ∧
  (type_of% (@Option.map_some.{0,0})) ∧
  (type_of% (@Option.map_none.{0,0})) ∧
  (type_of% (@if_true.{1})) ∧
  (type_of% (@if_false.{1})) ∧
  (type_of% (@ite_self.{1})) ∧
  (type_of% (@decide_true)) ∧
  (type_of% (@decide_false)) ∧
  (type_of% (@Bool.false_eq_true)) ∧
  (type_of% (@Bool.not_true)) ∧
  (type_of% (@Bool.not_false)) ∧
  (type_of% (@beq_self_eq_true.{0})) ∧
  (type_of% (@Bool.true_and)) ∧
  (type_of% (@Bool.and_true)) ∧
  (type_of% (@Bool.and_self)) ∧
  (type_of% (@Bool.false_and)) ∧
  (type_of% (@Bool.and_false)) ∧
  (type_of% (@Bool.true_or)) ∧
  (type_of% (@Bool.or_true)) ∧
  (type_of% (@Bool.false_or)) ∧
  (type_of% (@Bool.or_false)) ∧
  (type_of% (@Bool.or_self)) ∧
  (type_of% (@and_true)) ∧
  (type_of% (@true_and)) ∧
  (type_of% (@and_self)) ∧
  (type_of% (@and_false)) ∧
  (type_of% (@false_and)) ∧
  (type_of% (@or_true)) ∧
  (type_of% (@true_or)) ∧
  (type_of% (@or_false)) ∧
  (type_of% (@false_or)) ∧
  (type_of% (@implies_true.{1})) ∧
  (type_of% (@Nat.mul_one)) ∧
  (type_of% (@Nat.zero_mul)) ∧
  (type_of% (@Nat.one_mul)) ∧
  (type_of% (@List.length_map.{0,0})) ∧
  (type_of% (@Int.cast_ofNat_Int)) ∧
  (type_of% (@Int.natCast_zero)) ∧
  (type_of% (@Int.natCast_one)) ∧
  (type_of% (@ne_eq.{1})) ∧
  (type_of% (@not_false_eq_true)) ∧
  (type_of% (@not_true_eq_false)) ∧
  (type_of% (@Int.toNat_zero)) ∧
  (type_of% (@Int.le_refl)) ∧
  (type_of% (@List.getElem_cons_zero.{0})) ∧
  (type_of% (@List.getElem_cons_succ.{0})) ∧
  (type_of% (@agI)) ∧
  (type_of% (@agS)) ∧
  (type_of% (@szI)) ∧
  (type_of% (@szS)) ∧
  (type_of% (@wi_1)) ∧
  (type_of% (@wi_2)) ∧
  (type_of% (@Nat.le_refl)) ∧
  (type_of% (@ztd)) ∧
  (type_of% (@yac9)) ∧
  (type_of% (@yada)) ∧
  (type_of% (@getD_some)) ∧
  (type_of% (@yakj)) ∧
  (type_of% (@yavi)) ∧
  (type_of% (@yavj)) ∧
  (type_of% (@yad0)) ∧
  (type_of% (@yafe)) ∧
  (type_of% (@yaff)) ∧
  (type_of% (@yalj)) ∧
  (type_of% (@yalk)) ∧
  (type_of% (@zp7)) ∧
  (type_of% (@zp6)) ∧
  (type_of% (@yame)) ∧
  (type_of% (@zpj)) ∧
  (type_of% (@zxc)) ∧
  (type_of% (@all_nil)) ∧
  (type_of% (@all_cons)) ∧
  (type_of% (@yabm)) ∧
  (type_of% (@zw7)) ∧
  (type_of% (@yabq)) ∧
  (type_of% (@yabp)) ∧
  (type_of% (@zxa)) ∧
  (type_of% (@yabo)) ∧
  (type_of% (@yaj0)) ∧
  (type_of% (@yabj)) ∧
  (type_of% (@yabr)) ∧
  (type_of% (@zw8)) ∧
  (type_of% (@yabn)) ∧
  (type_of% (@zw9)) ∧
  (type_of% (@zw3)) ∧
  (type_of% (@zw5)) ∧
  (type_of% (@zud)) ∧
  (type_of% (@zyr)) ∧
  (type_of% (@zto)) ∧
  (type_of% (@yae5)) ∧
  (type_of% (@List.length_append.{0})) ∧
  (type_of% (@List.map_append.{0,0})) ∧
  (type_of% (@yato)) ∧
  (type_of% (@yadp)) ∧
  (type_of% (@yatq)) ∧
  (type_of% (@yakq)) ∧
  (type_of% (@yats)) ∧
  (type_of% (@yatj)) ∧
  (type_of% (@yakx)) ∧
  (type_of% (@yaky)) ∧
  (type_of% (@yak3)) ∧
  (type_of% (@yakw)) ∧
  (type_of% (@yakz)) ∧
  (type_of% (@yakr)) ∧
  (type_of% (@yak2)) ∧
  (type_of% (@yaks)) ∧
  (type_of% (@yakt)) ∧
  (type_of% (@yak1)) ∧
  (type_of% (@yak0)) ∧
  (type_of% (@yatk)) ∧
  (type_of% (@yado)) ∧
  (type_of% (@yadn)) ∧
  (type_of% (@yakv)) ∧
  (type_of% (@yatl)) ∧
  (type_of% (@yak4)) ∧
  (type_of% (@yak5)) ∧
  (type_of% (@yaku)) ∧
  (type_of% (@yatp)) ∧
  (type_of% (@yatm)) ∧
  (type_of% (@yatr)) ∧
  (type_of% (@yadm)) ∧
  (type_of% (@zx6)) ∧
  (type_of% (@yakp)) ∧
  (type_of% (@yatn)) ∧
  (type_of% (@yak9)) ∧
  (type_of% (@zx7)) ∧
  (type_of% (@ztl)) ∧
  (type_of% (@yadr)) ∧
  (type_of% (@yak8)) ∧
  (type_of% (@ul_0)) ∧
  (type_of% (@ul_1)) ∧
  (type_of% (@ul_2)) ∧
  (type_of% (@ul_3)) ∧
  (type_of% (@yatt)) ∧
  (type_of% (@yatu)) ∧
  (type_of% (@zx2)) ∧
  (type_of% (@yalm)) ∧
  (type_of% (@zxz)) ∧
  (type_of% (@zxq)) ∧
  (type_of% (@zyi)) ∧
  (type_of% (@yalx)) ∧
  (type_of% (@yalv)) ∧
  (type_of% (@yalw)) ∧
  (type_of% (@yalu)) ∧
  (type_of% (@zyx)) ∧
  (type_of% (@zyv)) ∧
  (type_of% (@zyu)) ∧
  (type_of% (@zyw)) ∧
  (type_of% (@yavf)) ∧
  (type_of% (@yavg)) ∧
  (type_of% (@yavc)) ∧
  (type_of% (@yavd)) ∧
  (type_of% (@yavb)) ∧
  (type_of% (@zy1)) ∧
  (type_of% (@zy0)) ∧
  (type_of% (@yau8)) ∧
  (type_of% (@zyz)) ∧
  (type_of% (@zyy)) ∧
  (type_of% (@yaen)) ∧
  (type_of% (@zyj)) ∧
  (type_of% (@zm5)) ∧
  (type_of% (@zxs)) ∧
  (type_of% (@zjk)) ∧
  (type_of% (@zii)) ∧
  (type_of% (@zxv)) ∧
  (type_of% (@zxx)) ∧
  (type_of% (@znf)) ∧
  (type_of% (@zpm)) ∧
  (type_of% (@zsk)) ∧
  (type_of% (@zsi)) ∧
  (type_of% (@zxg)) ∧
  (type_of% (@zsc)) ∧
  (type_of% (@zxb)) ∧
  (type_of% (@yaln)) ∧
  (type_of% (@yak7)) ∧
  (type_of% (@ul_free)) ∧
  (type_of% (@yake)) ∧
  (type_of% (@yacq)) ∧
  (type_of% (@zyt)) ∧
  (type_of% (@zyo)) ∧
  (type_of% (@zpl)) ∧
  (type_of% (@zsj)) ∧
  (type_of% (@yabk)) ∧
  (type_of% (@yaed)) ∧
  (type_of% (@yads)) :=
 ⟨@yako, @inlT.eq_1, @condKey.eq_1, @Heap.empty.eq_1, @undefA.eq_1, @Nat.zero_add, @Nat.add_zero, @List.getElem?_cons_succ.{0}, @List.getElem?_cons_zero.{0}, @List.length_cons.{0}, @List.length_nil.{0}, @List.cons_append.{0}, @List.nil_append.{0}, @List.append_nil.{0}, @List.drop_succ_cons.{0}, @List.drop_zero.{0}, @List.take_succ_cons.{0}, @List.take_zero.{0}, @List.take_nil.{0}, @List.drop_nil.{0}, @List.set_cons_zero.{0}, @List.set_cons_succ.{0}, @List.map_cons.{0,0}, @List.map_nil.{0,0}, @List.contains_cons.{0}, @List.contains_nil.{0}, @List.all_cons.{0}, @List.all_nil.{0}, @List.range_zero, @List.range_succ, @List.getD_cons_zero.{0}, @List.getD_cons_succ.{0}, @List.flatMap_nil.{0,0}, @List.flatMap_cons.{0,0}, @List.filter_nil.{0}, @List.filter_cons.{0}, @Option.bind_some.{0,0}, @Option.map_some.{0,0}, @Option.map_none.{0,0}, @if_true.{1}, @if_false.{1}, @ite_self.{1}, @decide_true, @decide_false, @Bool.false_eq_true, @Bool.not_true, @Bool.not_false, @beq_self_eq_true.{0}, @Bool.true_and, @Bool.and_true, @Bool.and_self, @Bool.false_and, @Bool.and_false, @Bool.true_or, @Bool.or_true, @Bool.false_or, @Bool.or_false, @Bool.or_self, @and_true, @true_and, @and_self, @and_false, @false_and, @or_true, @true_or, @or_false, @false_or, @implies_true.{1}, @Nat.mul_one, @Nat.zero_mul, @Nat.one_mul, @List.length_map.{0,0}, @Int.cast_ofNat_Int, @Int.natCast_zero, @Int.natCast_one, @ne_eq.{1}, @not_false_eq_true, @not_true_eq_false, @Int.toNat_zero, @Int.le_refl, @List.getElem_cons_zero.{0}, @List.getElem_cons_succ.{0}, @agI, @agS, @szI, @szS, @wi_1, @wi_2, @Nat.le_refl, @ztd, @yac9, @yada, @getD_some, @yakj, @yavi, @yavj, @yad0, @yafe, @yaff, @yalj, @yalk, @zp7, @zp6, @yame, @zpj, @zxc, @all_nil, @all_cons, @yabm, @zw7, @yabq, @yabp, @zxa, @yabo, @yaj0, @yabj, @yabr, @zw8, @yabn, @zw9, @zw3, @zw5, @zud, @zyr, @zto, @yae5, @List.length_append.{0}, @List.map_append.{0,0}, @yato, @yadp, @yatq, @yakq, @yats, @yatj, @yakx, @yaky, @yak3, @yakw, @yakz, @yakr, @yak2, @yaks, @yakt, @yak1, @yak0, @yatk, @yado, @yadn, @yakv, @yatl, @yak4, @yak5, @yaku, @yatp, @yatm, @yatr, @yadm, @zx6, @yakp, @yatn, @yak9, @zx7, @ztl, @yadr, @yak8, @ul_0, @ul_1, @ul_2, @ul_3, @yatt, @yatu, @zx2, @yalm, @zxz, @zxq, @zyi, @yalx, @yalv, @yalw, @yalu, @zyx, @zyv, @zyu, @zyw, @yavf, @yavg, @yavc, @yavd, @yavb, @zy1, @zy0, @yau8, @zyz, @zyy, @yaen, @zyj, @zm5, @zxs, @zjk, @zii, @zxv, @zxx, @znf, @zpm, @zsk, @zsi, @zxg, @zsc, @zxb, @yaln, @yak7, @ul_free, @yake, @yacq, @zyt, @zyo, @zpl, @zsj, @yabk, @yaed, @yads⟩
def chs (s : ByteArray) (i : Nat) : Int := ((s.data.toList.getD i 0).toNat : Int)
def yalc (c : Int) : Bool := decide (97 ≤ c) && decide (c ≤ 122) || decide (65 ≤ c) && decide (c ≤ 90)
def yab8 (s : ByteArray) (i : Nat) : Bool := !yalc (chs s i) && (decide ((i : Int) = 0) || !decide (chs s i = 95) && (decide (chs s i < 48) || decide (57 < chs s i)))
def za3 (s : ByteArray) : Bool := !(decide ((s.size : Int) < 1) || decide (24 < (s.size : Int))) && zb0 (fun i => !yab8 s i) 0 s.size
theorem yalz (s : ByteArray) (i : Nat) (h : i < s.size) : sixA (.str s) (.int .i64 i) = some (.int .u8 (chs s i)) := by
 have e : i < s.data.toList.length := by simpa using h
 unfold sixA chs
 simp only [Int.natCast_nonneg, if_true, Int.toNat_natCast, List.getElem?_eq_getElem e, List.getD_eq_getElem?_getD, Option.getD_some]
theorem yao7 (s : ByteArray) (hs : s.size < 2 ^ 62) : ∀ i, i ≤ s.size →
  om Tryz.prog ⟨54, none⟩ 0 (.loop (lpb Tryz.f54 0)) ⟨⟨55, [(0, .str s), (15, .int .i64 s.size), (16, .int .i64 i)]⟩, [], ⟨0, []⟩⟩ =
   bif zb0 (fun i => !yab8 s i) i s.size then some (.exit 0, ⟨⟨55, [(0, .str s), (15, .int .i64 s.size), (16, .int .i64 s.size), (17, .bool false)]⟩, [], ⟨0, []⟩⟩) else some (.ret, ⟨⟨55, [(2, .bool false)]⟩, [], ⟨0, []⟩⟩) := by
 refine zbl ?_ (fun i h ih => ?_) <;> rw [zac]
 ·simp -implicitDefEqProofs only [↓reduceIte, ↓cond_true, ↓cond_false, sr1, sr2, kA, seval, d54, n54, yao5, e54, za4]
 ·rw [zch h]
  simp -implicitDefEqProofs only [↓reduceIte, ↓cond_true, ↓cond_false, sr1, sr2, kA, seval, d54, n54, yao5, e54, dlt_t h, wi_nat (show i < 2 ^ 62 by omega), h, yalz s i h, ih]
  rfl
theorem zmm (s : ByteArray) (hs : s.size < 2 ^ 62) : zas Tryz.prog (om Tryz.prog) 54 [.str s] ⟨0, []⟩ = some (.bool (za3 s), ⟨0, []⟩) := by
 rw [yarx _ _ (by simp)]
 have L := yao7 s hs 0 (Nat.zero_le _)
 simp only [Int.natCast_zero] at L
 simp -implicitDefEqProofs only [↓reduceIte, ↓cond_true, ↓cond_false, sr1, sr2, kA, seval, d54, n54, yao5, e54, L, za3]
def yaka (s : ByteArray) (i : Nat) : Bool := !yalc (chs s i) && (decide ((i : Int) = 0) || !(decide (48 ≤ chs s i) && decide (chs s i ≤ 57) || decide (chs s i = 95)))
theorem yab9 (s : ByteArray) (i : Nat) : yaka s i = yab8 s i := by
 unfold yaka yab8
 congr 2
 generalize chs s i = c
 by_cases h1 : c = 95 <;> by_cases h2 : 48 ≤ c <;> by_cases h3 : c ≤ 57 <;> simp [h1, h2, h3] <;> omega
theorem yaij (s : ByteArray) (hs : s.size < 2 ^ 62) : ∀ i, i ≤ s.size →
  om Tryz.prog ⟨62, none⟩ 0 (.loop (lpb Tryz.f62 0)) ⟨⟨58, [(0, .str s), (3, .int .i64 i)]⟩, [], ⟨0, []⟩⟩ =
   bif zb0 (fun i => !yab8 s i) i s.size then some (.exit 0, ⟨⟨58, [(0, .str s), (3, .int .i64 s.size), (18, .bool false)]⟩, [], ⟨0, []⟩⟩) else some (.ret, ⟨⟨58, [(2, .bool false)]⟩, [], ⟨0, []⟩⟩) := by
 refine zbl ?_ (fun i h ih => ?_) <;> rw [zac]
 ·simp -implicitDefEqProofs only [↓reduceIte, ↓cond_true, ↓cond_false, sr1, sr2, kA, seval, d62, n62, yao6, e62, za4]
 ·rw [zch h, ← yab9 s i]
  simp -implicitDefEqProofs only [↓reduceIte, ↓cond_true, ↓cond_false, sr1, sr2, kA, seval, d62, n62, yao6, e62, dlt_t h, wi_nat (show i < 2 ^ 62 by omega), h, yalz s i h, ih]
  rfl
theorem zc8 (s : ByteArray) (hs : s.size < 2 ^ 62) : zas Tryz.prog (om Tryz.prog) 62 [.str s] ⟨0, []⟩ = some (.bool (za3 s), ⟨0, []⟩) := by
 rw [yar3 _ _ (by simp)]
 have L := yaij s hs 0 (Nat.zero_le _)
 simp only [Int.natCast_zero] at L
 have hz : decide ((s.size : Int) < 1) = decide ((s.size : Int) = 0) := by by_cases h : s.size = 0 <;> simp [h]; omega
 simp -implicitDefEqProofs only [↓reduceIte, ↓cond_true, ↓cond_false, sr1, sr2, kA, seval, d62, n62, yao6, e62, L, za3, hz]
def inR (x a b : Int) : Bool := decide (a ≤ x) && decide (x ≤ b)
theorem zai (x a b : Int) : zas Tryz.prog (om Tryz.prog) 55 [.int .i64 x, .int .i64 a, .int .i64 b] ⟨0, []⟩ = some (.bool (inR x a b), ⟨0, []⟩) := by
 rw [yary _ _ (by simp)]
 simp (maxSteps := 1000000) -implicitDefEqProofs only [↓reduceIte, ↓cond_true, ↓cond_false, sr1, sr2, kA, seval, d55, n55, inR]
theorem zap (x a b : Int) : zas Tryz.prog (om Tryz.prog) 63 [.int .i64 x, .int .i64 a, .int .i64 b] ⟨0, []⟩ = some (.bool (inR x a b), ⟨0, []⟩) := by
 rw [yar4 _ _ (by simp)]
 simp (maxSteps := 1000000) -implicitDefEqProofs only [↓reduceIte, ↓cond_true, ↓cond_false, sr1, sr2, kA, seval, d63, n63, inR]
theorem yapq (n : Nat) (hn : n ≤ 62) : ∀ i, i ≤ n → lim (some [3]) 0 (blk 0 (om Tryz.prog ⟨127, none⟩ 0 (.loop (lpb Tryz.f127 0)) ⟨⟨13, [(0, .int .i64 n), (3, .int .i64 (2 ^ i : Nat)), (4, .int .i64 i)]⟩, [], ⟨0, []⟩⟩)) = some (.normal, ⟨⟨13, [(3, .int .i64 (2 ^ n : Nat))]⟩, [], ⟨0, []⟩⟩) := by
 refine zbl ?_ (fun i h ih => ?_) <;> rw [zac]
 ·simp (maxSteps := 1000000) -implicitDefEqProofs only [↓reduceIte, ↓cond_true, ↓cond_false, sr1, sr2, kA, seval, d127, n127, e127]
 ·have h1 : (2 : Nat) ^ (i + 1) ≤ 2 ^ 62 := Nat.pow_le_pow_right (by omega) (by omega)
  have h2 : (2 : Nat) ^ (i + 1) = 2 * 2 ^ i := by rw [Nat.pow_succ, Nat.mul_comm]
  have h3 : IntKind.i64.wrap (2 * ((2 ^ i : Nat) : Int)) = ((2 ^ (i + 1) : Nat) : Int) := by rw [zdr (by omega) (by omega)]; omega
  simp (maxSteps := 1000000) -implicitDefEqProofs only [↓reduceIte, ↓cond_true, ↓cond_false, sr1, sr2, kA, seval, d127, n127, e127, dlt_t h, wi_nat (show i < 2 ^ 62 by omega), h3, ih]
theorem zke (n : Nat) (hn : n ≤ 62) : zas Tryz.prog (om Tryz.prog) 127 [.int .i64 n] ⟨0, []⟩ = some (.int .i64 (2 ^ n : Nat), ⟨0, []⟩) := by
 have L := yapq n hn 0 (Nat.zero_le _)
 rw [Nat.pow_zero, Int.natCast_zero, Int.natCast_one] at L
 rw [yamy _ _ (by simp)]
 simp (maxSteps := 1000000) -implicitDefEqProofs only [↓reduceIte, ↓cond_true, ↓cond_false, sr1, sr2, kA, seval, d127, n127, e127, L]
theorem ztc {x : Int} (h0 : 0 ≤ x) (h1 : x < 2 ^ 64) : IntKind.u64.wrap (x.tdiv 2) = x / 2 := by
 have e : x.tdiv 2 = x / 2 := Int.tdiv_eq_ediv_of_nonneg h0
 have : IntKind.u64.wrap (x / 2) = (x / 2) % 18446744073709551616 := by simp [IntKind.wrap, IntKind.bits, IntKind.signed]
 rw [e, this]; omega
theorem yamp (n : Nat) (hn : n < 2 ^ 62) (x : Int) (h0 : 0 ≤ x) (h1 : x < 2 ^ 64) : ∀ i, i ≤ n → lim (some [0]) 0 (blk 0 (om Tryz.prog ⟨88, none⟩ 0 (.loop (lpb Tryz.f88 0)) ⟨⟨15, [(0, .int .u64 (x / (2 ^ i : Nat))), (1, .int .i64 n), (5, .int .i64 i)]⟩, [], ⟨0, []⟩⟩)) = some (.normal, ⟨⟨15, [(0, .int .u64 (x / (2 ^ n : Nat)))]⟩, [], ⟨0, []⟩⟩) := by
 refine zbl ?_ (fun i h ih => ?_) <;> rw [zac]
 ·simp (maxSteps := 1000000) -implicitDefEqProofs only [↓reduceIte, ↓cond_true, ↓cond_false, sr1, sr2, kA, seval, d88, n88, e88]
 ·have h2 : IntKind.u64.wrap ((x / (2 ^ i : Nat)).tdiv 2) = x / (2 ^ (i + 1) : Nat) := by
   have p : (1 : Int) ≤ (2 ^ i : Nat) := by have := Nat.one_le_two_pow (n := i); omega
   have q : 0 ≤ x / (2 ^ i : Nat) := Int.ediv_nonneg h0 (by omega)
   have r : x / (2 ^ i : Nat) ≤ x := Int.ediv_le_self _ h0
   rw [ztc q (by omega), Int.ediv_ediv_of_nonneg (by omega), Nat.pow_succ]; push_cast; rfl
  have h3 : (2 : Int) ≠ 0 := by decide
  simp (maxSteps := 1000000) -implicitDefEqProofs only [↓reduceIte, ↓cond_true, ↓cond_false, sr1, sr2, kA, seval, d88, n88, e88, dlt_t h, wi_nat (show i < 2 ^ 62 by omega), h2, ih, in_quo h3]
theorem yab0 (n : Nat) (hn : n < 2 ^ 62) (x : Int) (h0 : 0 ≤ x) (h1 : x < 2 ^ 64) : zas Tryz.prog (om Tryz.prog) 88 [.int .u64 x, .int .i64 n] ⟨0, []⟩ = some (.bool (decide (x / (2 ^ n : Nat) = 0)), ⟨0, []⟩) := by
 have L := yamp n hn x h0 h1 0 (Nat.zero_le _)
 rw [Nat.pow_zero, Int.natCast_zero, Int.natCast_one, Int.ediv_one] at L
 rw [yash _ _ (by simp)]
 simp (maxSteps := 1000000) -implicitDefEqProofs only [↓reduceIte, ↓cond_true, ↓cond_false, sr1, sr2, kA, seval, d88, n88, e88, L]
theorem yaxu (n : Nat) (hn : n < 2 ^ 62) (x : Int) (h0 : 0 ≤ x) (h1 : x < 2 ^ 64) : ∀ i, i ≤ n → lim (some [0]) 0 (blk 0 (om Tryz.prog ⟨89, none⟩ 0 (.loop (lpb Tryz.f89 0)) ⟨⟨16, [(0, .int .u64 (x / (2 ^ i : Nat))), (1, .int .i64 n), (5, .int .i64 i)]⟩, [], ⟨0, []⟩⟩)) = some (.normal, ⟨⟨16, [(0, .int .u64 (x / (2 ^ n : Nat)))]⟩, [], ⟨0, []⟩⟩) := by
 refine zbl ?_ (fun i h ih => ?_) <;> rw [zac]
 ·simp (maxSteps := 1000000) -implicitDefEqProofs only [↓reduceIte, ↓cond_true, ↓cond_false, sr1, sr2, kA, seval, d89, n89, e89]
 ·have h2 : IntKind.u64.wrap ((x / (2 ^ i : Nat)).tdiv 2) = x / (2 ^ (i + 1) : Nat) := by
   have p : (1 : Int) ≤ (2 ^ i : Nat) := by have := Nat.one_le_two_pow (n := i); omega
   have q : 0 ≤ x / (2 ^ i : Nat) := Int.ediv_nonneg h0 (by omega)
   have r : x / (2 ^ i : Nat) ≤ x := Int.ediv_le_self _ h0
   rw [ztc q (by omega), Int.ediv_ediv_of_nonneg (by omega), Nat.pow_succ]; push_cast; rfl
  have h3 : (2 : Int) ≠ 0 := by decide
  simp (maxSteps := 1000000) -implicitDefEqProofs only [↓reduceIte, ↓cond_true, ↓cond_false, sr1, sr2, kA, seval, d89, n89, e89, dlt_t h, wi_nat (show i < 2 ^ 62 by omega), h2, ih, in_quo h3]
def bitS (x : Int) (n : Nat) : Int := x / (2 ^ n : Nat) % 2
theorem zu8 (n : Nat) (hn : n < 2 ^ 62) (x : Int) (h0 : 0 ≤ x) (h1 : x < 2 ^ 64) : zas Tryz.prog (om Tryz.prog) 89 [.int .u64 x, .int .i64 n] ⟨0, []⟩ = some (.int .i64 (bitS x n), ⟨0, []⟩) := by
 have L := yaxu n hn x h0 h1 0 (Nat.zero_le _)
 rw [Nat.pow_zero, Int.natCast_zero, Int.natCast_one, Int.ediv_one] at L
 rw [yasi _ _ (by simp)]
 have h3 : (2 : Int) ≠ 0 := by decide
 have h4 : IntKind.i64.wrap ((x / (2 ^ n : Nat)).tmod 2) = bitS x n := by
  have p : (1 : Int) ≤ (2 ^ n : Nat) := by have := Nat.one_le_two_pow (n := n); omega
  have q : 0 ≤ x / (2 ^ n : Nat) := Int.ediv_nonneg h0 (by omega)
  rw [Int.tmod_eq_emod_of_nonneg q, zdr (by omega) (by omega)]; rfl
 simp (maxSteps := 1000000) -implicitDefEqProofs only [↓reduceIte, ↓cond_true, ↓cond_false, sr1, sr2, kA, seval, d89, n89, e89, L, in_rem h3, h4]
theorem zsn (n : Int) : zas Tryz.prog (om Tryz.prog) 121 [.int .i64 n] ⟨0, []⟩ = some (.bool (inR n 1 64), ⟨0, []⟩) := by
 rw [yamt _ _ (by simp)]
 simp (maxSteps := 1000000) -implicitDefEqProofs only [↓reduceIte, ↓cond_true, ↓cond_false, sr1, sr2, kA, seval, d121, n121, inR]
def zi6 (n : Int) : Int := if inR n 1 64 then 18446744073709551615 / (2 ^ (64 - n).toNat : Nat) else 0
theorem zrd (n : Int) : zas Tryz.prog (om Tryz.prog) 84 [.int .i64 n] ⟨0, []⟩ = some (.int .u64 (zi6 n), ⟨0, []⟩) := by
 have L := zsn n
 rw [yase _ _ (by simp)]
 cases h : inR n 1 64 with
 | false => simp (maxSteps := 1000000) -implicitDefEqProofs only [↓reduceIte, ↓cond_true, ↓cond_false, sr1, sr2, kA, seval, d84, n84, L, h, zi6]
 | true =>
  have hn : 1 ≤ n ∧ n ≤ 64 := by simpa [inR] using h
  have h1 : zdw .shr .u64 18446744073709551615 (IntKind.i64.wrap (64 - n)) = some (.int .u64 (zi6 n)) := by
   rw [zdr (by omega) (by omega)]
   unfold zdw zi6
   rw [if_neg (by omega), h]
   simp only [if_true]
   rw [Int.fdiv_eq_ediv_of_nonneg _ (by have : (0 : Int) < 2 ^ min (64 - n).toNat IntKind.u64.bits := Int.pow_pos (by decide); omega)]
   rw [show min (64 - n).toNat IntKind.u64.bits = (64 - n).toNat from Nat.min_eq_left (show (64 - n).toNat ≤ 64 by omega)]
   push_cast; rfl
  simp (maxSteps := 1000000) -implicitDefEqProofs only [↓reduceIte, ↓cond_true, ↓cond_false, sr1, sr2, kA, seval, d84, n84, L, h, h1]
theorem yayx {α : Type} {f : α → AV} {l : List α} {i : Nat} (h : i < l.length) : (l.map f)[i]? = some (f l[i]) := by simp [h]
theorem yaow {α : Type} {f : α → AV} {l : List α} {i : Nat} (h : i < (l.map f).length) : (l.map f)[i] = f (l[i]'(by simpa using h)) := by simp
theorem ix_sl {α : Type} {f : α → AV} {a : Option Addr} {c sz i : Nat} {l : List α} {k : IntKind} (ha : okS a (l.map f) = true) (h : i < l.length) : ixA sz (.rsl a c sz (l.map f)) (.int k (i : Int)) = some (.rptr (adr a (i * sz)) (f l[i]).cells) := by
 rw [ix_r ha (by simpa using h), yaow]
theorem ix_z {α : Type} {f : α → AV} {a : Option Addr} {c sz : Nat} {n : Int} {l : List α} {k : IntKind} (ha : okS a (l.map f) = true) (h0 : 0 ≤ n) (h : n.toNat < l.length) : ixA sz (.rsl a c sz (l.map f)) (.int k n) = some (.rptr (adr a (n.toNat * sz)) (f l[n.toNat]).cells) := by
 obtain ⟨i, rfl⟩ := Int.eq_ofNat_of_zero_le h0
 simp only [Int.toNat_natCast] at h ⊢
 exact ix_sl ha h
def zfm (a : Int) (l : List MPiece) : Int := l.foldl (fun a p => IntKind.i64.wrap (a + p.len)) a
def zao (o : MOpd) : Int := zfm 0 o.pieces
theorem znd {a : Int} {l : List MPiece} {i : Nat} (h : i < l.length) : zfm a (l.drop i) = zfm (IntKind.i64.wrap (a + l[i].len)) (l.drop (i + 1)) := by
 rw [List.drop_eq_getElem_cons h]; rfl
theorem zpq {a : Int} {l : List MPiece} : zfm a (l.drop l.length) = a := by rw [List.drop_length]; rfl
theorem yaod (o : MOpd) (ho : o.pieces.length < 2 ^ 62) : ∀ i, i ≤ o.pieces.length → ∀ a (H : Heap), lim (some [2]) 0 (blk 0 (om Tryz.prog ⟨93, none⟩ 0 (.loop (lpb Tryz.f93 0)) ⟨⟨18, [(2, .int .i64 a), (6, .rsl (slA o.p o.pieces) o.p.cap 2 (o.pieces.map ze4)), (7, .int .i64 o.pieces.length), (8, .int .i64 i)]⟩, [], H⟩)) = some (.normal, ⟨⟨18, [(2, .int .i64 (zfm a (o.pieces.drop i)))]⟩, [], ⟨0, []⟩⟩) := by
 refine zbl (fun a H => ?_) (fun i h ih a H => ?_) <;> rw [zac]
 ·simp (maxSteps := 1000000) -implicitDefEqProofs only [↓reduceIte, ↓cond_true, ↓cond_false, sr1, sr2, kA, seval, d93, n93, e93, zpq]
 ·simp (maxSteps := 1000000) -implicitDefEqProofs only [↓reduceIte, ↓cond_true, ↓cond_false, sr1, sr2, kA, seval, d93, n93, e93, dlt_t h, wi_nat (show i < 2 ^ 62 by omega), ix_sl zab h, ze4, ih, znd h]
theorem zs3 (o : MOpd) (ho : o.pieces.length < 2 ^ 62) : zas Tryz.prog (om Tryz.prog) 93 [zaq o] ⟨0, []⟩ = some (.int .i64 (zao o), ⟨0, []⟩) := by
 have L := fun H => yaod o ho 0 (Nat.zero_le _) 0 H
 simp only [Int.natCast_zero, List.drop_zero] at L
 rw [yasl _ _ (by simp)]
 simp (maxSteps := 1000000) -implicitDefEqProofs only [↓reduceIte, ↓cond_true, ↓cond_false, sr1, sr2, kA, seval, d93, n93, e93, zaq, L, zao]
abbrev opdH (o : MOpd) : Heap := ⟨1, [some (.cells 77 [.str o.name, .int .u8 o.kind, .int .i64 o.bank, .int .i64 o.scale, .rsl (slA o.p o.pieces) o.p.cap 2 (o.pieces.map ze4), .int .i64 o.tied])]⟩
theorem yahd (o : MOpd) (ho : o.pieces.length < 2 ^ 62) : ∀ i, i ≤ o.pieces.length → ∀ a, lim (some [3]) 0 (blk 0 (om Tryz.prog ⟨126, none⟩ 0 (.loop (lpb Tryz.f126 0)) ⟨⟨21, [(1, .ptr 0 0), (3, .int .i64 a), (4, .int .i64 i)]⟩, [], opdH o⟩)) = some (.normal, ⟨⟨21, [(3, .int .i64 (zfm a (o.pieces.drop i)))]⟩, [], ⟨0, []⟩⟩) := by
 refine zbl (fun a => ?_) (fun i h ih a => ?_) <;> rw [zac]
 ·simp (maxSteps := 1000000) -implicitDefEqProofs only [↓reduceIte, ↓cond_true, ↓cond_false, sr1, sr2, kA, seval, d126, n126, e126, zpq, opdH]
 ·simp (maxSteps := 1000000) -implicitDefEqProofs only [↓reduceIte, ↓cond_true, ↓cond_false, sr1, sr2, kA, seval, d126, n126, e126, opdH, dlt_t h, wi_nat (show i < 2 ^ 62 by omega), ix_sl zab h, ze4, ih, znd h]
theorem zpp (o : MOpd) (ho : o.pieces.length < 2 ^ 62) : zas Tryz.prog (om Tryz.prog) 126 [zaq o] ⟨0, []⟩ = some (.int .i64 (zao o), ⟨0, []⟩) := by
 have L := yahd o ho 0 (Nat.zero_le _) 0
 simp only [Int.natCast_zero, List.drop_zero] at L
 rw [yamx _ _ (by simp)]
 simp (maxSteps := 1000000) -implicitDefEqProofs only [↓reduceIte, ↓cond_true, ↓cond_false, sr1, sr2, kA, seval, d126, n126, e126, zaq, L, zao]
def zge (w : Int) (x : MPiece) : Bool := !inR x.len 1 (IntKind.i64.wrap (8 * w)) || !inR x.at_ 0 (IntKind.i64.wrap (IntKind.i64.wrap (8 * w) - x.len))
def zkb (w : Int) (o : MOpd) : Bool := o.pieces.all fun x => !zge w x
theorem zz7 (o : MOpd) (w : Int) (ho : o.pieces.length < 2 ^ 62) : ∀ i, i ≤ o.pieces.length → lim (some []) 0 (blk 0 (om Tryz.prog ⟨125, none⟩ 0 (.loop (lpb Tryz.f125 0)) ⟨⟨36, [(1, .int .i64 w), (2, .ptr 0 0), (5, .int .i64 i)]⟩, [], opdH o⟩)) = bif (o.pieces.drop i).all (fun x => !zge w x) then some (.normal, ⟨⟨36, []⟩, [], ⟨0, []⟩⟩) else some (.ret, ⟨⟨36, [(4, .bool false)]⟩, [], ⟨0, []⟩⟩) := by
 refine zbl ?_ (fun i h ih => ?_) <;> rw [zac]
 ·simp (maxSteps := 1000000) -implicitDefEqProofs only [↓reduceIte, ↓cond_true, ↓cond_false, sr1, sr2, kA, seval, d125, n125, e125, opdH, List.drop_length]
 ·rw [zcy h]
  simp (maxSteps := 1000000) -implicitDefEqProofs only [↓reduceIte, ↓cond_true, ↓cond_false, sr1, sr2, kA, seval, d125, n125, e125, opdH, dlt_t h, wi_nat (show i < 2 ^ 62 by omega), ix_sl zab h, ze4, ih, zap]
  rfl
theorem zt0 (o : MOpd) (w : Int) (ho : o.pieces.length < 2 ^ 62) : zas Tryz.prog (om Tryz.prog) 125 [zaq o, .int .i64 w] ⟨0, []⟩ = some (.bool (zkb w o), ⟨0, []⟩) := by
 have L := zz7 o w ho 0 (Nat.zero_le _)
 simp only [Int.natCast_zero, List.drop_zero] at L
 rw [yamw _ _ (by simp)]
 simp (maxSteps := 1000000) -implicitDefEqProofs only [↓reduceIte, ↓cond_true, ↓cond_false, sr1, sr2, kA, seval, d125, n125, e125, zaq, L, zkb]
def zlm (l : List ByteArray) (s : ByteArray) : Bool := l.any fun x => decide (s = x)
def idxF (s : ByteArray) : List ByteArray → Nat → Int
 | [], _ => -1
 | x :: l, i => bif decide (s = x) then (i : Int) else idxF s l (i + 1)
theorem yadc {s : ByteArray} {l : List ByteArray} {i : Nat} (h : i < l.length) : idxF s (l.drop i) i = bif decide (s = l[i]) then (i : Int) else idxF s (l.drop (i + 1)) (i + 1) := by
 rw [List.drop_eq_getElem_cons h]; rfl
theorem zx3 {s : ByteArray} : ∀ {l : List ByteArray} {i : Nat}, decide (0 ≤ idxF s l i) = zlm l s
 | [], i => rfl
 | x :: l, i => by
  simp only [idxF, zlm, List.any_cons]
  by_cases e : s = x
  ·simp only [e, decide_true, cond_true, Bool.true_or]; exact decide_eq_true (by omega)
  ·simp only [e, decide_false, cond_false, Bool.false_or]; exact zx3
theorem yaok (a : Option Addr) (c : Nat) (l : List ByteArray) (s : ByteArray) (ha : okS a (l.map AV.str) = true) (hl : l.length < 2 ^ 62) : ∀ i, i ≤ l.length → nxt (lim (some []) 0 (blk 0 (om Tryz.prog ⟨120, none⟩ 0 (.loop (lpb Tryz.f120 0)) ⟨⟨19, [(0, .rsl a c 1 (l.map .str)), (1, .str s), (7, .int .i64 l.length), (8, .int .i64 i)]⟩, [], ⟨0, []⟩⟩))) (Ox Tryz.prog ⟨120, none⟩ 0 (.seq (za7 Tryz.f120 7) .ret)) = some (.ret, ⟨⟨19, [(4, .int .i64 (idxF s (l.drop i) i))]⟩, [], ⟨0, []⟩⟩) := by
 refine zbl ?_ (fun i h ih => ?_) <;> rw [zac]
 ·simp (maxSteps := 1000000) -implicitDefEqProofs only [↓reduceIte, ↓cond_true, ↓cond_false, sr1, sr2, kA, seval, d120, n120, e120, List.drop_length, idxF]
 ·simp (maxSteps := 1000000) -implicitDefEqProofs only [↓reduceIte, ↓cond_true, ↓cond_false, sr1, sr2, kA, seval, d120, n120, e120, dlt_t h, wi_nat (show i < 2 ^ 62 by omega), ix_sl ha h, ih, yadc h]
theorem yadg (a : Option Addr) (c : Nat) (l : List ByteArray) (s : ByteArray) (ha : okS a (l.map AV.str) = true) (hl : l.length < 2 ^ 62) : zas Tryz.prog (om Tryz.prog) 120 [.rsl a c 1 (l.map .str), .str s] ⟨0, []⟩ = some (.int .i64 (idxF s l 0), ⟨0, []⟩) := by
 have L := yaok a c l s ha hl 0 (Nat.zero_le _)
 simp only [Int.natCast_zero, List.drop_zero] at L
 rw [yab4 _ _ (by simp)]
 simp (maxSteps := 1000000) -implicitDefEqProofs only [↓reduceIte, ↓cond_true, ↓cond_false, sr1, sr2, kA, seval, d120, n120, e120, L]
theorem zsu (a : Option Addr) (c : Nat) (l : List ByteArray) (s : ByteArray) (ha : okS a (l.map AV.str) = true) (hl : l.length < 2 ^ 62) : zas Tryz.prog (om Tryz.prog) 83 [.rsl a c 1 (l.map .str), .str s] ⟨0, []⟩ = some (.bool (zlm l s), ⟨0, []⟩) := by
 rw [yaj8 _ _ (by simp)]
 simp (maxSteps := 1000000) -implicitDefEqProofs only [↓reduceIte, ↓cond_true, ↓cond_false, sr1, sr2, kA, seval, d83, n83, yadg a c l s ha hl, zx3]
def zmg (t : MTerm) : Bool := match t with | .mk k w b n l p sub => decide (k = 0) && decide (w = 0) && decide (b = 0) && decide (n = ByteArray.empty) && decide (l = 0) && decide ((sub.length : Int) = 0)
theorem zem (t : MTerm) : zas Tryz.prog (om Tryz.prog) 128 [zaf t] ⟨0, []⟩ = some (.bool (zmg t), ⟨0, []⟩) := by
 obtain ⟨k, w, b, n, l, p, sub⟩ := t
 rw [yamz _ _ (by simp)]
 simp (maxSteps := 1000000) -implicitDefEqProofs only [↓reduceIte, ↓cond_true, ↓cond_false, sr1, sr2, kA, seval, d128, n128, zaf, MTerm.cs, zmg, zm9]
def MTerm.kd : MTerm → Int | .mk k _ _ _ _ _ _ => k
def MTerm.wd : MTerm → Int | .mk _ w _ _ _ _ _ => w
def MTerm.bt : MTerm → Int | .mk _ _ b _ _ _ _ => b
def MTerm.nm : MTerm → ByteArray | .mk _ _ _ n _ _ _ => n
def MTerm.lo : MTerm → Int | .mk _ _ _ _ l _ _ => l
def MTerm.pl : MTerm → Pl | .mk _ _ _ _ _ p _ => p
def MTerm.sub : MTerm → List MTerm | .mk _ _ _ _ _ _ s => s
theorem zah (t : MTerm) : t.cs = [.int .u8 t.kd, .int .i64 t.wd, .int .u64 t.bt, .str t.nm, .int .i64 t.lo, .rsl (slA t.pl t.sub) t.pl.cap 6 (t.sub.map zaf)] := by
 obtain ⟨k, w, b, n, l, p, s⟩ := t
 simp only [MTerm.cs, zm9]; rfl
mutual
def MTerm.nodes : MTerm → List MTerm
 | .mk k w b n l p sub => .mk k w b n l p sub :: MTerm.nodesL sub
def MTerm.nodesL : List MTerm → List MTerm
 | [] => []
 | t :: l => t.nodes ++ MTerm.nodesL l
end
theorem znu : ∀ l : List MTerm, MTerm.nodesL l = l.flatMap MTerm.nodes
 | [] => rfl
 | t :: l => by rw [MTerm.nodesL, znu l]; rfl
theorem zgd (t : MTerm) : t.nodes = t :: t.sub.flatMap MTerm.nodes := by
 obtain ⟨k, w, b, n, l, p, s⟩ := t
 rw [MTerm.nodes, znu]; rfl
def MTerm.sz (t : MTerm) : Nat := t.nodes.length
def szL (l : List MTerm) : Nat := (l.flatMap MTerm.nodes).length
theorem zr0 (t : MTerm) : t.sz = szL t.sub + 1 := by unfold MTerm.sz szL; rw [zgd]; rfl
theorem yafv : szL [] = 0 := rfl
theorem zd7 (t : MTerm) (l : List MTerm) : szL (t :: l) = t.sz + szL l := by simp [szL, MTerm.sz]
theorem yal5 {t : MTerm} : ∀ {l : List MTerm}, t ∈ l → t.sz ≤ szL l
 | [], h => by cases h
 | x :: l, h => by
  rw [zd7]
  rcases List.mem_cons.1 h with rfl | h
  ·omega
  ·have := yal5 h; omega
theorem zix {t x : MTerm} (h : x ∈ t.sub) : x.sz < t.sz := by rw [zr0 t]; have := yal5 h; omega
theorem yadv : ∀ l : List MTerm, l.length ≤ szL l
 | [] => by simp [szL]
 | t :: l => by rw [zd7, List.length_cons, zr0]; have := yadv l; omega
theorem zeq (t : MTerm) : t.sub.length < t.sz := by rw [zr0]; have := yadv t.sub; omega
theorem zcc {Q : MTerm → Prop} (h : ∀ t, (∀ x ∈ t.sub, Q x) → Q t) (t : MTerm) : Q t := by
 generalize hn : t.sz = n
 induction n using Nat.strongRecOn generalizing t with
 | _ n ih =>
  exact h t fun x hx => ih x.sz (by have := zix hx; omega) x rfl
mutual
def MTerm.dp : MTerm → Nat
 | .mk _ _ _ _ _ _ sub => MTerm.dpL sub + 1
def MTerm.dpL : List MTerm → Nat
 | [] => 0
 | t :: l => max t.dp (MTerm.dpL l)
end
theorem yan9 (t : MTerm) : t.dp = MTerm.dpL t.sub + 1 := by obtain ⟨k, w, b, n, l, p, s⟩ := t; rw [MTerm.dp]; rfl
theorem zqu (t : MTerm) (l : List MTerm) : MTerm.dpL (t :: l) = max t.dp (MTerm.dpL l) := by rw [MTerm.dpL]
theorem yasy {t : MTerm} : ∀ {l : List MTerm}, t ∈ l → t.dp ≤ MTerm.dpL l
 | [], h => by cases h
 | x :: l, h => by
  rw [zqu]
  rcases List.mem_cons.1 h with rfl | h
  ·omega
  ·have := yasy h; omega
theorem yasz (t : MTerm) : t.dp ≤ t.sz := by
 refine zcc (Q := fun t => t.dp ≤ t.sz) (fun t h => ?_) t
 rw [yan9, zr0]
 have : ∀ l : List MTerm, (∀ x ∈ l, x.dp ≤ x.sz) → MTerm.dpL l ≤ szL l := by
  intro l
  induction l with
  | nil => intro _; simp [MTerm.dpL]
  | cons x l ih =>
   intro h
   rw [zqu, zd7]
   have h1 := h x (by simp)
   have h2 := ih fun y hy => h y (by simp [hy])
   omega
 have := this t.sub h
 omega
theorem zcx {q : MTerm → Bool} (t : MTerm) : t.nodes.all q = (q t && t.sub.all fun x => x.nodes.all q) := by
 rw [zgd, List.all_cons]
 congr 1
 generalize t.sub = l
 induction l with
 | nil => rfl
 | cons x l ih => rw [List.flatMap_cons, List.all_append, ih]; rfl
set_option maxRecDepth 10000
def rDot : ByteArray := ⟨#[114, 46]⟩
def zr2 (s : ByteArray) : ByteArray := bif decide (2 ≤ s.size) && decide (s.extract 0 2 = rDot) then s.extract 2 s.size else s
def varB (s : ByteArray) : Bool := za3 (zr2 s)
def varC (s : ByteArray) : Bool := bif decide (2 < s.size) && decide (s.extract 0 2 = rDot) then za3 (s.extract 2 s.size) else za3 s
theorem yaqe (s : ByteArray) : varC s = varB s := by
 unfold varC varB zr2
 by_cases h : 2 < s.size
 ·have h2 : 2 ≤ s.size := by omega
  simp only [h, h2, decide_true, Bool.true_and]
  cases decide (s.extract 0 2 = rDot) <;> rfl
 ·by_cases h2 : 2 ≤ s.size
  ·have e : s.size = 2 := by omega
   by_cases h3 : s.extract 0 2 = rDot
   ·have e2 : s = rDot := by
     rw [← h3]
     apply ByteArray.ext
     rw [ByteArray.data_extract]
     have : s.data.size = 2 := e
     rw [← this, Array.extract_size]
    subst e2
    rfl
   ·simp [h, h2, h3]
  ·simp [h, h2]
def okB (w b : Int) : Bool := inR w 1 64 && decide (b ≤ zi6 w)
def zgq (t : MTerm) (i : Nat) : Int := (t.sub.map MTerm.wd).getD i 0
def howL : List Int := [0, 0, 0, 1, 1, 1, 1, 1, 1, 1, 1, 1, 1, 1, 1, 1, 2, 2, 2, 3, 4, 5, 6, 6, 7]
def partL : List Int := [0, 0, 0, 1, 1, 2, 2, 2, 2, 2, 2, 2, 2, 2, 2, 2, 2, 2, 2, 3, 2, 1, 1, 1, 1]
def howK (k : Int) : Int := howL.getD k.toNat 0
def zer (k : Int) : Int := partL.getD k.toNat 0
def zdh (k : Int) : Bool := decide (k ≤ 24) && decide (0 < zer k)
def zl5 (w : Int) : Bool := decide (w = 8) || (decide (w = 16) || (decide (w = 32) || decide (w = 64)))
def zcf (t : MTerm) (how : Int) : Bool :=
 bif decide (how = 1) then t.sub.all (fun y => decide (y.wd = t.wd)) else
 bif decide (how = 2) then decide (t.wd = 1) && decide (zgq t 1 = zgq t 0) else
 bif decide (how = 3) then decide (zgq t 0 = 1) && (decide (zgq t 1 = t.wd) && decide (zgq t 2 = t.wd)) else
 bif decide (how = 4) then inR (zgq t 0) 1 64 && (inR (zgq t 1) 1 64 && decide (IntKind.i64.wrap (zgq t 0 + zgq t 1) = t.wd)) else
 bif decide (how = 5) then decide (0 ≤ t.lo) && (inR (zgq t 0) 1 64 && (decide (t.wd ≤ zgq t 0) && decide (t.lo ≤ IntKind.i64.wrap (zgq t 0 - t.wd)))) else
 bif decide (how = 6) then decide (zgq t 0 ≤ t.wd) else zl5 t.wd
def zic (t : MTerm) : Bool :=
 inR t.wd 1 64 && bif zdh t.kd then decide (t.bt = 0) && (decide (t.nm = ByteArray.empty) && ((decide (t.lo = 0) || decide (howK t.kd = 5)) && (decide ((t.sub.length : Int) = zer t.kd) && zcf t (howK t.kd))))
 else (decide ((t.sub.length : Int) = 0) && decide (t.lo = 0)) && ((decide (t.kd = 1) && (decide (t.nm = ByteArray.empty) && okB t.wd t.bt)) || (decide (t.kd = 2) && (decide (t.bt = 0) && varB t.nm)))
def zb6 (t : MTerm) : Bool := t.nodes.all zic
def zf7 (t : MTerm) : Bool :=
 inR t.wd 1 64 && (
 bif decide (t.kd = 1) then decide ((t.sub.length : Int) = 0) && (decide (t.nm = ByteArray.empty) && (decide (t.lo = 0) && okB t.wd t.bt)) else
 bif decide (t.kd = 2) then decide ((t.sub.length : Int) = 0) && (decide (t.bt = 0) && (decide (t.lo = 0) && varB t.nm)) else
 bif decide (t.kd < 3) || (decide (24 < t.kd) || (!decide (t.bt = 0) || (!decide (t.nm = ByteArray.empty) || ((!decide (t.lo = 0) && !decide (t.kd = 21)) || decide ((t.sub.length : Int) = 0))))) then false else
 bif decide (t.kd = 3) || decide (t.kd = 4) then decide ((t.sub.length : Int) = 1) && decide (zgq t 0 = t.wd) else
 bif decide (t.kd = 16) || (decide (t.kd = 17) || decide (t.kd = 18)) then decide ((t.sub.length : Int) = 2) && (decide (t.wd = 1) && decide (zgq t 1 = zgq t 0)) else
 bif decide (t.kd = 19) then decide ((t.sub.length : Int) = 3) && (decide (zgq t 0 = 1) && (decide (zgq t 1 = t.wd) && decide (zgq t 2 = t.wd))) else
 bif decide (t.kd = 20) then decide ((t.sub.length : Int) = 2) && decide (IntKind.i64.wrap (zgq t 0 + zgq t 1) = t.wd) else
 bif decide (t.kd = 21) then decide ((t.sub.length : Int) = 1) && (decide (0 ≤ t.lo) && (decide (t.lo ≤ zgq t 0) && decide (IntKind.i64.wrap (t.lo + t.wd) ≤ zgq t 0))) else
 bif decide (t.kd = 22) || decide (t.kd = 23) then decide ((t.sub.length : Int) = 1) && decide (zgq t 0 ≤ t.wd) else
 bif decide (t.kd = 24) then decide ((t.sub.length : Int) = 1) && zl5 t.wd else
 decide ((t.sub.length : Int) = 2) && (decide (zgq t 0 = t.wd) && decide (zgq t 1 = t.wd)))
def zde (t : MTerm) : Bool := t.nodes.all zf7
theorem yaz2 {t : MTerm} (h : ∀ x ∈ t.sub, inR x.wd 1 64 = true) {i : Nat} (hi : i < t.sub.length) : 1 ≤ zgq t i ∧ zgq t i ≤ 64 := by
 have e : zgq t i = t.sub[i].wd := by simp [zgq, hi]
 have := h _ (List.getElem_mem hi)
 rw [e]
 simpa [inR] using this
theorem ya2f {l : List MTerm} {w : Int} (h : l.length = 1) : (l.all fun y => decide (y.wd = w)) = decide ((l.map MTerm.wd).getD 0 0 = w) := by
 match l, h with
 | [a], _ => simp
theorem ya2g {l : List MTerm} {w : Int} (h : l.length = 2) : (l.all fun y => decide (y.wd = w)) = (decide ((l.map MTerm.wd).getD 0 0 = w) && decide ((l.map MTerm.wd).getD 1 0 = w)) := by
 match l, h with
 | [a, b], _ => simp
theorem yad8 {t : MTerm} (hk : 0 ≤ t.kd) (h : ∀ x ∈ t.sub, inR x.wd 1 64 = true) : zic t = zf7 t := by
 unfold zic zf7
 cases hw : inR t.wd 1 64 with
 | false => rfl
 | true =>
 have hw' : 1 ≤ t.wd ∧ t.wd ≤ 64 := by simpa [inR] using hw
 simp only [Bool.true_and]
 by_cases hk2 : t.kd ≤ 24
 ·have cases25 : t.kd = 0 ∨ t.kd = 1 ∨ t.kd = 2 ∨ t.kd = 3 ∨ t.kd = 4 ∨ t.kd = 5 ∨ t.kd = 6 ∨ t.kd = 7 ∨ t.kd = 8 ∨ t.kd = 9 ∨ t.kd = 10 ∨ t.kd = 11 ∨ t.kd = 12 ∨ t.kd = 13 ∨ t.kd = 14 ∨ t.kd = 15 ∨ t.kd = 16 ∨ t.kd = 17 ∨ t.kd = 18 ∨ t.kd = 19 ∨ t.kd = 20 ∨ t.kd = 21 ∨ t.kd = 22 ∨ t.kd = 23 ∨ t.kd = 24 := by omega
  have i64w : ∀ x : Int, -1000 ≤ x → x ≤ 1000 → IntKind.i64.wrap x = x := fun x h1 h2 => zdr (by omega) (by omega)
  unfold zgq
  unfold zcf
  unfold zgq
  generalize hs : t.sub = s at h ⊢
  generalize t.kd = k at *
  generalize t.wd = w at *
  generalize t.lo = lo at *
  match s, h with
  | [], h => rcases cases25 with e | e | e | e | e | e | e | e | e | e | e | e | e | e | e | e | e | e | e | e | e | e | e | e | e <;> subst e <;> rw [Bool.eq_iff_iff] <;> simp [zdh, zer, partL, howK, howL] <;> grind
  | [a], h =>
   have ha : 1 ≤ a.wd ∧ a.wd ≤ 64 := by simpa [inR] using h a (by simp)
   have l1 : 0 ≤ lo → lo ≤ 64 → IntKind.i64.wrap (lo + w) = lo + w := fun h1 h2 => i64w _ (by omega) (by omega)
   have l2 := i64w (a.wd - w) (by omega) (by omega)
   rcases cases25 with e | e | e | e | e | e | e | e | e | e | e | e | e | e | e | e | e | e | e | e | e | e | e | e | e <;> subst e <;> rw [Bool.eq_iff_iff] <;> simp [zdh, zer, partL, howK, howL, l2, inR] <;> grind
  | [a, b], h =>
   have ha : 1 ≤ a.wd ∧ a.wd ≤ 64 := by simpa [inR] using h a (by simp)
   have hb : 1 ≤ b.wd ∧ b.wd ≤ 64 := by simpa [inR] using h b (by simp)
   rcases cases25 with e | e | e | e | e | e | e | e | e | e | e | e | e | e | e | e | e | e | e | e | e | e | e | e | e <;> subst e <;> rw [Bool.eq_iff_iff] <;> simp [zdh, zer, partL, howK, howL, inR] <;> grind
  | [a, b, c], h => rcases cases25 with e | e | e | e | e | e | e | e | e | e | e | e | e | e | e | e | e | e | e | e | e | e | e | e | e <;> subst e <;> rw [Bool.eq_iff_iff] <;> simp [zdh, zer, partL, howK, howL] <;> grind
  | a :: b :: c :: d :: l, h =>
   have z0 : ¬ ((l.length : Int) + 1 + 1 + 1 + 1 = 0) := by omega
   have z1 : ¬ ((l.length : Int) + 1 + 1 + 1 + 1 = 1) := by omega
   have z2 : ¬ ((l.length : Int) + 1 + 1 + 1 + 1 = 2) := by omega
   have z3 : ¬ ((l.length : Int) + 1 + 1 + 1 + 1 = 3) := by omega
   rcases cases25 with e | e | e | e | e | e | e | e | e | e | e | e | e | e | e | e | e | e | e | e | e | e | e | e | e <;> subst e <;> simp [zdh, zer, partL, howK, howL, z0, z1, z2, z3]
 ·have e : ¬ t.kd < 3 := by omega
  have e0 : 24 < t.kd := by omega
  simp [zdh, hk2, e0, show ¬ t.kd = 1 by omega, show ¬ t.kd = 2 by omega]
def zha (t : MTerm) : Prop := ∀ x ∈ t.nodes, 0 ≤ x.kd
theorem zfu {t x y : MTerm} (hx : x ∈ t.sub) (hy : y ∈ x.nodes) : y ∈ t.nodes := by
 rw [zgd]; exact List.mem_cons_of_mem _ (List.mem_flatMap.2 ⟨x, hx, hy⟩)
theorem zep (t : MTerm) : t ∈ t.nodes := by rw [zgd]; simp
theorem yact (t : MTerm) (hk : zha t) : zb6 t = zde t := by
 refine zcc (Q := fun t => zha t → zb6 t = zde t) (fun t ih hk => ?_) t hk
 unfold zb6 zde
 rw [zcx, zcx (q := zf7)]
 have e : (t.sub.all fun x => x.nodes.all zic) = (t.sub.all fun x => x.nodes.all zf7) := by
  rw [Bool.eq_iff_iff, List.all_eq_true, List.all_eq_true]
  have ih' : ∀ x ∈ t.sub, x.nodes.all zic = x.nodes.all zf7 := fun x hx => ih x hx fun y hy => hk y (zfu hx hy)
  exact ⟨fun h x hx => by rw [← ih' x hx]; exact h x hx, fun h x hx => by rw [ih' x hx]; exact h x hx⟩
 rw [e]
 cases hs : (t.sub.all fun x => x.nodes.all zf7) with
 | false => rw [Bool.and_false, Bool.and_false]
 | true =>
  rw [Bool.and_true, Bool.and_true]
  refine yad8 (hk t (zep t)) fun x hx => ?_
  have h1 := List.all_eq_true.1 hs x hx
  have h2 := List.all_eq_true.1 h1 x (zep x)
  unfold zf7 at h2
  exact (Bool.and_eq_true_iff.1 h2).1
end Go.Proofs.YtibehelnfbcnjaaGreatDoor.v
namespace Go.Proofs.YtibehelnfbcnjaaGreatDoor.v
open Go Go.Ab
set_option maxRecDepth 10000
set_option linter.unusedSimpArgs false
set_option linter.unusedVariables false
abbrev Bn := ByteArray × Int
section
variable {κ : Type} [DecidableEq κ]
def zdx (n : κ) : List (κ × Int) → Option Int
 | [] => none
 | x :: l => bif decide (n = x.1) then some x.2 else zdx n l
def zoo (n : κ) (w : Int) : List (κ × Int) → List (κ × Int)
 | [] => [(n, w)]
 | x :: l => bif decide (n = x.1) then (x.1, w) :: l else x :: zoo n w l
theorem zhr {n k : κ} {w : Int} : ∀ {l : List (κ × Int)}, zdx k (zoo n w l) = bif decide (k = n) then some w else zdx k l
 | [] => by simp only [zoo, zdx]
 | x :: l => by
  simp only [zoo]
  by_cases h : n = x.1
  ·simp only [h, decide_true, cond_true, zdx]
   by_cases h2 : k = x.1
   ·simp [h2]
   ·simp [h2]
  ·simp only [h, decide_false, cond_false, zdx, zhr (l := l)]
   by_cases h2 : k = x.1
   ·have : ¬ k = n := fun e => h (by rw [← e, h2])
    simp [h2, this, show ¬ x.1 = n from fun e => h e.symm]
   ·simp [h2]
theorem yaf1 {n : κ} {w : Int} : ∀ {l : List (κ × Int)}, zdx n l = some w → zoo n w l = l
 | [], h => by cases h
 | x :: l, h => by
  simp only [zdx] at h
  simp only [zoo]
  by_cases e : n = x.1
  ·simp only [e, decide_true, cond_true, Option.some.injEq] at h ⊢
   rw [← h]
  ·simp only [e, decide_false, cond_false] at h ⊢
   rw [yaf1 h]
end
def zpg : List Bn → List Bn → Bool
 | _, [] => true
 | a, x :: l => (match zdx x.1 a with | some w => decide (w = x.2) | none => true) && zpg (zoo x.1 x.2 a) l
def yasr (x y : Bn) : Prop := x.1 = y.1 ∧ x.2 ≠ y.2
theorem zus : ∀ {l a : List Bn}, zpg a l = true ↔ ((∀ x ∈ l, ∀ w, zdx x.1 a = some w → w = x.2) ∧ l.Pairwise fun x y => ¬ yasr x y)
 | [], a => by simp [zpg]
 | x :: l, a => by
  simp only [zpg, Bool.and_eq_true, zus (l := l), List.pairwise_cons, zhr]
  constructor
  ·rintro ⟨h1, h2, h3⟩
   refine ⟨fun y hy w hw => ?_, ⟨fun y hy hc => ?_, h3⟩⟩
   ·rcases List.mem_cons.1 hy with rfl | hy
    ·rw [hw] at h1; simpa using h1
    ·by_cases e : y.1 = x.1
     ·have := h2 y hy x.2 (by simp [e])
      rw [e] at hw; rw [hw] at h1
      have h1' : w = x.2 := by simpa using h1
      rw [h1', this]
     ·exact h2 y hy w (by simp [e, hw])
   ·exact hc.2 (h2 y hy x.2 (by simp [hc.1.symm]))
  ·rintro ⟨h1, h2, h3⟩
   refine ⟨?_, fun y hy w hw => ?_, h3⟩
   ·cases hg : zdx x.1 a with
    | none => rfl
    | some w => simpa using h1 x (by simp) w hg
   ·by_cases e : y.1 = x.1
    ·simp only [e, decide_true, cond_true, Option.some.injEq] at hw
     by_cases e2 : x.2 = y.2
     ·rw [← hw, e2]
     ·exact absurd ⟨e.symm, e2⟩ (h2 y hy)
    ·simp only [e, decide_false, cond_false] at hw
     exact h1 y (by simp [hy]) w hw
def bad2 (l : List Bn) (i k : Nat) : Bool := match l[k]?, l[i]? with | some x, some y => decide (x.1 = y.1) && !decide (x.2 = y.2) | _, _ => false
def yaa0 (l : List Bn) : Bool := zb0 (fun i => zb0 (fun k => !bad2 l i k) 0 i) 0 l.length
theorem yaf8 {l : List Bn} : yaa0 l = true ↔ l.Pairwise fun x y => ¬ yasr x y := by
 unfold yaa0
 rw [za5, List.pairwise_iff_getElem]
 constructor
 ·intro h i j hi hj hij hc
  have h1 := za5.1 (h j (Nat.zero_le _) hj) i (Nat.zero_le _) hij
  simp [bad2, hi, hj, hc.1] at h1
  exact hc.2 h1
 ·intro h j _ hj
  rw [za5]
  intro i _ hij
  have hi : i < l.length := by omega
  have := h i j hi hj hij
  simp only [bad2, List.getElem?_eq_getElem hi, List.getElem?_eq_getElem hj]
  cases hb : (decide (l[i].1 = l[j].1) && !decide (l[i].2 = l[j].2)) with
  | false => rfl
  | true =>
   simp at hb
   exact absurd ⟨hb.1, hb.2⟩ this
theorem yaqg (l : List Bn) : zpg [] l = yaa0 l := by
 rw [Bool.eq_iff_iff, zus, yaf8]
 simp [zdx]
def zgi (t : MTerm) : List Bn := (t.nodes.filter fun x => decide (x.kd = 2)).map fun x => (x.nm, x.wd)
def zpe (t : MTerm) : Bool := decide ((400 : Int) < t.sz) || decide ((60 : Int) < t.dp)
def zla (t : MTerm) : Int := bif zpe t then 4 else bif !zb6 t then 8 else bif !zpg [] (zgi t) then 14 else 0
def zr1 (t : MTerm) : Int := bif zpe t then 4 else bif !zde t then 8 else bif !yaa0 (zgi t) then 14 else 0
theorem zzb (t : MTerm) (hk : zha t) : zr1 t = zla t := by
 unfold zr1 zla
 rw [yact t hk, yaqg]
end Go.Proofs.YtibehelnfbcnjaaGreatDoor.v
namespace Go.Proofs.YtibehelnfbcnjaaGreatDoor.v
open Go Go.Ab
set_option maxRecDepth 10000
set_option linter.unusedSimpArgs false
set_option linter.unusedVariables false
section
variable {κ : Type} [DecidableEq κ]
def zjc (mk : κ → AV) (mv : Int → AV) : Nat → List (κ × Int) → List (AV × AV × Nat)
 | _, [] => []
 | i, x :: l => (mk x.1, mv x.2, i) :: zjc mk mv (i + 1) l
def zu1 (mk : κ → AV) : Prop := ∀ a b, zcz (mk a) (mk b) = some (decide (a = b))
variable {mk : κ → AV} {mv : Int → AV}
theorem zqy (hk : zu1 mk) {n : κ} {z : AV} {ok : Bool} : ∀ {l : List (κ × Int)} {i j : Nat}, lkR z ok (zdk (mk n) (zjc mk mv i l) j) = some (match zdx n l with | some w => if ok then .tup [mv w, .bool true] else mv w | none => if ok then .tup [z, .bool false] else z)
 | [], i, j => rfl
 | x :: l, i, j => by
  simp only [zjc, zdk, hk n x.1, zdx]
  by_cases h : n = x.1
  ·simp only [h, decide_true, cond_true, lkR]
  ·simp only [h, decide_false, cond_false]
   exact zqy hk
theorem yald (hk : zu1 mk) {n : κ} {z : Int} {l : List (κ × Int)} : lkR (mv z) false (zdk (mk n) (zjc mk mv 0 l) 0) = some (mv ((zdx n l).getD z)) := by
 rw [zqy hk]
 cases zdx n l <;> rfl
theorem yaos (hk : zu1 mk) {n : κ} {z : Int} {l : List (κ × Int)} : lkR (mv z) true (zdk (mk n) (zjc mk mv 0 l) 0) = some (.tup [mv ((zdx n l).getD z), .bool (zdx n l).isSome]) := by
 rw [zqy hk]
 cases zdx n l <;> rfl
theorem zxy (hk : zu1 mk) {n : κ} {w : Int} : ∀ {l : List (κ × Int)} {i j : Nat}, (zdx n l = none ∧ zdk (mk n) (zjc mk mv i l) j = some none ∧ zoo n w l = l ++ [(n, w)]) ∨
  (∃ p v, zdk (mk n) (zjc mk mv i l) j = some (some (p + j, v, p + i)) ∧ (zjc mk mv i l).set p (mk n, mv w, p + i) = zjc mk mv i (zoo n w l) ∧ (zoo n w l).length = l.length)
 | [], i, j => .inl ⟨rfl, rfl, rfl⟩
 | x :: l, i, j => by
  simp only [zjc, zdk, hk n x.1, zdx, zoo]
  by_cases h : n = x.1
  ·right
   simp only [h, decide_true, cond_true]
   exact ⟨0, mv x.2, by simp, by simp [zjc], rfl⟩
  ·simp only [h, decide_false, cond_false]
   rcases zxy hk (n := n) (w := w) (l := l) (i := i + 1) (j := j + 1) with ⟨h1, h2, h3⟩ | ⟨p, v, h1, h2, h3⟩
   ·exact .inl ⟨h1, h2, by rw [h3]; rfl⟩
   ·refine .inr ⟨p + 1, v, ?_, ?_, by simp [h3]⟩
    ·rw [h1, show p + (j + 1) = p + 1 + j by omega, show p + (i + 1) = p + 1 + i by omega]
    ·rw [List.set_cons_succ, zjc, ← h2, show p + (i + 1) = p + 1 + i by omega]
theorem zxt : ∀ {l : List (κ × Int)} {i : Nat} {x : κ × Int}, zjc mk mv i (l ++ [x]) = zjc mk mv i l ++ [(mk x.1, mv x.2, i + l.length)]
 | [], i, x => by simp [zjc]
 | y :: l, i, x => by rw [List.cons_append, zjc, zxt, List.length_cons, zjc, List.cons_append, show i + 1 + l.length = i + (l.length + 1) by omega]
theorem yalh (hk : zu1 mk) {n : κ} {w : Int} {H : Heap} {b c : Nat} {l : List (κ × Int)} (hc : c = l.length) :
  muR H b (mk n) (mv w) (zjc mk mv 0 l) c (zdk (mk n) (zjc mk mv 0 l) 0) = some (H.set b (.map (zjc mk mv 0 (zoo n w l)) (zoo n w l).length)) := by
 subst hc
 rcases zxy hk (mv := mv) (n := n) (w := w) (l := l) (i := 0) (j := 0) with ⟨h1, h2, h3⟩ | ⟨p, v, h1, h2, h3⟩
 ·rw [h2, h3, zxt]; simp [muR]
 ·rw [h1, h3]
  simp only [muR, Nat.add_zero]
  rw [← h2, Nat.add_zero]
theorem yaw5 {i : Nat} : zjc mk mv i [] = [] := rfl
end
def strK (s : ByteArray) : AV := .str s
def i64V (n : Int) : AV := .int .i64 n
theorem zv1 : zu1 AV.str := fun a b => by
 simp only [zcz]
 by_cases h : a = b
 ·simp [h]
 ·have : ¬ a.data = b.data := fun e => h (ByteArray.ext e)
  simp [h, this]
theorem yadq (k : IntKind) : zu1 (AV.int k) := fun a b => by
 simp only [zcz]
 by_cases h : a = b <;> simp [h]
theorem zqv {κ : Type} [DecidableEq κ] {mk : κ → AV} {mv : Int → AV} (h1 : ∀ a, (mk a).refs = []) (h2 : ∀ a, (mv a).refs = []) {c : Nat} : ∀ {l : List (κ × Int)} {i : Nat}, (Blk.map (zjc mk mv i l) c).refs = []
 | [], _ => rfl
 | x :: l, i => by
  have := zqv h1 h2 (c := c) (l := l) (i := i + 1)
  simp only [Blk.refs] at this ⊢
  rw [zjc, List.flatMap_cons, this, h1, h2]; rfl
theorem yacp {κ : Type} [DecidableEq κ] {mk : κ → AV} {mv : Int → AV} {ρ : Nat → Nat} (h1 : ∀ a, (mk a).ren ρ = mk a) (h2 : ∀ a, (mv a).ren ρ = mv a) {c : Nat} {l : List (κ × Int)} {i : Nat} : (Blk.map (zjc mk mv i l) c).ren ρ = .map (zjc mk mv i l) c := by
 have : ∀ {l : List (κ × Int)} {i : Nat}, (zjc mk mv i l).map (fun e => (e.1.ren ρ, e.2.1.ren ρ, e.2.2)) = zjc mk mv i l := by
  intro l
  induction l with
  | nil => intro i; rfl
  | cons x l ih => intro i; rw [zjc, List.map_cons, ih, h1, h2]
 simp only [Blk.ren, this]
end Go.Proofs.YtibehelnfbcnjaaGreatDoor.v
namespace Go.Proofs.YtibehelnfbcnjaaGreatDoor.v
open Go Go.Ab
set_option maxRecDepth 100000
set_option linter.unusedSimpArgs false
set_option linter.unusedVariables false
theorem znv (t : MTerm) : zas Tryz.prog (om Tryz.prog) 156 [zaf t] ⟨0, []⟩ = some (.func 168 [] [.ptr 0 0], ⟨1, [some (.cells 81 t.cs)]⟩) := by
 obtain ⟨k, w, b, n, l, p, sub⟩ := t
 rw [yam8 _ _ (by simp)]
 simp (maxSteps := 1000000) -implicitDefEqProofs only [↓reduceIte, ↓cond_true, ↓cond_false, sr1, sr2, kA, seval, d156, n156, zaf, MTerm.cs, zm9]
noncomputable abbrev hz (t : MTerm) (c : Nat) : Heap := ⟨4, [some (.loop .ready none 154 ⟨10, [(3, .ptr 1 0), (5, .func 168 [] [.ptr 2 0])]⟩ [6] (lpa Tryz.f154 0) (lpb Tryz.f154 0) 3), some (.cells 3 [.int .i64 (c : Int)]), some (.cells 81 t.cs), some .dfr]⟩
theorem yajt (t0 : MTerm) (p : Pl) (l : List MTerm) (hl : l.length < 2 ^ 62) (hS : ∀ x ∈ l, ∀ c, c + x.sz < 2 ^ 62 → zas Tryz.prog (om Tryz.prog) 169 [zaf x, .yieldf 0] (hz t0 c) = some (.bool true, hz t0 (c + x.sz))) :
  ∀ i, i ≤ l.length → ∀ c, c + szL (l.drop i) < 2 ^ 62 → lim (some []) 4 (blk 0 (om Tryz.prog ⟨169, none⟩ 4 (.loop (lpb Tryz.f169 0)) ⟨⟨23, [(1, .yieldf 0), (12, .rsl (slA p l) p.cap 6 (l.map zaf)), (13, .int .i64 l.length), (14, .int .i64 i)]⟩, [], hz t0 c⟩)) = some (.normal, ⟨⟨23, []⟩, [], hz t0 (c + szL (l.drop i))⟩) := by
 refine zbl (fun c h1 => ?_) (fun i h ih c h1 => ?_) <;> rw [zac]
 ·simp (maxSteps := 1000000) -implicitDefEqProofs only [↓reduceIte, ↓cond_true, ↓cond_false, sr1, sr2, kA, seval, zvo, zv6, zvr, List.drop_length, yafv, zah, hz]
 ·have e : szL (l.drop i) = l[i].sz + szL (l.drop (i + 1)) := by rw [List.drop_eq_getElem_cons h, zd7]
  rw [e] at h1 ⊢
  have hx := hS l[i] (List.getElem_mem h) c (by omega)
  have L := ih (c + l[i].sz) (by omega)
  rw [Nat.add_assoc] at L
  simp only [hz, zaf, zah] at hx L
  simp (maxSteps := 1000000) -implicitDefEqProofs only [↓reduceIte, ↓cond_true, ↓cond_false, sr1, sr2, kA, seval, zvo, zv6, zvr, dlt_t h, wi_nat (show i < 2 ^ 62 by omega), Go.Proofs.YtibehelnfbcnjaaGreatDoor.v.ix_sl zab h, zaf, zah, hz, hx, L]
theorem yaa3 (t0 : MTerm) : ∀ t : MTerm, ∀ c, c + t.sz < 2 ^ 62 → zas Tryz.prog (om Tryz.prog) 169 [zaf t, .yieldf 0] (hz t0 c) = some (.bool true, hz t0 (c + t.sz)) := by
 intro t
 refine zcc (Q := fun t => ∀ c, c + t.sz < 2 ^ 62 → zas Tryz.prog (om Tryz.prog) 169 [zaf t, .yieldf 0] (hz t0 c) = some (.bool true, hz t0 (c + t.sz))) (fun t ih c hc => ?_) t
 have hs := zeq t
 have L := yajt t0 t.pl t.sub (by omega) ih 0 (Nat.zero_le _) (c + 1) (by rw [zr0] at hc; rw [List.drop_zero]; omega)
 simp only [hz, zaf, zah, List.drop_zero, Int.natCast_zero] at L
 have e : c + 1 + szL t.sub = c + t.sz := by rw [zr0]; omega
 rw [e] at L
 rw [zve _ _ (by simp)]
 simp (maxSteps := 1000000) -implicitDefEqProofs only [↓reduceIte, ↓cond_true, ↓cond_false, sr1, sr2, kA, seval, zvo, zv6, zvr, d154, n154, e154, zaf, zah, wi_nat (show c < 2 ^ 62 by omega), hz, L]
theorem yajb (t : MTerm) (hc : t.sz < 2 ^ 62) : zas Tryz.prog (om Tryz.prog) 154 [zaf t] ⟨0, []⟩ = some (.int .i64 t.sz, ⟨0, []⟩) := by
 have hn := znv t
 have hv := yaa3 t t 0 (by omega)
 simp only [hz, zaf, zah, Nat.zero_add, Int.natCast_zero] at hn hv
 rw [yam6 _ _ (by simp)]
 simp (maxSteps := 1000000) -implicitDefEqProofs only [↓reduceIte, ↓cond_true, ↓cond_false, sr1, sr2, kA, seval, d154, n154, e154, zaf, zah, hn]
 rw [zm3 _ _ (by simp)]
 simp (maxSteps := 1000000) -implicitDefEqProofs only [↓reduceIte, ↓cond_true, ↓cond_false, sr1, sr2, kA, seval, d168, n168, d154, n154, e154, zaf, zah, hz, hv]
end Go.Proofs.YtibehelnfbcnjaaGreatDoor.v
